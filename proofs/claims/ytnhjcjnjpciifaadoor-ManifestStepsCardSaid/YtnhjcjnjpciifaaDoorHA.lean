/- Tables in order, what an edit makes of a version: the plain law, no program in sight. -/
import Derived.Test.YtnhjcjnjpciifaaDoorShMapsR
import Derived.Test.YtnhjcjnjpciifaaDoorShSortsK
import Derived.Shelf.SlSortCmp.WholeK
import Derived.Sort.Walk0
namespace Go.Proofs.YtnhjcjnjpciifaaDoor
open Go.Sh

def lettersOf (s : ByteArray) : List UInt8 := s.data.toList
def textOf (l : List UInt8) : ByteArray := ⟨l.toArray⟩
@[simp] theorem textOf_letters (s : ByteArray) : textOf (lettersOf s) = s := by cases s; rfl
def ltB (a b : ByteArray) : Prop := lettersOf a < lettersOf b
instance (a b : ByteArray) : Decidable (ltB a b) := inferInstanceAs (Decidable (lettersOf a < lettersOf b))
theorem ltB_irrefl (a : ByteArray) : ¬ ltB a a := List.lt_irrefl _
theorem ltB_trans {a b c : ByteArray} (h1 : ltB a b) (h2 : ltB b c) : ltB a c := List.lt_trans h1 h2
theorem letters_inj {a b : ByteArray} (h : lettersOf a = lettersOf b) : a = b := by
  have := congrArg textOf h
  simpa using this
theorem ltB_total {a b : ByteArray} (h1 : ¬ ltB a b) (h2 : a ≠ b) : ltB b a := by
  unfold ltB at h1 ⊢
  have h3 : lettersOf b ≤ lettersOf a := List.not_lt.1 h1
  rcases List.le_iff_lt_or_eq.1 h3 with h | h
  · exact h
  · exact absurd (letters_inj h).symm h2
theorem less_eq (a b : ByteArray) : Op.bytesLess (ByteArray.toList a) (ByteArray.toList b) = decide (ltB a b) := by
  rw [bytesLess_eq, ByteArray.toList_eq, ByteArray.toList_eq]
  rfl
theorem text_eq (a b : ByteArray) : (ByteArray.toList a == ByteArray.toList b) = decide (a = b) := by
  rw [ByteArray.toList_eq, ByteArray.toList_eq, Bool.eq_iff_iff, beq_iff_eq, decide_eq_true_eq]
  constructor
  · intro h
    cases a; cases b
    simpa using h
  · intro h; rw [h]

structure Tab where
  (file level : Int) (first last : ByteArray) (size : Int)
def Tab.cells (t : Tab) : List Value := [.int .i64 t.file, .int .i64 t.level, .string t.first, .string t.last, .int .i64 t.size]
instance : Inhabited Tab := ⟨⟨0, 0, default, default, 0⟩⟩
theorem tcells_len (t : Tab) : t.cells.length = 5 := rfl

def cmpI (x y : Int) : Int := if x < y then -1 else if x > y then 1 else 0
def cmpS (x y : ByteArray) : Int := if ltB x y then -1 else if ltB y x then 1 else 0
def or3 (x y z : Int) : Int := if x ≠ 0 then x else if y ≠ 0 then y else z
def cmpT (a b : Tab) : Int := or3 (cmpI a.level b.level) (cmpS a.first b.first) (cmpI a.file b.file)
def ltT (a b : Tab) : Prop := a.level < b.level ∨ (a.level = b.level ∧ (ltB a.first b.first ∨ (a.first = b.first ∧ a.file < b.file)))
theorem cmpI_lt (x y : Int) : cmpI x y = -1 ∧ x < y ∨ cmpI x y = 1 ∧ y < x ∨ cmpI x y = 0 ∧ x = y := by
  unfold cmpI
  split
  · exact .inl ⟨rfl, by assumption⟩
  · split
    · exact .inr (.inl ⟨rfl, by omega⟩)
    · exact .inr (.inr ⟨rfl, by omega⟩)
theorem cmpS_lt (x y : ByteArray) : cmpS x y = -1 ∧ ltB x y ∨ cmpS x y = 1 ∧ ltB y x ∨ cmpS x y = 0 ∧ x = y := by
  unfold cmpS
  split
  · exact .inl ⟨rfl, by assumption⟩
  · split
    · exact .inr (.inl ⟨rfl, by assumption⟩)
    · rename_i h1 h2
      refine .inr (.inr ⟨rfl, ?_⟩)
      by_cases h : x = y
      · exact h
      · exact absurd (ltB_total h1 h) h2
theorem ltT_cmp (a b : Tab) : cmpT a b < 0 ↔ ltT a b := by
  unfold cmpT or3 ltT
  rcases cmpI_lt a.level b.level with ⟨e1, h1⟩ | ⟨e1, h1⟩ | ⟨e1, h1⟩ <;> rw [e1]
  · simp [h1]
  · simp; omega
  · rw [if_neg (by decide)]
    rcases cmpS_lt a.first b.first with ⟨e2, h2⟩ | ⟨e2, h2⟩ | ⟨e2, h2⟩ <;> rw [e2]
    · simp [h1, h2]
    · rw [if_pos (by decide)]
      refine ⟨fun h => by omega, fun h => ?_⟩
      rcases h with h | ⟨_, h | ⟨h, _⟩⟩
      · omega
      · exact absurd (ltB_trans h h2) (ltB_irrefl _)
      · rw [h] at h2; exact absurd h2 (ltB_irrefl _)
    · rw [if_neg (by decide)]
      rcases cmpI_lt a.file b.file with ⟨e3, h3⟩ | ⟨e3, h3⟩ | ⟨e3, h3⟩ <;> rw [e3]
      · simp [h1, h2, h3]
      · refine ⟨fun h => by omega, fun h => ?_⟩
        rcases h with h | ⟨_, h | ⟨_, h⟩⟩
        · omega
        · rw [h2] at h; exact absurd h (ltB_irrefl _)
        · omega
      · refine ⟨fun h => by omega, fun h => ?_⟩
        rcases h with h | ⟨_, h | ⟨_, h⟩⟩
        · omega
        · rw [h2] at h; exact absurd h (ltB_irrefl _)
        · omega
theorem ltT_irrefl (a : Tab) : ¬ ltT a a := by
  rintro (h | ⟨_, h | ⟨_, h⟩⟩)
  · omega
  · exact ltB_irrefl _ h
  · omega
theorem ltT_trans {a b c : Tab} (h1 : ltT a b) (h2 : ltT b c) : ltT a c := by
  rcases h1 with h1 | ⟨e1, h1 | ⟨f1, h1⟩⟩ <;> rcases h2 with h2 | ⟨e2, h2 | ⟨f2, h2⟩⟩
  · exact .inl (by omega)
  · exact .inl (by omega)
  · exact .inl (by omega)
  · exact .inl (by omega)
  · exact .inr ⟨by omega, .inl (ltB_trans h1 h2)⟩
  · exact .inr ⟨by omega, .inl (by rw [← f2]; exact h1)⟩
  · exact .inl (by omega)
  · exact .inr ⟨by omega, .inl (by rw [f1]; exact h2)⟩
  · exact .inr ⟨by omega, .inr ⟨f1.trans f2, by omega⟩⟩
theorem ltT_total {a b : Tab} (h1 : ¬ ltT a b) (h2 : a.file ≠ b.file) : ltT b a := by
  unfold ltT at *
  by_cases e1 : a.level < b.level
  · exact absurd (.inl e1) h1
  by_cases e2 : b.level < a.level
  · exact .inl e2
  have e3 : a.level = b.level := by omega
  refine .inr ⟨e3.symm, ?_⟩
  by_cases f1 : ltB a.first b.first
  · exact absurd (.inr ⟨e3, .inl f1⟩) h1
  by_cases f2 : a.first = b.first
  · refine .inr ⟨f2.symm, ?_⟩
    by_cases g : a.file < b.file
    · exact absurd (.inr ⟨e3, .inr ⟨f2, g⟩⟩) h1
    · omega
  · exact .inl (ltB_total f1 f2)
open Go.Sort in
theorem ltOf_cmpT (x y : Tab) : ltOf cmpT x y = true ↔ ltT x y := by
  unfold ltOf
  rw [decide_eq_true_eq]
  exact ltT_cmp x y
instance (a b : Tab) : Decidable (ltT a b) := decidable_of_iff _ (ltT_cmp a b)
theorem ltT_ntrans {x y z : Tab} (h1 : ¬ ltT x y) (h2 : ¬ ltT y z) : ¬ ltT x z := by
  -- equal in all three, or after one another
  have key : ∀ a b : Tab, ¬ ltT a b → ltT b a ∨ (a.level = b.level ∧ a.first = b.first ∧ a.file = b.file) := by
    intro a b h
    by_cases hf : a.file = b.file
    · by_cases e1 : a.level < b.level
      · exact absurd (.inl e1) h
      by_cases e2 : b.level < a.level
      · exact .inl (.inl e2)
      have e3 : a.level = b.level := by omega
      by_cases f1 : ltB a.first b.first
      · exact absurd (.inr ⟨e3, .inl f1⟩) h
      by_cases f2 : a.first = b.first
      · exact .inr ⟨e3, f2, hf⟩
      · exact .inl (.inr ⟨e3.symm, .inl (ltB_total f1 f2)⟩)
    · exact .inl (ltT_total h hf)
  have same : ∀ {a b c : Tab}, a.level = b.level → a.first = b.first → a.file = b.file → (ltT b c ↔ ltT a c) ∧ (ltT c b ↔ ltT c a) := by
    intro a b c e1 e2 e3
    unfold ltT
    rw [e1, e2, e3]
    exact ⟨Iff.rfl, Iff.rfl⟩
  intro h
  rcases key _ _ h1 with k1 | ⟨a1, a2, a3⟩
  · rcases key _ _ h2 with k2 | ⟨b1, b2, b3⟩
    · exact ltT_irrefl _ (ltT_trans h (ltT_trans k2 k1))
    · exact h1 ((same (c := x) b1 b2 b3).2.1 h)
  · exact h2 ((same (c := z) a1 a2 a3).1.2 h)
theorem swoT : Go.Sort.SWO (ltOf cmpT) where
  irrefl x := by
    rw [Bool.eq_false_iff]
    intro h
    exact ltT_irrefl _ ((ltOf_cmpT x x).1 h)
  trans x y z h1 h2 := by
    rw [ltOf_cmpT] at *
    exact ltT_trans h1 h2
  ntrans x y z h1 h2 := by
    rw [Bool.eq_false_iff] at *
    intro h3
    exact ltT_ntrans (fun h => h1 ((ltOf_cmpT x y).2 h)) (fun h => h2 ((ltOf_cmpT y z).2 h)) ((ltOf_cmpT x z).1 h3)

/- The one row in order. -/
def insT (x : Tab) : List Tab → List Tab
  | [] => [x]
  | y :: t => if ltT y x then y :: insT x t else x :: y :: t
def sortT : List Tab → List Tab
  | [] => []
  | x :: t => insT x (sortT t)
theorem insT_perm (x : Tab) : ∀ l, (insT x l).Perm (x :: l)
  | [] => .refl _
  | y :: t => by
    unfold insT
    split
    · exact ((insT_perm x t).cons y).trans (.swap x y t)
    · exact .refl _
theorem sortT_perm : ∀ l, (sortT l).Perm l
  | [] => .refl _
  | x :: t => (insT_perm x (sortT t)).trans ((sortT_perm t).cons x)
def filesOf (l : List Tab) : List Int := l.map (·.file)
def SrtT (l : List Tab) : Prop := l.Pairwise ltT
theorem SrtT.ins {x : Tab} : ∀ {l : List Tab}, SrtT l → x.file ∉ filesOf l → SrtT (insT x l)
  | [], _, _ => List.pairwise_singleton _ _
  | y :: t, h, hx => by
    obtain ⟨h1, h2⟩ := List.pairwise_cons.1 h
    have hy : y.file ≠ x.file := fun e => hx (by simp [filesOf, e])
    have ht : x.file ∉ filesOf t := fun e => hx (by simp only [filesOf, List.map_cons, List.mem_cons]; exact .inr e)
    unfold insT
    split
    · rename_i hl
      refine List.pairwise_cons.2 ⟨fun z hz => ?_, SrtT.ins h2 ht⟩
      rcases List.mem_cons.1 ((insT_perm x t).subset hz) with rfl | hz
      · exact hl
      · exact h1 z hz
    · rename_i hl
      have hxy : ltT x y := ltT_total hl hy
      refine List.pairwise_cons.2 ⟨fun z hz => ?_, h⟩
      rcases List.mem_cons.1 hz with rfl | hz
      · exact hxy
      · exact ltT_trans hxy (h1 z hz)
theorem sortT_srt : ∀ {l : List Tab}, (filesOf l).Nodup → SrtT (sortT l)
  | [], _ => .nil
  | x :: t, h => by
    simp only [filesOf, List.map_cons, List.nodup_cons] at h
    refine SrtT.ins (sortT_srt h.2) fun hc => h.1 ?_
    exact ((sortT_perm t).map (·.file)).subset hc
theorem srt_unique : ∀ {d e : List Tab}, d.Perm e → (d.Pairwise fun x y => ¬ ltT y x) → SrtT e → d = e
  | [], e, h, _, _ => by rw [List.nil_perm.1 h]
  | x :: t, [], h, _, _ => by simp at h
  | x :: t, y :: s, h, h1, h2 => by
    obtain ⟨a1, a2⟩ := List.pairwise_cons.1 h1
    obtain ⟨b1, b2⟩ := List.pairwise_cons.1 h2
    have hxy : x = y := by
      rcases List.mem_cons.1 (h.subset (List.mem_cons_self ..)) with e | hx
      · exact e
      · rcases List.mem_cons.1 (h.symm.subset (List.mem_cons_self ..)) with e | hy
        · exact e.symm
        · exact absurd (b1 x hx) (a1 y hy)
    subst hxy
    rw [srt_unique (h.cons_inv) a2 b2]
theorem sorted_is {s d : List Tab} (hp : d.Perm s) (hs : d.Pairwise fun x y => ¬ ltT y x) (hf : (filesOf s).Nodup) : d = sortT s :=
  srt_unique (hp.trans (sortT_perm s).symm) hs (sortT_srt hf)

/- What an edit makes of a version. -/
structure Ver where
  (l : List Tab) (seq nxt wal : Int)
structure EditP where
  (add : List Tab) (drop : List Int) (seq nxt wal : Int)
def zeroV : Ver := ⟨[], 0, 0, 0⟩
def hasF (l : List Tab) (n : Int) : Bool := l.any fun t => t.file == n
def dropBad (l : List Tab) : List Int → List Int → Bool
  | _, [] => false
  | seen, n :: t => !hasF l n || seen.contains n || dropBad l (seen ++ [n]) t
def addBad (l : List Tab) (t : Tab) : Bool := decide (t.file < 0) || hasF l t.file || decide (t.level < 0) || decide (t.level > 6) || decide (ltB t.last t.first) || decide (t.size < 0) || decide (t.file > 1099511627776) || decide (t.size > 1099511627776)
def addAll : List Tab → List Tab → Option (List Tab)
  | l, [] => some l
  | l, t :: r => if addBad l t then none else addAll (l ++ [t]) r
def shareB (x y : Tab) : Bool := decide (y.level > 0) && (y.level == x.level) && !decide (ltB x.last y.first)
def sharedP : List Tab → Bool
  | x :: y :: t => shareB x y || sharedP (y :: t)
  | _ => false
def numsBad (v : Ver) (e : EditP) : Bool := (e.seq != 0 && decide (e.seq < v.seq)) || (e.nxt != 0 && decide (e.nxt < v.nxt)) || (e.wal != 0 && decide (e.wal < v.wal)) || decide (e.nxt > 1099511627776) || decide (e.wal > 1099511627776)
def or2 (x y : Int) : Int := if x ≠ 0 then x else y
def kept (l : List Tab) (drop : List Int) : List Tab := l.filter fun t => !drop.contains t.file
def applyP (v : Ver) (e : EditP) : Ver × Int :=
  if dropBad v.l [] e.drop then (zeroV, 4)
  else match addAll (kept v.l e.drop) e.add with
    | none => (zeroV, 1)
    | some l =>
      if (sortT l).length > 65536 then (zeroV, 1)
      else if sharedP (sortT l) then (zeroV, 15)
      else if numsBad v e then (zeroV, 1)
      else (⟨sortT l, or2 e.seq v.seq, or2 e.nxt v.nxt, or2 e.wal v.wal⟩, 0)
/-- Several, one behind the other. -/
def appliesP : Ver → List EditP → Ver × Int
  | v, [] => (v, 0)
  | v, e :: t => if (applyP v e).2 = 0 then appliesP (applyP v e).1 t else (zeroV, (applyP v e).2)
structure OkV (v : Ver) : Prop where
  files : (filesOf v.l).Nodup
  srt : SrtT v.l
theorem hasF_mem {l : List Tab} {n : Int} : hasF l n = true ↔ n ∈ filesOf l := by
  unfold hasF filesOf
  rw [List.any_eq_true, List.mem_map]
  constructor
  · rintro ⟨t, h1, h2⟩; exact ⟨t, h1, by simpa using h2⟩
  · rintro ⟨t, h1, h2⟩; exact ⟨t, h1, by simpa using h2⟩
theorem addAll_nodup : ∀ {r l l' : List Tab}, (filesOf l).Nodup → addAll l r = some l' → (filesOf l').Nodup ∧ l'.length = l.length + r.length
  | [], l, l', h, he => by simp only [addAll, Option.some.injEq] at he; subst he; exact ⟨h, rfl⟩
  | t :: r, l, l', h, he => by
    unfold addAll at he
    split at he
    · cases he
    · rename_i hb
      have hn : ¬ t.file ∈ filesOf l := fun hc => hb (by unfold addBad; rw [hasF_mem.2 hc]; simp)
      obtain ⟨h1, h2⟩ := addAll_nodup (r := r) (l := l ++ [t]) (by
        unfold filesOf
        rw [List.map_append, List.nodup_append]
        exact ⟨h, by simp, fun a ha b hb' e => by
          simp at hb'
          subst hb' e
          exact hn ha⟩) he
      exact ⟨h1, by rw [h2]; simp; omega⟩
theorem kept_nodup {l : List Tab} {d : List Int} (h : (filesOf l).Nodup) : (filesOf (kept l d)).Nodup := by
  unfold filesOf kept
  exact List.Nodup.sublist ((List.filter_sublist).map _) h
theorem OkV.zero : OkV zeroV := ⟨by simp [zeroV, filesOf], .nil⟩
theorem OkV.apply {v : Ver} (h : OkV v) (e : EditP) : OkV (applyP v e).1 := by
  unfold applyP
  split
  · exact OkV.zero
  split
  · exact OkV.zero
  rename_i l hl
  have h1 := (addAll_nodup (kept_nodup h.files) hl).1
  split
  · exact OkV.zero
  split
  · exact OkV.zero
  split
  · exact OkV.zero
  · refine ⟨?_, sortT_srt h1⟩
    have h2 : (filesOf (sortT l)).Perm (filesOf l) := (sortT_perm l).map _
    exact h2.nodup_iff.2 h1
theorem apply_len {v : Ver} (h : OkV v) (e : EditP) : (applyP v e).1.l.length ≤ v.l.length + e.add.length := by
  unfold applyP
  split
  · exact Nat.zero_le _
  split
  · exact Nat.zero_le _
  rename_i l hl
  have h1 := (addAll_nodup (kept_nodup h.files) hl).2
  have h2 : (kept v.l e.drop).length ≤ v.l.length := List.length_filter_le _ _
  have h3 := (sortT_perm l).length_eq
  split
  · exact Nat.zero_le _
  split
  · exact Nat.zero_le _
  split
  · exact Nat.zero_le _
  · simp only; omega
theorem apply_err {v : Ver} {e : EditP} (h : (applyP v e).2 ≠ 0) : (applyP v e).1 = zeroV := by
  unfold applyP at h ⊢
  split
  · rfl
  rename_i h1
  rw [if_neg h1] at h
  split
  · rfl
  rename_i l hl
  rw [hl] at h
  simp only at h
  split
  · rfl
  rename_i h2
  rw [if_neg h2] at h
  split
  · rfl
  rename_i h3
  rw [if_neg h3] at h
  split
  · rfl
  rename_i h4
  rw [if_neg h4] at h
  exact absurd rfl h
/-- Edits taken one behind the other make what all make at once. -/
theorem applies_snoc : ∀ {t : List EditP} {v u : Ver} {e : EditP}, appliesP v t = (u, 0) → (applyP u e).2 = 0 → appliesP v (t ++ [e]) = ((applyP u e).1, 0)
  | [], v, u, e, h, he => by
    simp only [appliesP, Prod.mk.injEq, and_true] at h
    subst h
    show (if (applyP v e).2 = 0 then appliesP (applyP v e).1 [] else _) = _
    rw [if_pos he]; rfl
  | x :: t, v, u, e, h, he => by
    unfold appliesP at h
    split at h
    · rename_i hx
      show (if (applyP v x).2 = 0 then appliesP (applyP v x).1 (t ++ [e]) else _) = _
      rw [if_pos hx]
      exact applies_snoc h he
    · rename_i hx
      exact absurd (congrArg Prod.snd h) hx
end Go.Proofs.YtnhjcjnjpciifaaDoor
