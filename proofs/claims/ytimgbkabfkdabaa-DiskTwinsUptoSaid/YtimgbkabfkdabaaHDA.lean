/- A disk as a list of files in the order of their names: the plain law, no program in sight; when a disk in memory is one. -/
import Derived.Test.YtimgbkabfkdabaaHV
import Derived.Test.YtimgbkabfkdabaaShMapsR
import Derived.Sort.Walk0
namespace Go.Proofs.Ytimgbkabfkdabaa
open Go.Sh

abbrev AF := ByteArray × (List UInt8 × Nat)
def ltB (a b : ByteArray) : Prop := lettersOf a < lettersOf b
instance (a b : ByteArray) : Decidable (ltB a b) := inferInstanceAs (Decidable (lettersOf a < lettersOf b))
theorem ltB_irrefl (a : ByteArray) : ¬ ltB a a := List.lt_irrefl _
theorem ltB_trans {a b c : ByteArray} (h1 : ltB a b) (h2 : ltB b c) : ltB a c := List.lt_trans h1 h2
theorem ltB_asymm {a b : ByteArray} (h1 : ltB a b) : ¬ ltB b a := fun h2 => ltB_irrefl a (ltB_trans h1 h2)
theorem letters_inj {a b : ByteArray} (h : lettersOf a = lettersOf b) : a = b := by
  have := congrArg textOf h
  simpa using this
theorem ltB_total {a b : ByteArray} (h1 : ¬ ltB a b) (h2 : a ≠ b) : ltB b a := by
  unfold ltB at h1 ⊢
  have h3 : lettersOf b ≤ lettersOf a := List.not_lt.1 h1
  rcases List.le_iff_lt_or_eq.1 h3 with h | h
  · exact h
  · exact absurd (letters_inj h).symm h2
theorem less_eq (a b : ByteArray) : Op.bytesLess (ByteArray.toList a) (ByteArray.toList b) = decide (ltB a b) := by
  rw [bytesLess_eq, ByteArray.toList_eq, ByteArray.toList_eq]
  rfl
theorem text_eq (a b : ByteArray) : (ByteArray.toList a == ByteArray.toList b) = decide (a = b) := by
  rw [ByteArray.toList_eq, ByteArray.toList_eq, Bool.eq_iff_iff, beq_iff_eq, decide_eq_true_eq]
  constructor
  · intro h
    cases a; cases b
    simpa using h
  · intro h; rw [h]

def Srt (A : List AF) : Prop := A.Pairwise fun x y => ltB x.1 y.1
/-- How many files' names come before a name. -/
def fnd (s : ByteArray) : List AF → Nat
  | [] => 0
  | y :: t => if ltB y.1 s then fnd s t + 1 else 0
/-- A file laid at its place. -/
def insA (s : ByteArray) (x : List UInt8 × Nat) : List AF → List AF
  | [] => [(s, x)]
  | y :: t => if ltB y.1 s then y :: insA s x t else if y.1 = s then (s, x) :: t else (s, x) :: y :: t
theorem fnd_le (s : ByteArray) : ∀ A : List AF, fnd s A ≤ A.length
  | [] => Nat.le_refl _
  | y :: t => by
    have := fnd_le s t
    simp only [fnd]
    split <;> simp <;> omega
theorem Srt.tail {y : AF} {t : List AF} (h : Srt (y :: t)) : Srt t := (List.pairwise_cons.1 h).2
theorem Srt.head {y : AF} {t : List AF} (h : Srt (y :: t)) : ∀ z ∈ t, ltB y.1 z.1 := (List.pairwise_cons.1 h).1
theorem Srt.nodup {A : List AF} (h : Srt A) : (A.map (·.1)).Nodup := by
  rw [List.nodup_iff_pairwise_ne, List.pairwise_map]
  exact h.imp fun hl he => by rw [he] at hl; exact ltB_irrefl _ hl
theorem aget_lt {A : List AF} {s : ByteArray} (hs : ∀ z ∈ A, ltB s z.1) : aget A s = none := aget_none.2 fun e he hc => by
  have := hs e he
  rw [hc] at this
  exact ltB_irrefl _ this
/-- The place of a name: what is there. -/
theorem fnd_spec {s : ByteArray} : ∀ {A : List AF}, Srt A → (∀ x, aget A s = some x → A[fnd s A]? = some (s, x)) ∧ (aget A s = none → ∀ y, A[fnd s A]? = some y → y.1 ≠ s)
  | [], _ => ⟨fun x h => by simp [aget] at h, fun _ y h => by simp [fnd] at h⟩
  | y :: t, h => by
    have ih := fnd_spec (s := s) h.tail
    simp only [fnd]
    by_cases hl : ltB y.1 s
    · have hne : s ≠ y.1 := fun hc => by rw [hc] at hl; exact ltB_irrefl _ hl
      simp only [hl, if_true, aget, hne, if_false, List.getElem?_cons_succ]
      exact ih
    · simp only [hl, if_false, aget, List.getElem?_cons_zero]
      by_cases he : s = y.1
      · subst he
        simp only [if_true]
        exact ⟨fun x hx => by cases hx; rfl, fun hc => by cases hc⟩
      · simp only [he, if_false]
        have hlt : ltB s y.1 := ltB_total hl fun hc => he hc.symm
        have hn : aget t s = none := aget_lt fun z hz => ltB_trans hlt (h.head z hz)
        exact ⟨(fun x hx => by rw [hn] at hx; cases hx), (fun _ z hz => by cases hz; exact fun hc => he hc.symm)⟩
theorem insA_some {s : ByteArray} {x : List UInt8 × Nat} : ∀ {A : List AF}, Srt A → (aget A s).isSome = true → insA s x A = A.set (fnd s A) (s, x)
  | [], _, h => by simp [aget] at h
  | y :: t, h, hs => by
    simp only [insA, fnd]
    by_cases hl : ltB y.1 s
    · have hne : s ≠ y.1 := fun hc => by rw [hc] at hl; exact ltB_irrefl _ hl
      simp only [aget, hne, if_false] at hs
      simp only [hl, if_true, List.set_cons_succ, insA_some h.tail hs]
    · simp only [hl, if_false]
      by_cases he : y.1 = s
      · simp only [he, if_true, List.set_cons_zero]
      · exfalso
        have hlt : ltB s y.1 := ltB_total hl he
        have hn : aget (y :: t) s = none := aget_lt fun z hz => by
          rcases List.mem_cons.1 hz with rfl | hz
          · exact hlt
          · exact ltB_trans hlt (h.head z hz)
        rw [hn] at hs; cases hs
theorem insA_none {s : ByteArray} {x : List UInt8 × Nat} : ∀ {A : List AF}, Srt A → aget A s = none → insA s x A = A.take (fnd s A) ++ (s, x) :: A.drop (fnd s A)
  | [], _, _ => rfl
  | y :: t, h, hs => by
    simp only [insA, fnd]
    have hne : s ≠ y.1 := fun hc => by simp [aget, hc] at hs
    by_cases hl : ltB y.1 s
    · simp only [aget, hne, if_false] at hs
      simp only [hl, if_true, List.take_succ_cons, List.drop_succ_cons, insA_none h.tail hs]
      rfl
    · simp only [hl, if_false, Ne.symm hne, List.take_zero, List.drop_zero]
      rfl
theorem adel_fnd {s : ByteArray} : ∀ {A : List AF}, Srt A → (aget A s).isSome = true → adel A s = A.eraseIdx (fnd s A)
  | [], _, h => by simp [aget] at h
  | y :: t, h, hs => by
    simp only [adel, fnd]
    by_cases hl : ltB y.1 s
    · have hne : s ≠ y.1 := fun hc => by rw [hc] at hl; exact ltB_irrefl _ hl
      simp only [aget, hne, if_false] at hs
      simp only [hl, if_true, hne, if_false, List.eraseIdx_cons_succ, adel_fnd h.tail hs]
    · simp only [hl, if_false, List.eraseIdx_cons_zero]
      by_cases he : s = y.1
      · simp [he]
      · exfalso
        have hlt : ltB s y.1 := ltB_total hl fun hc => he hc.symm
        have hn : aget (y :: t) s = none := aget_lt fun z hz => by
          rcases List.mem_cons.1 hz with rfl | hz
          · exact hlt
          · exact ltB_trans hlt (h.head z hz)
        rw [hn] at hs; cases hs
theorem insA_mem {s : ByteArray} {x : List UInt8 × Nat} : ∀ {A : List AF} {z : AF}, z ∈ insA s x A → z = (s, x) ∨ z ∈ A
  | [], z, h => by simp [insA] at h; exact .inl h
  | y :: t, z, h => by
    simp only [insA] at h
    split at h
    · rcases List.mem_cons.1 h with rfl | h
      · exact .inr (List.mem_cons_self ..)
      · rcases insA_mem h with h | h
        · exact .inl h
        · exact .inr (List.mem_cons_of_mem _ h)
    · split at h
      · rcases List.mem_cons.1 h with rfl | h
        · exact .inl rfl
        · exact .inr (List.mem_cons_of_mem _ h)
      · rcases List.mem_cons.1 h with rfl | h
        · exact .inl rfl
        · exact .inr h
theorem Srt.ins {s : ByteArray} {x : List UInt8 × Nat} : ∀ {A : List AF}, Srt A → Srt (insA s x A)
  | [], _ => List.pairwise_singleton _ _
  | y :: t, h => by
    simp only [insA]
    split
    · rename_i hl
      refine List.pairwise_cons.2 ⟨fun z hz => ?_, h.tail.ins⟩
      rcases insA_mem hz with rfl | hz
      · exact hl
      · exact h.head z hz
    · split
      · rename_i hl he
        refine List.pairwise_cons.2 ⟨fun z hz => ?_, h.tail⟩
        have := h.head z hz
        rw [he] at this
        exact this
      · rename_i hl he
        have hlt : ltB s y.1 := ltB_total hl he
        refine List.pairwise_cons.2 ⟨fun z hz => ?_, h⟩
        rcases List.mem_cons.1 hz with rfl | hz
        · exact hlt
        · exact ltB_trans hlt (h.head z hz)
theorem aget_ins {s t : ByteArray} {x : List UInt8 × Nat} : ∀ {A : List AF}, Srt A → aget (insA s x A) t = if t = s then some x else aget A t
  | [], _ => by simp [insA, aget]
  | y :: r, h => by
    simp only [insA]
    split
    · rename_i hl
      have hne : s ≠ y.1 := fun hc => by rw [hc] at hl; exact ltB_irrefl _ hl
      simp only [aget]
      by_cases hty : t = y.1
      · subst hty
        simp only [if_true, Ne.symm hne, if_false]
      · simp only [hty, if_false]
        exact aget_ins h.tail
    · split
      · rename_i hl he
        subst he
        simp only [aget]
        by_cases hts : t = y.1 <;> simp [hts]
      · rename_i hl he
        simp only [aget]
theorem Srt.del {A : List AF} (h : Srt A) (s : ByteArray) : Srt (adel A s) := h.sublist (adel_sublist A s)
theorem aget_del {A : List AF} (h : Srt A) (s t : ByteArray) : aget (adel A s) t = if t = s then none else aget A t := by
  split
  · rename_i he; subst he; exact aget_adel_self h.nodup
  · rename_i he; exact aget_adel_other he

/- The acts. -/
def totA (A : List AF) : Nat := (A.map fun x => x.2.1.length).sum
def usedOf (A : List AF) (s : ByteArray) : List UInt8 × Nat := (aget A s).getD ([], 0)
def syncA (A : List AF) (s : ByteArray) : List AF := match aget A s with | some x => insA s (x.1, x.1.length) A | none => A
def allA (A : List AF) (ns : List ByteArray) : Bool := ns.all fun s => (aget A s).isSome
def crashA (picks : List Int) (A : List AF) : List AF := A.mapIdx fun i x => (x.1, crashF picks[i]? x.2)
def namesA (A : List AF) : List ByteArray := A.map (·.1)
theorem Srt.sync {A : List AF} (h : Srt A) (s : ByteArray) : Srt (syncA A s) := by
  unfold syncA
  split
  · exact h.ins
  · exact h
theorem Srt.syncs {ns : List ByteArray} : ∀ {A : List AF}, Srt A → Srt (ns.foldl syncA A) := by
  induction ns with
  | nil => exact id
  | cons s t ih => exact fun h => ih (h.sync s)
theorem Srt.dels {ns : List ByteArray} : ∀ {A : List AF}, Srt A → Srt (ns.foldl adel A) := by
  induction ns with
  | nil => exact id
  | cons s t ih => exact fun h => ih (h.del s)
theorem crash_get (picks : List Int) (A : List AF) (i : Nat) : (crashA picks A)[i]? = (A[i]?).map fun x => (x.1, crashF picks[i]? x.2) := by
  unfold crashA
  rw [List.getElem?_mapIdx]
theorem Srt.crash {A : List AF} (h : Srt A) (picks : List Int) : Srt (crashA picks A) := by
  unfold Srt
  rw [List.pairwise_iff_getElem]
  intro i j hi hj hij
  have h1 : i < A.length := by simpa [crashA] using hi
  have h2 : j < A.length := by simpa [crashA] using hj
  have h3 := (List.pairwise_iff_getElem.1 h) i j h1 h2 hij
  simpa [crashA] using h3
theorem crash_names (picks : List Int) (A : List AF) : namesA (crashA picks A) = namesA A := by
  apply List.ext_getElem?
  intro i
  unfold namesA
  rw [List.getElem?_map, List.getElem?_map, crash_get]
  cases A[i]? <;> rfl
theorem aget_of_get {A : List AF} (h : (A.map (·.1)).Nodup) {i : Nat} {x : AF} (hi : A[i]? = some x) : aget A x.1 = some x.2 := by
  induction A generalizing i with
  | nil => simp at hi
  | cons y t ih =>
    rw [List.map_cons, List.nodup_cons] at h
    cases i with
    | zero => simp at hi; subst hi; simp [aget]
    | succ i =>
      simp only [List.getElem?_cons_succ] at hi
      have hne : x.1 ≠ y.1 := fun hc => h.1 (List.mem_map.2 ⟨x, List.mem_of_getElem? hi, hc⟩)
      simp only [aget, hne, if_false]
      exact ih h.2 hi

theorem nodup_of_map {α β : Type} (f : α → β) {l : List α} (h : (l.map f).Nodup) : l.Nodup := by
  rw [List.nodup_iff_pairwise_ne] at h ⊢
  exact (List.pairwise_map.1 h).imp fun hne he => hne (congrArg f he)
/-- A disk in memory is that list. -/
structure Rep (l : Files) (A : List AF) : Prop where
  look : ∀ s, look l s = aget A s
  srt : Srt A
def fvOf (e : ByteArray × FileR) : AF := (e.1, (e.2.bs, e.2.syn))
theorem look_fv (l : Files) (s : ByteArray) : aget (l.map fvOf) s = Proofs.Ytimgbkabfkdabaa.look l s := by
  have := aget_map (fun f : FileR => (f.bs, f.syn)) l s
  exact this
theorem mem_iff_aget {A : List AF} (h : (A.map (·.1)).Nodup) (x : AF) : x ∈ A ↔ aget A x.1 = some x.2 := by
  constructor
  · intro hx
    obtain ⟨i, hi⟩ := List.getElem?_of_mem hx
    exact aget_of_get h hi
  · intro hx
    have := (perm_aget (fun e : AF => e) hx).mem_iff (a := (x.1, x.2))
    simpa using this
theorem Rep.perm {l : Files} {A : List AF} (h : Rep l A) (hn : (keysOf l).Nodup) : (l.map fvOf).Perm A := by
  have hk : ((l.map fvOf).map (·.1)).Nodup := by
    rw [List.map_map]
    exact hn
  have h1 : (l.map fvOf).Nodup := nodup_of_map (·.1) hk
  have h2 : A.Nodup := nodup_of_map (·.1) h.srt.nodup
  rw [List.perm_ext_iff_of_nodup h1 h2]
  intro x
  rw [mem_iff_aget hk, mem_iff_aget h.srt.nodup, look_fv, h.look]
theorem Rep.tot {l : Files} {A : List AF} (h : Rep l A) (hn : (keysOf l).Nodup) : Proofs.Ytimgbkabfkdabaa.total l = totA A := by
  have h1 := ((h.perm hn).map fun x : AF => x.2.1.length).sum_nat
  rw [List.map_map] at h1
  exact h1
theorem Rep.len {l : Files} {A : List AF} (h : Rep l A) (hn : (keysOf l).Nodup) : l.length = A.length := by
  have := (h.perm hn).length_eq
  simpa using this
theorem Rep.keys {l : Files} {A : List AF} (h : Rep l A) (hn : (keysOf l).Nodup) : (keysOf l).Perm (namesA A) := by
  have := (h.perm hn).map (·.1)
  rw [List.map_map] at this
  exact this
theorem Srt.names {A : List AF} (h : Srt A) {p : ByteArray → Bool} : sortB ((namesA A).filter p) = (namesA A).filter p := by
  refine sorted_sortB ?_
  have h1 : ((namesA A).filter p).Pairwise ltB := by
    refine List.Pairwise.filter _ ?_
    unfold namesA
    rw [List.pairwise_map]
    exact h
  rw [List.pairwise_map]
  exact h1.imp fun hl => by
    rw [decide_eq_true_eq]
    exact List.le_of_lt hl
theorem Rep.listed {l : Files} {A : List AF} (h : Rep l A) (hn : (keysOf l).Nodup) (ps : List ByteArray) : Proofs.Ytimgbkabfkdabaa.listed ps l = (namesA A).filter (want ps) := by
  show sortB ((keysOf l).filter (want ps)) = _
  rw [sortB_perm ((h.keys hn).filter (want ps)), h.srt.names]
theorem Rep.sorted {l : Files} {A : List AF} (h : Rep l A) (hn : (keysOf l).Nodup) : sortB (keysOf l) = namesA A := by
  rw [sortB_perm (h.keys hn)]
  have := h.srt.names (p := fun _ => true)
  rwa [List.filter_eq_self.2 (fun _ _ => rfl)] at this
end Go.Proofs.Ytimgbkabfkdabaa
