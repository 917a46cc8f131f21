/- DJ DK DL, laid together. -/
import Derived.Test.YtimgbkabfkdabaaHDG
import Derived.Test.YtimgbkabfkdabaaShActs
import Derived.Test.YtimgbkabfkdabaaShPlays
/- Twin of the disk in memory. -/
namespace Go.Proofs.Ytimgbkabfkdabaa
open Go.Sh
attribute [local irreducible] rRun LDI LDB LDS LDP LDSl LDM LD Go.Sh.ST AL ALM LetW CallR CallV CallI NN IX SIX Br Req mInt mBool mStr mPtr mSlice mMap mAgg mTup mCons mNil mNth mPA LoopS

section
variable {w0 w : World} {F : List Nat} {L M : List Own}
theorem Twin_spec {db bm : Nat} {size used born : Int} {l : Files} (hA : Has w [diskO db bm size used born l]) (hn : ∀ f s, aget l s = some f → f.bs.length ≤ 70000000000) :
    CallS Try.prog fn_disk_Disk_Twin #[.pointer (some ⟨db, 0, none⟩)] w [diskO db bm size used born l] fun r _ A =>
      ∃ tb tm l', r = .pointer (some ⟨tb, 0, none⟩) ∧ (∀ s, look l' s = look l s) ∧ A = [diskO db bm size used born l, diskO tb tm size used born l'] := by
  refine CallS_intro hA fun H => disk_Disk_Twin_sound _ _ _ ?_
  have H := H.diskOpen
  refine wLW H ?_
  intro w1 H
  refine nn ?_
  refine wI H (b := db) (j := 0) (hK := nn ?_)
  refine wI H (b := db) (j := 1) (hK := nn ?_)
  refine wI H (b := db) (j := 2) (hK := ?_)
  refine wALM H fun tm w2 H => ?_
  refine wC H (b := db) (j := 2) (hK := wC H (b := db) (j := 1) (hK := wC H (b := db) (j := 0) (hK := wEq ?_)))
  refine wAL H fun tb w3 H => ?_
  have H := (H.front (pt tm (.map #[] 0))).newMap strV
  have H : St w (fps [diskO db bm size used born l]) w3 [mapO strV tm [], pt tb (.cells #[.int .i64 size, .int .i64 used, .int .i64 born, .map (some tm)] 67), pt db (.cells #[.int .i64 size, .int .i64 used, .int .i64 born, .map (some bm)] 67), filesM bm l, filesO l] := H
  refine nn ?_
  refine wM H (b := db) (j := 3) (hK := ?_)
  refine range_own map_str (i := 3) H rfl fun w4 r H _ => ?_
  have H2 : St w (fps [diskO db bm size used born l]) w4 (filesO [] :: [mapO strV tm [], pt tb (.cells #[.int .i64 size, .int .i64 used, .int .i64 born, .map (some tm)] 67), pt db (.cells #[.int .i64 size, .int .i64 used, .int .i64 born, .map (some bm)] 67), rangeO strV bm r (ptrs l) (ptrs l), filesO l]) := Sh.St.close (M := []) H
  refine wLoop (fun k s w' => ∃ (l' : Files) (rest : List (ByteArray × Value)), k = rest.length ∧ s = (⟨tb, 0, none⟩, .pointer (some ⟨r, 0, none⟩)) ∧ (∀ s, look l' s = if aget rest s = none then look l s else none) ∧ (rest.map (·.1)).Nodup ∧
    St w (fps [diskO db bm size used born l]) w' [filesO l', filesM tm l', pt tb (.cells #[.int .i64 size, .int .i64 used, .int .i64 born, .map (some tm)] 67), pt db (.cells #[.int .i64 size, .int .i64 used, .int .i64 born, .map (some bm)] 67), rangeO strV bm r (ptrs l) rest, filesO l]) ?_ ?_
  · refine ⟨_, [], ptrs l, rfl, rfl, fun s => ?_, ?_, H2⟩
    · have hg := aget_map (fun f : FileR => (.pointer (some ⟨f.fb, 0, none⟩) : Value)) l s
      cases hl : aget l s with
      | none =>
        rw [hl] at hg
        have hg : aget (ptrs l) s = none := hg
        rw [if_pos hg]
        unfold look
        rw [hl]; rfl
      | some f =>
        rw [hl] at hg
        have hg : aget (ptrs l) s = some _ := hg
        rw [hg, if_neg (by simp)]
        rfl
    · have hnd := keys_nodup (hA.all _ (by simp) : (diskO db bm size used born l).holds w)
      have : (ptrs l).map (·.1) = keysOf l := by unfold ptrs keysOf; rw [List.map_map]; rfl
      rw [this]
      exact hnd
  clear H H2
  rintro k s w1 ⟨l', rest, rfl, rfl, hlook, hnd, H⟩
  refine next_own (i := 4) H rfl (fun hnil w1 H _ => ?_) (fun s v hr hlk w1 H _ hent => ?_)
  · refine mTup_mk (mNth_mk rfl (mBool_mk (br (fun h => by cases h) (fun _ => ?_))))
    subst hnil
    have H := range_done H (i := 4) rfl
    have H : St w (fps [diskO db bm size used born l]) w1 [filesO l', filesM tm l', pt tb (.cells #[.int .i64 size, .int .i64 used, .int .i64 born, .map (some tm)] 67), pt db (.cells #[.int .i64 size, .int .i64 used, .int .i64 born, .map (some bm)] 67), filesM bm l, filesO l] := H
    have H := ((H.front (filesO l')).front (filesM tm l')).front (pt tb (.cells #[.int .i64 size, .int .i64 used, .int .i64 born, .map (some tm)] 67))
    have H := H.diskClose
    have H := (((H.front (filesO l)).front (filesM bm l)).front (pt db (.cells #[.int .i64 size, .int .i64 used, .int .i64 born, .map (some bm)] 67))).diskClose
    exact ⟨_, ⟨tb, tm, l', rfl, fun s => (hlook s).trans (if_pos rfl), rfl⟩, H⟩
  · refine mTup_mk (mNth_mk rfl (mBool_mk (br (fun _ => ?_) (fun h => by cases h))))
    have hdl := adel_len hr
    have hg := aget_map (fun f : FileR => (.pointer (some ⟨f.fb, 0, none⟩) : Value)) l s
    have hlk : aget (ptrs l) s = some v := hlk
    cases hl : aget l s with
    | none =>
      rw [hl] at hg
      have hg : aget (ptrs l) s = none := hg
      rw [hg] at hlk; cases hlk
    | some f =>
      rw [hl] at hg
      have hg : aget (ptrs l) s = some (.pointer (some ⟨f.fb, 0, none⟩)) := hg
      rw [hg] at hlk
      cases hlk
      refine rRun_intro hent (mTup_mk (mNth_mk rfl (mStr_mk (mTup_mk (mNth_mk rfl (mPtr_mk ?_))))))
      refine wLW H ?_
      intro w2 H
      refine wM H (b := tb) (j := 3) (hK := nn ?_)
      have H := file_out (H.front (filesO l)) hl
      have H : St w (fps [diskO db bm size used born l]) w2 [pt f.fb (.cells #[.slice f.a f.n f.c, .int .i64 f.syn] 71), sliceO 5 1 (.slice f.a f.n f.c) (bvals f.bs), filesO (adel l s), filesO l', filesM tm l', pt tb (.cells #[.int .i64 size, .int .i64 used, .int .i64 born, .map (some tm)] 67), pt db (.cells #[.int .i64 size, .int .i64 used, .int .i64 born, .map (some bm)] 67), rangeO strV bm r (ptrs l) (adel rest s)] := H
      refine wSl H (b := f.fb) (j := 0) (hK := nn ?_)
      refine wI H (b := f.fb) (j := 1) (hK := ?_)
      have hrd := (H.get (i := 1) rfl : SliceAt _ 5 1 (.slice f.a f.n f.c) (bvals f.bs)).reads
      refine wCall H (fun _ => Clone_spec hrd (hn f s hl)) (hK := ?_)
      rintro r' w3 A' ⟨rfl, ca, cn, cc, rfl⟩ _ H
      have H : St w (fps [diskO db bm size used born l]) w3 [sliceO 5 1 (.slice ca cn cc) (bvals f.bs), pt f.fb (.cells #[.slice f.a f.n f.c, .int .i64 f.syn] 71), sliceO 5 1 (.slice f.a f.n f.c) (bvals f.bs), filesO (adel l s), filesO l', filesM tm l', pt tb (.cells #[.int .i64 size, .int .i64 used, .int .i64 born, .map (some tm)] 67), pt db (.cells #[.int .i64 size, .int .i64 used, .int .i64 born, .map (some bm)] 67), rangeO strV bm r (ptrs l) (adel rest s)] := H
      refine mSlice_mk ?_
      refine wC H (b := f.fb) (j := 1) (hK := wC H (b := tb) (j := 3) (hK := wEq ?_))
      refine wAL H fun nb w4 H => ?_
      refine wC H (b := tb) (j := 3) (hK := ?_)
      have H : St w (fps [diskO db bm size used born l]) w4 [pt nb (.cells #[.slice ca cn cc, .int .i64 f.syn] 71), sliceO 5 1 (.slice ca cn cc) (bvals f.bs), pt f.fb (.cells #[.slice f.a f.n f.c, .int .i64 f.syn] 71), sliceO 5 1 (.slice f.a f.n f.c) (bvals f.bs), filesO (adel l s), filesO l', mapO strV tm (ptrs l'), pt tb (.cells #[.int .i64 size, .int .i64 used, .int .i64 born, .map (some tm)] 67), pt db (.cells #[.int .i64 size, .int .i64 used, .int .i64 born, .map (some bm)] 67), rangeO strV bm r (ptrs l) (adel rest s)] := H
      refine mapUpdate_own map_str (i := 6) H rfl s _ fun w5 H _ => ?_
      have hl's : aget l' s = none := by
        have := hlook s
        rw [if_neg (by rw [hr]; simp)] at this
        exact look_none.1 this
      have e : aput (ptrs l') s (.pointer (some ⟨nb, 0, none⟩)) = ptrs (aput l' s ⟨nb, ca, cn, cc, f.bs, f.syn⟩) := aput_map (fun f : FileR => (.pointer (some ⟨f.fb, 0, none⟩) : Value)) l' s ⟨nb, ca, cn, cc, f.bs, f.syn⟩
      have H : St w (fps [diskO db bm size used born l]) w5 [pt nb (.cells #[.slice ca cn cc, .int .i64 f.syn] 71), sliceO 5 1 (.slice ca cn cc) (bvals f.bs), pt f.fb (.cells #[.slice f.a f.n f.c, .int .i64 f.syn] 71), sliceO 5 1 (.slice f.a f.n f.c) (bvals f.bs), filesO (adel l s), filesO l', mapO strV tm (aput (ptrs l') s (.pointer (some ⟨nb, 0, none⟩))), pt tb (.cells #[.int .i64 size, .int .i64 used, .int .i64 born, .map (some tm)] 67), pt db (.cells #[.int .i64 size, .int .i64 used, .int .i64 born, .map (some bm)] 67), rangeO strV bm r (ptrs l) (adel rest s)] := H
      rw [e] at H
      have H := file_back hl (((H.front (filesO (adel l s))).front (sliceO 5 1 (.slice f.a f.n f.c) (bvals f.bs))).front (pt f.fb (.cells #[.slice f.a f.n f.c, .int .i64 f.syn] 71)))
      rw [show filesO l' = filesO (adel l' s) by rw [adel_none hl's]] at H
      have H := file_in (l := l') (s := s) (f := ⟨nb, ca, cn, cc, f.bs, f.syn⟩) (((H.front (filesO (adel l' s))).front (sliceO 5 1 (.slice ca cn cc) (bvals f.bs))).front (pt nb (.cells #[.slice ca cn cc, .int .i64 f.syn] 71)))
      have H : St w (fps [diskO db bm size used born l]) w5 [filesO (aput l' s ⟨nb, ca, cn, cc, f.bs, f.syn⟩), filesO l, filesM tm (aput l' s ⟨nb, ca, cn, cc, f.bs, f.syn⟩), pt tb (.cells #[.int .i64 size, .int .i64 used, .int .i64 born, .map (some tm)] 67), pt db (.cells #[.int .i64 size, .int .i64 used, .int .i64 born, .map (some bm)] 67), rangeO strV bm r (ptrs l) (adel rest s)] := H
      have H := ((H.front (filesO l)).perm (List.perm_append_comm (l₁ := [_]) (l₂ := [filesO (aput l' s ⟨nb, ca, cn, cc, f.bs, f.syn⟩), filesM tm (aput l' s ⟨nb, ca, cn, cc, f.bs, f.syn⟩), pt tb (.cells #[.int .i64 size, .int .i64 used, .int .i64 born, .map (some tm)] 67), pt db (.cells #[.int .i64 size, .int .i64 used, .int .i64 born, .map (some bm)] 67), rangeO strV bm r (ptrs l) (adel rest s)])))
      refine ⟨_, ?_, aput l' s ⟨nb, ca, cn, cc, f.bs, f.syn⟩, adel rest s, rfl, rfl, fun t => ?_, adel_keys_nodup s hnd, H⟩
      · omega
      · by_cases hts : t = s
        · subst hts
          rw [look_aput, aget_adel_self hnd, if_pos rfl]
          unfold look
          rw [hl]; rfl
        · rw [look_aput_ne _ _ hts, hlook, aget_adel_other hts]
end
end Go.Proofs.Ytimgbkabfkdabaa

/- Acts; few; what an act makes of a list of files. -/
namespace Go.Proofs.Ytimgbkabfkdabaa
open Go.Sh
attribute [local irreducible] rRun LDI LDB LDS LDP LDSl LDM LD Go.Sh.ST AL ALM LetW CallR CallV CallI NN IX SIX Br Req mInt mBool mStr mPtr mSlice mMap mAgg mTup mCons mNil mNth mPA LoopS

structure ActD where
  (op : Int) (name to : ByteArray) (na : Option Addr) (nn' nc : Nat) (names : List ByteArray) (ba : Option Addr) (bn bc : Nat) (bs : List UInt8) (pa : Option Addr) (pn pc : Nat) (picks : List Int)
def ActD.cells (x : ActD) : List Value := [.int .i64 x.op, .string x.name, .string x.to, .slice x.na x.nn' x.nc, .slice x.ba x.bn x.bc, .slice x.pa x.pn x.pc]
def ActD.ok (w : World) (x : ActD) : Prop := Reads w 1 (.slice x.na x.nn' x.nc) (strs x.names) ∧ Reads w 1 (.slice x.ba x.bn x.bc) (bvals x.bs) ∧ Reads w 1 (.slice x.pa x.pn x.pc) (ints x.picks)
def ActD.small (x : ActD) : Prop := x.names.length ≤ 1048576 ∧ x.bs.length ≤ 1048576 ∧ x.picks.length ≤ 1048576
abbrev ActsD (w : World) (v : Value) (l : List ActD) : Prop := ElemsAt w 6 ActD.cells ActD.ok v l
theorem ActsD.keep {w w' : World} {v : Value} {l : List ActD} (h : ActsD w v l) (hf : Fr [] w w') : ActsD w' v l :=
  ElemsAt.keep h (fun _ ⟨h1, h2, h3⟩ => ⟨h1.keep (by decide) hf, h2.keep (by decide) hf, h3.keep (by decide) hf⟩) hf

section
variable {w : World}
theorem few_spec {b : Option Addr} {n c : Nat} {l : List ActD} (hb : ActsD w (.slice b n c) l) (hlen : l.length ≤ 1048576) (hsm : ∀ x ∈ l, x.small) :
    CallS Try.prog fn_glacierlaw2_few #[.slice b n c] w [] fun r _ A => A = [] ∧ ∃ q : Bool, r = .bool q := by
  have hn := hb.len
  subst hn
  refine CallS_intro (.nil w) fun H => glacierlaw2_few_sound _ _ _ _ _ ?_
  refine wLoop (fun k s w' => ∃ (i : Nat) (m : Int), k + i = l.length ∧ s = (b, l.length, c, m, (i : Int)) ∧ St w (fps []) w' []) ?_ ?_
  · exact ⟨l.length, 0, 0, by omega, rfl, H⟩
  rintro k s w1 ⟨i, m, hk, rfl, H⟩
  refine br (fun h => ?_) (fun h => ?_)
  · have hi : i < l.length := by simp at h; omega
    obtain ⟨x, hx⟩ : ∃ x, l[i]? = some x := ⟨_, List.getElem?_eq_getElem hi⟩
    have hw1 : IntKind.wrap .i64 ((i : Int) + 1) = ((i + 1 : Nat) : Int) := by rw [wrap_id (by omega) (by omega)]; rfl
    have hxs := hsm x (List.mem_of_getElem? hx)
    refine wLW H ?_
    intro w2 H
    have hb2 := hb.keep H.fr
    refine wIXel hb2 hx rfl fun a1 ha1 => ldSl (ha1 4 _ rfl) (wEq ?_)
    refine wIXel hb2 hx rfl fun a1 ha1 => ldSl (ha1 3 _ rfl) (wEq ?_)
    refine wIXel hb2 hx rfl fun a1 ha1 => ldSl (ha1 5 _ rfl) (wEq ?_)
    refine wIXel hb2 hx rfl fun a1 ha1 => ldS (ha1 1 _ rfl) (wEq ?_)
    refine wIXel hb2 hx rfl fun a1 ha1 => ldS (ha1 2 _ rfl) (wEq ?_)
    have hnl : x.nn' = x.names.length := by
      have := (hb2.oks x (List.mem_of_getElem? hx)).1.len
      simpa [strs] using this
    refine wLoop (fun k' s w' => w' = w2 ∧ ∃ (j : Nat) (m : Int), k' + j = x.names.length ∧ s = (b, l.length, c, m, (i : Int), (j : Int))) ⟨x.names.length, rfl, 0, _, by omega, rfl⟩ ?_
    rintro k' s w' ⟨rfl, j, m', hk', rfl⟩
    refine wIXel hb2 hx rfl fun a1 ha1 => ldSl (ha1 3 _ rfl) ?_
    refine br (fun h => ?_) (fun h => ?_)
    · have hj : j < x.names.length := by simp [hnl] at h; omega
      obtain ⟨s, hs⟩ : ∃ s, x.names[j]? = some s := ⟨_, List.getElem?_eq_getElem hj⟩
      have hwj : IntKind.wrap .i64 ((j : Int) + 1) = ((j + 1 : Nat) : Int) := by rw [wrap_id (by have := hxs.1; omega) (by have := hxs.1; omega)]; rfl
      refine wIXel hb2 hx rfl fun a1 ha1 => ldSl (ha1 3 _ rfl) ?_
      refine wIXr (hb2.oks x (List.mem_of_getElem? hx)).1 (i := j) (by simpa [strs] using hj) rfl fun ad had => ?_
      refine ldS (had.trans (show (strs x.names)[j]? = some (.string s) by simp [strs, hs])) ?_
      exact ⟨k' - 1, by omega, rfl, j + 1, _, by omega, by rw [hwj]⟩
    · exact ⟨k - 1, by omega, i + 1, _, by omega, by rw [hw1], H⟩
  · refine br (fun _ => ⟨_, ⟨rfl, _, rfl⟩, H⟩) (fun _ => ⟨_, ⟨rfl, _, rfl⟩, H⟩)
end

/- An act on a list. -/
def nextA (size : Int) (A : List AF) (x : ActD) : List AF :=
  if x.op = 1 then (if nameOk x.name = true ∧ (x.bs.length : Int) ≤ size - totA A then insA x.name ((usedOf A x.name).1 ++ x.bs, (usedOf A x.name).2) A else A)
  else if x.op = 2 then (if allA A x.names = true then x.names.foldl syncA A else A)
  else if x.op = 3 then (if (aget A x.name).isSome = true ∧ nameOk x.to = true ∧ x.name ≠ x.to then insA x.to (usedOf A x.name) (adel A x.name) else A)
  else if x.op = 4 then (if allA A x.names = true then x.names.foldl adel A else A)
  else if x.op = 5 then crashA x.picks A
  else if x.op = 6 then [] else A
def nextB (born : Int) (x : ActD) : Int := if x.op = 6 then born + 1 else born
structure Good (size : Int) (A : List AF) : Prop where
  srt : Srt A
  wh : WhA A
  fits : (totA A : Int) ≤ size
theorem usedOf_wh {A : List AF} (hs : Srt A) (hw : WhA A) (s : ByteArray) : (usedOf A s).2 ≤ (usedOf A s).1.length := by
  cases hg : aget A s with
  | none => rw [usedOf_none hg]; exact Nat.le_refl _
  | some x => rw [usedOf_some hg]; exact hw.get hs hg
theorem totA_del {A : List AF} (_ : Srt A) (s : ByteArray) : totA (adel A s) + (usedOf A s).1.length = totA A := by
  cases hg : aget A s with
  | none => rw [usedOf_none hg, adel_none hg]; rfl
  | some x =>
    rw [usedOf_some hg]
    have := (perm_aget (fun e : AF => e.2.1.length) hg).sum_nat
    simp only [List.sum_cons] at this
    unfold totA
    rw [this]
    exact Nat.add_comm _ _
theorem totA_sync {A : List AF} (hs : Srt A) (s : ByteArray) : totA (syncA A s) = totA A := by
  unfold syncA
  cases hg : aget A s with
  | none => rfl
  | some x =>
    simp only
    have := totA_ins hs s (x.1, x.1.length)
    rw [usedOf_some hg] at this
    simp only at this
    omega
theorem totA_syncs {ns : List ByteArray} : ∀ {A : List AF}, Srt A → totA (ns.foldl syncA A) = totA A := by
  induction ns with
  | nil => intro A _; rfl
  | cons s t ih => intro A h; rw [List.foldl_cons, ih (h.sync s), totA_sync h]
theorem totA_dels {ns : List ByteArray} : ∀ {A : List AF}, Srt A → totA (ns.foldl adel A) ≤ totA A := by
  induction ns with
  | nil => intro A _; exact Nat.le_refl _
  | cons s t ih =>
    intro A h
    rw [List.foldl_cons]
    have h1 := ih (h.del s)
    have h2 := totA_del h s
    omega
theorem totA_crash {A : List AF} (hw : WhA A) (picks : List Int) : totA (crashA picks A) ≤ totA A := by
  have key : ∀ (A : List AF) (f : Nat → AF → AF), (∀ i x, A[i]? = some x → (f i x).2.1.length ≤ x.2.1.length) → totA (A.mapIdx f) ≤ totA A := by
    intro A
    induction A with
    | nil => intro f _; simp [totA]
    | cons y t ih =>
      intro f h
      have h1 := ih (fun i => f (i + 1)) fun i x hx => h (i + 1) x (by simpa using hx)
      have h2 := h 0 y rfl
      unfold totA at h1 ⊢
      rw [List.mapIdx_cons, List.map_cons, List.sum_cons, List.map_cons, List.sum_cons]
      omega
  refine key A _ fun i x hx => ?_
  have := crashF_len picks[i]? x.2 (hw x (List.mem_of_getElem? hx))
  show (crashF picks[i]? x.2).1.length ≤ x.2.1.length
  omega
theorem crash_len (picks : List Int) (A : List AF) : (crashA picks A).length = A.length := by simp [crashA]
theorem syncs_len {ns : List ByteArray} : ∀ {A : List AF}, Srt A → (ns.foldl syncA A).length = A.length := by
  induction ns with
  | nil => intro A _; rfl
  | cons s t ih => intro A h; rw [List.foldl_cons, ih (h.sync s), sync_len h]
theorem dels_len {ns : List ByteArray} : ∀ {A : List AF}, (ns.foldl adel A).length ≤ A.length := by
  induction ns with
  | nil => intro A; exact Nat.le_refl _
  | cons s t ih => intro A; rw [List.foldl_cons]; exact Nat.le_trans ih (adel_sublist A s).length_le
theorem Good.next {size : Int} {A : List AF} (h : Good size A) (hsz : 0 ≤ size) (x : ActD) : Good size (nextA size A x) ∧ (nextA size A x).length ≤ A.length + 1 := by
  have hu := usedOf_wh h.srt h.wh x.name
  unfold nextA
  split
  · split
    · rename_i hc
      have ht := totA_ins h.srt x.name ((usedOf A x.name).1 ++ x.bs, (usedOf A x.name).2)
      have hf := h.fits
      simp only [List.length_append] at ht
      refine ⟨⟨h.srt.ins, h.wh.ins (by simp only [List.length_append]; omega), by omega⟩, ins_len h.srt⟩
    · exact ⟨h, Nat.le_succ _⟩
  split
  · split
    · exact ⟨⟨h.srt.syncs, h.wh.syncs, by rw [totA_syncs h.srt]; exact h.fits⟩, by rw [syncs_len h.srt]; omega⟩
    · exact ⟨h, Nat.le_succ _⟩
  split
  · split
    · rename_i hc
      have h1 := totA_del h.srt x.name
      have h2 := totA_ins (h.srt.del x.name) x.to (usedOf A x.name)
      have hf := h.fits
      refine ⟨⟨(h.srt.del _).ins, (h.wh.del _).ins hu, by omega⟩, Nat.le_trans (ins_len (h.srt.del _)) ?_⟩
      have := (adel_sublist A x.name).length_le
      omega
    · exact ⟨h, Nat.le_succ _⟩
  split
  · split
    · have := totA_dels (ns := x.names) h.srt
      have hf := h.fits
      refine ⟨⟨h.srt.dels, h.wh.dels, by omega⟩, Nat.le_trans dels_len (Nat.le_succ _)⟩
    · exact ⟨h, Nat.le_succ _⟩
  split
  · have := totA_crash h.wh x.picks
    have hf := h.fits
    exact ⟨⟨h.srt.crash _, h.wh.crash _, by omega⟩, by rw [crash_len]; omega⟩
  split
  · exact ⟨⟨.nil, fun y hy => (by cases hy), by simp [totA]; exact hsz⟩, Nat.zero_le _⟩
  · exact ⟨h, Nat.le_succ _⟩
end Go.Proofs.Ytimgbkabfkdabaa

/- step. -/
namespace Go.Proofs.Ytimgbkabfkdabaa
open Go.Sh
attribute [local irreducible] rRun LDI LDB LDS LDP LDSl LDM LD Go.Sh.ST AL ALM LetW CallR CallV CallI NN IX SIX Br Req mInt mBool mStr mPtr mSlice mMap mAgg mTup mCons mNil mNth mPA LoopS

theorem Ext.sub {w w' : World} {A B : List Own} {sz : Nat} {v : Value} {cs : List Value} (hsz : 0 < sz) (h : Ext w A sz v cs) (hf : Fr (fps A) w w') (hB : ∀ b ∈ fps B, b ∈ fps A) : Ext w' B sz v cs :=
  ⟨h.reads hsz hf, fun b hb hc => h.2 b hb (hB b hc)⟩
theorem Ext.part {w : World} {A : List Own} {a : Option Addr} {n c l h m : Nat} {cs : List Value} (hx : Ext w A 1 (.slice a n c) cs) (hl : l ≤ h) (hh : h ≤ n) (hm : h ≤ m) :
    Ext w A 1 (.slice (if m = l then a else a.map (·.add (l * 1))) (h - l) (m - l)) ((cs.drop l).take (h - l)) := by
  have r := hx.1.sub (l := l) (h := h) (m := m) hl hh hm
  rw [Nat.mul_one, Nat.mul_one] at r
  refine ⟨by simpa using r, fun b hb => hx.2 b ?_⟩
  cases a with
  | none => split at hb <;> simp [sblk] at hb
  | some ad =>
    cases hq : h - l with
    | zero => rw [hq] at hb; split at hb <;> simp [sblk] at hb
    | succ q =>
      obtain ⟨n', rfl⟩ : ∃ n', n = n' + 1 := ⟨n - 1, by omega⟩
      rw [hq] at hb
      have e : ∀ k, (ad.add k).block = ad.block := fun k => by unfold Addr.add; split <;> rfl
      split at hb
      · simpa [sblk] using hb
      · simpa [sblk, e] using hb

section
variable {w0 w : World} {F : List Nat} {L M : List Own} {rb db bm : Nat} {size size2 born born2 : Int} {R : RD} {l : Files} {A : List AF}
def stepQ (db rb : Nat) (size size2 born born2 : Int) (A B : List AF) (x : ActD) : Value → World → List Own → Prop := fun r _ A' =>
  ∃ (q : Bool) (bm' : Nat) (l' : Files) (R' : RD), r = .bool q ∧ (size = size2 → A = B → q = true) ∧ Rep l' (nextA size A x) ∧ R'.A = nextA size2 B x ∧
    A' = [diskO db bm' size (total l') (nextB born x) l', rdO rb size2 (nextB born2 x) R']

set_option maxHeartbeats 8000000 in
theorem step_spec {x : ActD} (hA : Has w [diskO db bm size (total l) born l, rdO rb size2 born2 R]) (hr : Rep l A) (hg : Good size A) (hg2 : Good size2 R.A) (hsz : 0 ≤ size ∧ size ≤ 1073741824) (hsz2 : 0 ≤ size2 ∧ size2 ≤ 1073741824)
    (hlA : A.length ≤ 800000) (hlR : R.A.length ≤ 800000) (hb0 : 0 ≤ born ∧ born ≤ 1000000000) (hb2 : 0 ≤ born2 ∧ born2 ≤ 1000000000) (hsm : x.small)
    (hxn : Ext w [diskO db bm size (total l) born l, rdO rb size2 born2 R] 1 (.slice x.na x.nn' x.nc) (strs x.names)) (hxb : Ext w [diskO db bm size (total l) born l, rdO rb size2 born2 R] 1 (.slice x.ba x.bn x.bc) (bvals x.bs)) (hxp : Ext w [diskO db bm size (total l) born l, rdO rb size2 born2 R] 1 (.slice x.pa x.pn x.pc) (ints x.picks)) :
    CallS Try.prog fn_glacierlaw2_step #[.pointer (some ⟨db, 0, none⟩), .pointer (some ⟨rb, 0, none⟩), .agg #[.int .i64 x.op, .string x.name, .string x.to, .slice x.na x.nn' x.nc, .slice x.ba x.bn x.bc, .slice x.pa x.pn x.pc]] w [diskO db bm size (total l) born l, rdO rb size2 born2 R] (stepQ db rb size size2 born born2 A R.A x) := by
  obtain ⟨hsmn, hsmb, hsmp⟩ := hsm
  refine CallS_intro hA fun H => glacierlaw2_step_sound _ _ _ _ _ _ _ _ _ _ _ _ _ _ _ _ ?_
  have hnd : (keysOf l).Nodup := keys_nodup (H.get (i := 0) rfl)
  have htot := hr.tot hnd
  have hlen := hr.len hnd
  have hfit := hg.fits
  have hfit2 := hg2.fits
  have hR9 : R.l.length ≤ 900000 := by rw [← RD.len]; omega
  have hnl : x.nn' = x.names.length := by have := hxn.1.len; simpa [strs] using this
  have hbl : x.bn = x.bs.length := by have := hxb.1.len; simpa using this
  have subD : ∀ b ∈ fps [diskO db bm size (total l) born l], b ∈ fps [diskO db bm size (total l) born l, rdO rb size2 born2 R] := fun b hb => by simp at hb ⊢; exact .inl hb
  have subR : ∀ b ∈ fps [rdO rb size2 born2 R], b ∈ fps [diskO db bm size (total l) born l, rdO rb size2 born2 R] := fun b hb => by simp at hb ⊢; exact .inr hb
  refine wAL H fun q w1 H => ?_
  have H : St w (fps [diskO db bm size (total l) born l, rdO rb size2 born2 R]) w1 [pt q (.cells #[.int .i64 x.op, .string x.name, .string x.to, .slice x.na x.nn' x.nc, .slice x.ba x.bn x.bc, .slice x.pa x.pn x.pc] 46), diskO db bm size (total l) born l, rdO rb size2 born2 R] := H
  refine wI H (j := 0) (hK := ?_)
  have fin : ∀ (qq : Bool) w' bm' l' R', (size = size2 → A = R.A → qq = true) → Rep l' (nextA size A x) → R'.A = nextA size2 R.A x →
      St w (fps [diskO db bm size (total l) born l, rdO rb size2 born2 R]) w' [diskO db bm' size (total l') (nextB born x) l', rdO rb size2 (nextB born2 x) R'] →
      ∃ A', stepQ db rb size size2 born born2 A R.A x (.bool qq) w' A' ∧ St w (fps [diskO db bm size (total l) born l, rdO rb size2 born2 R]) w' A' := fun qq w' bm' l' R' h1 h2 h3 H => ⟨_, ⟨qq, bm', l', R', rfl, h1, h2, h3, rfl⟩, H⟩
  refine br (fun h => ?_) (fun h1 => ?_)
  · -- Append
    have hop : x.op = 1 := by simpa using h
    have hN : ∀ B : List AF, ∀ sz : Int, nextA sz B x = if nameOk x.name = true ∧ (x.bs.length : Int) ≤ sz - totA B then insA x.name ((usedOf B x.name).1 ++ x.bs, (usedOf B x.name).2) B else B := fun B sz => by unfold nextA; rw [if_pos hop]
    have hB : ∀ b : Int, nextB b x = b := fun b => by unfold nextB; rw [if_neg (by omega)]
    rw [hB born, hB born2] at fin
    simp only [hN] at fin
    refine wSl H (b := q) (j := 4) (hK := wReq (by decide) ?_)
    have hhalf : IntKind.wrap .i64 (Int.tdiv (x.bn : Int) 2) = ((x.bs.length / 2 : Nat) : Int) := by
      have e : Int.tdiv (x.bn : Int) 2 = ((x.bs.length / 2 : Nat) : Int) := by rw [hbl, Int.tdiv_eq_ediv_of_nonneg (by omega)]; omega
      rw [e]; exact wrap_id (by omega) (by omega)
    rw [hhalf]
    refine wLW H ?_
    intro w2 H
    have hcap : x.bn ≤ x.bc := by
      obtain ⟨_, _, _, he, _, h2, _⟩ := hxb.1
      cases he
      exact h2
    refine wS H (b := q) (j := 1) (hK := wSl H (b := q) (j := 4) (hK := ?_))
    refine rRun_intro (sliceAt_run (P := Try.prog) elem_bytes (a := x.ba) (len := x.bn) (cap := x.bc) (l := 0) (h := x.bs.length / 2) (m := x.bc) (lo := none) (hi := some (.int .i64 ((x.bs.length / 2 : Nat) : Int))) (mx := none) rfl ⟨rfl, by omega⟩ (fun h => by cases h) rfl) (mSlice_mk (wEq ?_))
    refine wSl H (b := q) (j := 4) (hK := ?_)
    refine rRun_intro (sliceAt_run (P := Try.prog) elem_bytes (a := x.ba) (len := x.bn) (cap := x.bc) (l := x.bs.length / 2) (h := x.bn) (m := x.bc) (lo := some (.int .i64 ((x.bs.length / 2 : Nat) : Int))) (hi := none) (mx := none) rfl rfl (fun h => by cases h) ⟨rfl, by omega⟩) (mSlice_mk (wEq ?_))
    refine wS H (b := q) (j := 1) (hK := wSl H (b := q) (j := 4) (hK := ?_))
    refine wAL H fun b w3 H => ?_
    refine wC H (b := q) (j := 4) (hK := wC H (b := q) (j := 1) (hK := wC H (b := q) (j := 1) (hK := ?_)))
    have H := H.front (diskO db bm size (total l) born l)
    have x1 := Ext.sub (B := [diskO db bm size (total l) born l]) (by decide) hxb H.fr subD
    have p1 := Ext.part x1 (l := 0) (h := x.bs.length / 2) (m := x.bc) (Nat.zero_le _) (by omega) (by omega)
    have p2 := Ext.part x1 (l := x.bs.length / 2) (h := x.bn) (m := x.bc) (by omega) (Nat.le_refl _) (by omega)
    have e1 : ((bvals x.bs).drop 0).take (x.bs.length / 2 - 0) = bvals (x.bs.take (x.bs.length / 2)) := by simp [bvals]
    have e2 : ((bvals x.bs).drop (x.bs.length / 2)).take (x.bn - x.bs.length / 2) = bvals (x.bs.drop (x.bs.length / 2)) := by
      rw [List.take_of_length_le (by rw [List.length_drop, bvals_length]; omega)]
      simp [bvals]
    rw [e1] at p1
    rw [e2] at p2
    have hpl : plen [⟨(if x.bc = 0 then x.ba else x.ba.map (·.add (0 * 1))), x.bs.length / 2 - 0, x.bc - 0, x.bs.take (x.bs.length / 2)⟩, ⟨(if x.bc = x.bs.length / 2 then x.ba else x.ba.map (·.add (x.bs.length / 2 * 1))), x.bn - x.bs.length / 2, x.bc - x.bs.length / 2, x.bs.drop (x.bs.length / 2)⟩] = x.bs.length := by
      simp [plen]; omega
    have hpb : pbs [⟨(if x.bc = 0 then x.ba else x.ba.map (·.add (0 * 1))), x.bs.length / 2 - 0, x.bc - 0, x.bs.take (x.bs.length / 2)⟩, ⟨(if x.bc = x.bs.length / 2 then x.ba else x.ba.map (·.add (x.bs.length / 2 * 1))), x.bn - x.bs.length / 2, x.bc - x.bs.length / 2, x.bs.drop (x.bs.length / 2)⟩] = x.bs := by
      simp [pbs]
    have hex : ExtP w3 [diskO db bm size (total l) born l] (.slice (some ⟨b, 0, none⟩) 2 2) [⟨(if x.bc = 0 then x.ba else x.ba.map (·.add (0 * 1))), x.bs.length / 2 - 0, x.bc - 0, x.bs.take (x.bs.length / 2)⟩, ⟨(if x.bc = x.bs.length / 2 then x.ba else x.ba.map (·.add (x.bs.length / 2 * 1))), x.bn - x.bs.length / 2, x.bc - x.bs.length / 2, x.bs.drop (x.bs.length / 2)⟩] := by
      refine ⟨ext_pt (A := [_]) H (by simp; exact .inl rfl) rfl (Nat.le_refl _) rfl, fun p hp => ?_⟩
      rcases List.mem_cons.1 hp with rfl | hp
      · exact p1
      · rw [List.mem_singleton.1 hp]
        exact p2
    have hus : bsOf l x.name = (usedOf A x.name).1 := by
      rw [bsOf_look, hr.look]
      unfold usedOf
      cases aget A x.name <;> rfl
    have hul := used_le hg.srt x.name
    refine wCall H (fun hA => Append_spec (l := l) (s := x.name) hA hex (by rw [hpl]; omega) (by simp) (by omega) (by rw [hus]; omega)) (hK := ?_)
    have after : ∀ {w4 : World} {l' : Files} {cd : Int}, Rep l' (if nameOk x.name = true ∧ (x.bs.length : Int) ≤ size - totA A then insA x.name ((usedOf A x.name).1 ++ x.bs, (usedOf A x.name).2) A else A) →
        (cd = if nameOk x.name = false then 1 else if (x.bs.length : Int) > size - totA A then 5 else 0) →
        St w (fps [diskO db bm size (total l) born l, rdO rb size2 born2 R]) w4 [diskO db bm size (total l') born l', pt b (.cells #[.slice (if x.bc = 0 then x.ba else x.ba.map (·.add (0 * 1))) (x.bs.length / 2 - 0) (x.bc - 0), .slice (if x.bc = x.bs.length / 2 then x.ba else x.ba.map (·.add (x.bs.length / 2 * 1))) (x.bn - x.bs.length / 2) (x.bc - x.bs.length / 2)] 30),
          pt q (.cells #[.int .i64 x.op, .string x.name, .string x.to, .slice x.na x.nn' x.nc, .slice x.ba x.bn x.bc, .slice x.pa x.pn x.pc] 46), rdO rb size2 born2 R] →
        (World.cell? w4 (Addr.add ⟨q, 0, none⟩ 4) = some (.slice x.ba x.bn x.bc) ∧ (World.cell? w4 (Addr.add ⟨q, 0, none⟩ 1) = some (.string x.name) ∧
          CallR Try.prog fn_glacierref2_Disk_Append #[(.pointer (some ⟨rb, 0, none⟩)), (.string x.name), (.slice x.ba x.bn x.bc)] w4 fun res1 w_6 => mInt .i64 res1 fun v10 =>
            ∃ A', stepQ db rb size size2 born born2 A R.A x (.bool (cd == v10)) w_6 A' ∧ St w (fps [diskO db bm size (total l) born l, rdO rb size2 born2 R]) w_6 A')) := by
      intro w4 l' cd hr' hcd H
      refine wC H (b := q) (j := 4) (hK := wC H (b := q) (j := 1) (hK := ?_))
      refine wCall H (fun hA => rAppend_spec (s := x.name) hA hR9 hg2.srt (by omega) (by omega) (Ext.sub (B := [rdO rb size2 born2 R]) (by decide) hxb H.fr subR) (by omega)) (hK := ?_)
      have done : ∀ {w5 : World} {R' : RD} {c2 : Int}, R'.A = (if nameOk x.name = true ∧ (x.bs.length : Int) ≤ size2 - totA R.A then insA x.name ((usedOf R.A x.name).1 ++ x.bs, (usedOf R.A x.name).2) R.A else R.A) →
          (c2 = if nameOk x.name = false then 1 else if (x.bs.length : Int) > size2 - totA R.A then 5 else 0) →
          St w (fps [diskO db bm size (total l) born l, rdO rb size2 born2 R]) w5 ([rdO rb size2 born2 R'] ++ [diskO db bm size (total l') born l', pt b (.cells #[.slice (if x.bc = 0 then x.ba else x.ba.map (·.add (0 * 1))) (x.bs.length / 2 - 0) (x.bc - 0), .slice (if x.bc = x.bs.length / 2 then x.ba else x.ba.map (·.add (x.bs.length / 2 * 1))) (x.bn - x.bs.length / 2) (x.bc - x.bs.length / 2)] 30),
            pt q (.cells #[.int .i64 x.op, .string x.name, .string x.to, .slice x.na x.nn' x.nc, .slice x.ba x.bn x.bc, .slice x.pa x.pn x.pc] 46)]) →
          ∃ A', stepQ db rb size size2 born born2 A R.A x (.bool (cd == c2)) w5 A' ∧ St w (fps [diskO db bm size (total l) born l, rdO rb size2 born2 R]) w5 A' := by
        intro w5 R' c2 hR' hc2 H
        refine fin (cd == c2) w5 bm l' R' (fun hs hAB => ?_) hr' hR' ((H.front (diskO db bm size (total l') born l')).left (L := [_, _]))
        subst hs hAB
        rw [hcd, hc2]
        simp
      rintro r w5 A' (⟨hno, rfl, rfl⟩ | ⟨hok, hf, rfl, rfl⟩ | ⟨hok, hf, rfl, R', hR', rfl⟩) _ H
      · exact mInt_mk (done (by rw [if_neg (fun h => by rw [hno] at h; cases h.1)]) (by rw [if_pos hno]) H)
      · exact mInt_mk (done (by rw [if_neg (fun h => by omega)]) (by rw [if_neg (by rw [hok]; decide), if_pos hf]) H)
      · exact mInt_mk (done (by rw [hR', if_pos ⟨hok, hf⟩]) (by rw [if_neg (by rw [hok]; decide), if_neg (by omega)]) H)
    rintro r w4 A' (⟨hno, rfl, rfl⟩ | ⟨hok, hf, rfl, rfl⟩ | ⟨hok, hf, rfl, f, hf1, hf2, rfl⟩) _ H
    · exact mInt_mk (after (by rw [if_neg (fun h => by rw [hno] at h; cases h.1)]; exact hr) (by rw [if_pos hno]) H)
    · rw [hpl] at hf
      exact mInt_mk (after (by rw [if_neg (fun h => by omega)]; exact hr) (by rw [if_neg (by rw [hok]; decide), if_pos (by omega)]) H)
    · rw [hpl] at hf
      rw [hpb] at hf1
      have ht1 := total_append hf1
      have hr' := hr.append hf1 hf2
      rw [hpl, show (total l : Int) + (x.bs.length : Int) = (total (aput l x.name f) : Int) by omega] at H
      exact mInt_mk (after (by rw [if_pos ⟨hok, by omega⟩]; exact hr') (by rw [if_neg (by rw [hok]; decide), if_neg (by omega)]) H)
  have h1 : ¬ x.op = 1 := by simpa using h1
  refine br (fun h => ?_) (fun h2 => ?_)
  · -- Sync
    have hop : x.op = 2 := by simpa using h
    have hN : ∀ B : List AF, ∀ sz : Int, nextA sz B x = if allA B x.names = true then x.names.foldl syncA B else B := fun B sz => by unfold nextA; rw [if_neg h1, if_pos hop]
    have hB : ∀ b : Int, nextB b x = b := fun b => by unfold nextB; rw [if_neg (by omega)]
    rw [hB born, hB born2] at fin
    simp only [hN] at fin
    refine wLW H ?_
    intro w2 H
    refine wSl H (b := q) (j := 3) (hK := wSl H (b := q) (j := 3) (hK := ?_))
    have hall : allIn l x.names = allA A x.names := by
      unfold allIn allA
      congr 1
      funext s
      rw [← hr.look]
      unfold look
      cases aget l s <;> rfl
    have second : ∀ {w4 : World} {l' : Files} {cd : Int}, Rep l' (if allA A x.names = true then x.names.foldl syncA A else A) → (cd = if allA A x.names = false then 4 else 0) → total l' = total l →
        St w (fps [diskO db bm size (total l) born l, rdO rb size2 born2 R]) w4 ([diskO db bm size (total l) born l'] ++ [pt q (.cells #[.int .i64 x.op, .string x.name, .string x.to, .slice x.na x.nn' x.nc, .slice x.ba x.bn x.bc, .slice x.pa x.pn x.pc] 46), rdO rb size2 born2 R]) →
        (World.cell? w4 (Addr.add ⟨q, 0, none⟩ 3) = some (.slice x.na x.nn' x.nc) ∧
          CallR Try.prog fn_glacierref2_Disk_Sync #[(.pointer (some ⟨rb, 0, none⟩)), (.slice x.na x.nn' x.nc)] w4 fun res1 w_6 => mInt .i64 res1 fun v10 =>
            ∃ A', stepQ db rb size size2 born born2 A R.A x (.bool (cd == v10)) w_6 A' ∧ St w (fps [diskO db bm size (total l) born l, rdO rb size2 born2 R]) w_6 A') := by
      intro w4 l' cd hr' hcd htl H
      rw [← htl] at H
      have H : St w (fps [diskO db bm size (total l) born l, rdO rb size2 born2 R]) w4 [diskO db bm size (total l') born l', pt q (.cells #[.int .i64 x.op, .string x.name, .string x.to, .slice x.na x.nn' x.nc, .slice x.ba x.bn x.bc, .slice x.pa x.pn x.pc] 46), rdO rb size2 born2 R] := H
      refine wC H (b := q) (j := 3) (hK := ?_)
      refine wCall H (fun hA => rSync_spec (ns := x.names) hA hR9 hg2.srt (by omega) (Ext.sub (B := [rdO rb size2 born2 R]) (by decide) hxn H.fr subR)) (hK := ?_)
      rintro r w5 A' (⟨hno, rfl, rfl⟩ | ⟨hok, rfl, R', hR', rfl⟩) _ H
      · refine mInt_mk (fin (cd == 4) w5 bm l' R (fun hs hAB => ?_) hr' (by rw [if_neg (by rw [hno]; decide)]) ((H.front (diskO db bm size (total l') born l')).left (L := [_, _])))
        subst hAB
        rw [hcd, if_pos hno]; rfl
      · refine mInt_mk (fin (cd == 0) w5 bm l' R' (fun hs hAB => ?_) hr' (by rw [hR', if_pos hok]) ((H.front (diskO db bm size (total l') born l')).left (L := [_, _])))
        subst hAB
        rw [hcd, if_neg (by rw [hok]; decide)]; rfl
    refine wCall H (fun hA => Sync_spec (l := l) (ns := x.names) hA (Ext.sub (B := [diskO db bm size (total l) born l]) (by decide) hxn H.fr subD) (by omega)) (hK := ?_)
    rintro r w4 A' (⟨hno, rfl, rfl⟩ | ⟨hok, rfl, rfl⟩) _ H
    · rw [hall] at hno
      exact mInt_mk (second (by rw [if_neg (by rw [hno]; decide)]; exact hr) (by rw [if_pos hno]) rfl H)
    · rw [hall] at hok
      exact mInt_mk (second (by rw [if_pos hok]; exact hr.syncs) (by rw [if_neg (by rw [hok]; decide)]) total_syncs H)
  have h2 : ¬ x.op = 2 := by simpa using h2
  refine br (fun h => ?_) (fun h3 => ?_)
  · -- Rename
    have hop : x.op = 3 := by simpa using h
    have hN : ∀ B : List AF, ∀ sz : Int, nextA sz B x = if (aget B x.name).isSome = true ∧ nameOk x.to = true ∧ x.name ≠ x.to then insA x.to (usedOf B x.name) (adel B x.name) else B := fun B sz => by unfold nextA; rw [if_neg h1, if_neg h2, if_pos hop]
    have hB : ∀ b : Int, nextB b x = b := fun b => by unfold nextB; rw [if_neg (by omega)]
    rw [hB born, hB born2] at fin
    simp only [hN] at fin
    refine wLW H ?_
    intro w2 H
    refine wS H (b := q) (j := 1) (hK := wS H (b := q) (j := 2) (hK := wS H (b := q) (j := 1) (hK := wS H (b := q) (j := 2) (hK := ?_))))
    have hsome : ∀ s, (aget A s).isSome = (aget l s).isSome := fun s => by
      rw [← hr.look]
      unfold look
      cases aget l s <;> rfl
    let code : List AF → Int := fun B => if aget B x.name = none then 4 else if nameOk x.to = false then 1 else 0
    have second : ∀ {w4 : World} {l' : Files} {cd : Int}, Rep l' (if (aget A x.name).isSome = true ∧ nameOk x.to = true ∧ x.name ≠ x.to then insA x.to (usedOf A x.name) (adel A x.name) else A) → (cd = code A) →
        St w (fps [diskO db bm size (total l) born l, rdO rb size2 born2 R]) w4 ([diskO db bm size (total l') born l'] ++ [pt q (.cells #[.int .i64 x.op, .string x.name, .string x.to, .slice x.na x.nn' x.nc, .slice x.ba x.bn x.bc, .slice x.pa x.pn x.pc] 46), rdO rb size2 born2 R]) →
        (World.cell? w4 (Addr.add ⟨q, 0, none⟩ 2) = some (.string x.to) ∧ (World.cell? w4 (Addr.add ⟨q, 0, none⟩ 1) = some (.string x.name) ∧
          CallR Try.prog fn_glacierref2_Disk_Rename #[(.pointer (some ⟨rb, 0, none⟩)), (.string x.name), (.string x.to)] w4 fun res1 w_6 => mInt .i64 res1 fun v10 =>
            ∃ A', stepQ db rb size size2 born born2 A R.A x (.bool (cd == v10)) w_6 A' ∧ St w (fps [diskO db bm size (total l) born l, rdO rb size2 born2 R]) w_6 A')) := by
      intro w4 l' cd hr' hcd H
      have H : St w (fps [diskO db bm size (total l) born l, rdO rb size2 born2 R]) w4 [diskO db bm size (total l') born l', pt q (.cells #[.int .i64 x.op, .string x.name, .string x.to, .slice x.na x.nn' x.nc, .slice x.ba x.bn x.bc, .slice x.pa x.pn x.pc] 46), rdO rb size2 born2 R] := H
      refine wC H (b := q) (j := 2) (hK := wC H (b := q) (j := 1) (hK := ?_))
      refine wCall H (fun hA => rRename_spec (s := x.name) (t := x.to) hA hR9 hg2.srt) (hK := ?_)
      have done : ∀ {w5 : World} {R' : RD} {c2 : Int}, R'.A = (if (aget R.A x.name).isSome = true ∧ nameOk x.to = true ∧ x.name ≠ x.to then insA x.to (usedOf R.A x.name) (adel R.A x.name) else R.A) → c2 = code R.A →
          St w (fps [diskO db bm size (total l) born l, rdO rb size2 born2 R]) w5 ([rdO rb size2 born2 R'] ++ [diskO db bm size (total l') born l', pt q (.cells #[.int .i64 x.op, .string x.name, .string x.to, .slice x.na x.nn' x.nc, .slice x.ba x.bn x.bc, .slice x.pa x.pn x.pc] 46)]) → ∃ A', stepQ db rb size size2 born born2 A R.A x (.bool (cd == c2)) w5 A' ∧ St w (fps [diskO db bm size (total l) born l, rdO rb size2 born2 R]) w5 A' := by
        intro w5 R' c2 hR' hc2 H
        refine fin (cd == c2) w5 bm l' R' (fun hs hAB => ?_) hr' hR' ((H.front (diskO db bm size (total l') born l')).left (L := [_, _]))
        rw [hcd, hc2, hAB]
        simp
      rintro r w5 A' (⟨hno, rfl, rfl⟩ | ⟨hsm, hno, rfl, rfl⟩ | ⟨hsm, hok, he, rfl, rfl⟩ | ⟨hsm, hok, hne, rfl, R', hR', rfl⟩) _ H
      · exact mInt_mk (done (by rw [if_neg (fun h => by rw [hno] at h; cases h.1)]) (by simp only [code]; rw [if_pos hno]) H)
      · exact mInt_mk (done (by rw [if_neg (fun h => by rw [hno] at h; cases h.2.1)]) (by simp only [code]; rw [if_neg (fun h => by rw [h] at hsm; cases hsm), if_pos hno]) H)
      · exact mInt_mk (done (by rw [if_neg (fun h => h.2.2 he)]) (by simp only [code]; rw [if_neg (fun h => by rw [h] at hsm; cases hsm), if_neg (by rw [hok]; decide)]) H)
      · exact mInt_mk (done (by rw [if_pos ⟨hsm, hok, hne⟩]; exact hR') (by simp only [code]; rw [if_neg (fun h => by rw [h] at hsm; cases hsm), if_neg (by rw [hok]; decide)]) H)
    have hbt : (bsOf l x.to).length ≤ 1000000000000 := by
      unfold bsOf
      cases hq : aget l x.to with
      | none => simp
      | some f => have := total_adel hq; simp only [Option.map_some, Option.getD_some]; omega
    refine wCall H (fun hA => Rename_spec (l := l) (s := x.name) (t := x.to) (used := (total l : Int)) hA (by omega) hbt) (hK := ?_)
    rintro r w4 A' (⟨hno, rfl, rfl⟩ | ⟨f, hf, hno, rfl, rfl⟩ | ⟨f, hf, hok, he, rfl, rfl⟩ | ⟨f, hf, hok, hne, rfl, rfl⟩) _ H
    · have hnA : aget A x.name = none := by
        have := hsome x.name
        rw [hno] at this
        cases hq : aget A x.name with
        | none => rfl
        | some y => rw [hq] at this; cases this
      exact mInt_mk (second (by rw [if_neg (fun h => by rw [hnA] at h; cases h.1)]; exact hr) (by simp only [code]; rw [if_pos hnA]) H)
    all_goals have hsm : (aget A x.name).isSome = true := by rw [hsome, hf]; rfl
    · exact mInt_mk (second (by rw [if_neg (fun h => by rw [hno] at h; cases h.2.1)]; exact hr) (by simp only [code]; rw [if_neg (fun h => by rw [h] at hsm; cases hsm), if_pos hno]) H)
    · exact mInt_mk (second (by rw [if_neg (fun h => h.2.2 he)]; exact hr) (by simp only [code]; rw [if_neg (fun h => by rw [h] at hsm; cases hsm), if_neg (by rw [hok]; decide)]) H)
    · rw [total_rename hf (Ne.symm hne)] at H
      exact mInt_mk (second (by rw [if_pos ⟨hsm, hok, hne⟩]; exact hr.rename hnd hf) (by simp only [code]; rw [if_neg (fun h => by rw [h] at hsm; cases hsm), if_neg (by rw [hok]; decide)]) H)
  have h3 : ¬ x.op = 3 := by simpa using h3
  refine br (fun h => ?_) (fun h4 => ?_)
  · -- Delete
    have hop : x.op = 4 := by simpa using h
    have hN : ∀ B : List AF, ∀ sz : Int, nextA sz B x = if allA B x.names = true then x.names.foldl adel B else B := fun B sz => by unfold nextA; rw [if_neg h1, if_neg h2, if_neg h3, if_pos hop]
    have hB : ∀ b : Int, nextB b x = b := fun b => by unfold nextB; rw [if_neg (by omega)]
    rw [hB born, hB born2] at fin
    simp only [hN] at fin
    refine wLW H ?_
    intro w2 H
    refine wSl H (b := q) (j := 3) (hK := wSl H (b := q) (j := 3) (hK := ?_))
    have hall : allIn l x.names = allA A x.names := by
      unfold allIn allA
      congr 1
      funext s
      rw [← hr.look]
      unfold look
      cases aget l s <;> rfl
    have second : ∀ {w4 : World} {l' : Files} {cd : Int}, Rep l' (if allA A x.names = true then x.names.foldl adel A else A) → (cd = if allA A x.names = false then 4 else 0) →
        St w (fps [diskO db bm size (total l) born l, rdO rb size2 born2 R]) w4 ([diskO db bm size (total l') born l'] ++ [pt q (.cells #[.int .i64 x.op, .string x.name, .string x.to, .slice x.na x.nn' x.nc, .slice x.ba x.bn x.bc, .slice x.pa x.pn x.pc] 46), rdO rb size2 born2 R]) →
        (World.cell? w4 (Addr.add ⟨q, 0, none⟩ 3) = some (.slice x.na x.nn' x.nc) ∧
          CallR Try.prog fn_glacierref2_Disk_Delete #[(.pointer (some ⟨rb, 0, none⟩)), (.slice x.na x.nn' x.nc)] w4 fun res1 w_6 => mInt .i64 res1 fun v10 =>
            ∃ A', stepQ db rb size size2 born born2 A R.A x (.bool (cd == v10)) w_6 A' ∧ St w (fps [diskO db bm size (total l) born l, rdO rb size2 born2 R]) w_6 A') := by
      intro w4 l' cd hr' hcd H
      have H : St w (fps [diskO db bm size (total l) born l, rdO rb size2 born2 R]) w4 [diskO db bm size (total l') born l', pt q (.cells #[.int .i64 x.op, .string x.name, .string x.to, .slice x.na x.nn' x.nc, .slice x.ba x.bn x.bc, .slice x.pa x.pn x.pc] 46), rdO rb size2 born2 R] := H
      refine wC H (b := q) (j := 3) (hK := ?_)
      refine wCall H (fun hA => rDelete_spec (ns := x.names) hA hR9 hg2.srt (by omega) (Ext.sub (B := [rdO rb size2 born2 R]) (by decide) hxn H.fr subR)) (hK := ?_)
      rintro r w5 A' (⟨hno, rfl, rfl⟩ | ⟨hok, rfl, R', hR', rfl⟩) _ H
      · refine mInt_mk (fin (cd == 4) w5 bm l' R (fun hs hAB => ?_) hr' (by rw [if_neg (by rw [hno]; decide)]) ((H.front (diskO db bm size (total l') born l')).left (L := [_, _])))
        subst hAB
        rw [hcd, if_pos hno]; rfl
      · refine mInt_mk (fin (cd == 0) w5 bm l' R' (fun hs hAB => ?_) hr' (by rw [hR', if_pos hok]) ((H.front (diskO db bm size (total l') born l')).left (L := [_, _])))
        subst hAB
        rw [hcd, if_neg (by rw [hok]; decide)]; rfl
    have hbnd : ∀ i f s, x.names[i]? = some s → aget ((x.names.take i).foldl delOne ((total l : Int), l)).2 s = some f → -9223372036854775808 ≤ ((x.names.take i).foldl delOne ((total l : Int), l)).1 - f.bs.length ∧ ((x.names.take i).foldl delOne ((total l : Int), l)).1 - f.bs.length < 9223372036854775808 := by
      intro i f s _ hf
      obtain ⟨_, g2, _, g4⟩ := hr.dels (ns := x.names.take i) hnd
      have := total_adel hf
      rw [g2]
      omega
    refine wCall H (fun hA => Delete_spec (l := l) (ns := x.names) (used := (total l : Int)) hA (Ext.sub (B := [diskO db bm size (total l) born l]) (by decide) hxn H.fr subD) (by omega) hbnd) (hK := ?_)
    rintro r w4 A' (⟨hno, rfl, rfl⟩ | ⟨hok, rfl, rfl⟩) _ H
    · rw [hall] at hno
      exact mInt_mk (second (by rw [if_neg (by rw [hno]; decide)]; exact hr) (by rw [if_pos hno]) H)
    · rw [hall] at hok
      obtain ⟨g1, g2, _, _⟩ := hr.dels (ns := x.names) hnd
      rw [g2] at H
      exact mInt_mk (second (by rw [if_pos hok]; exact g1) (by rw [if_neg (by rw [hok]; decide)]) H)
  have h4 : ¬ x.op = 4 := by simpa using h4
  refine br (fun h => ?_) (fun h5 => ?_)
  · -- Crash
    have hop : x.op = 5 := by simpa using h
    have hN : ∀ B : List AF, ∀ sz : Int, nextA sz B x = crashA x.picks B := fun B sz => by unfold nextA; rw [if_neg h1, if_neg h2, if_neg h3, if_neg h4, if_pos hop]
    have hB : ∀ b : Int, nextB b x = b := fun b => by unfold nextB; rw [if_neg (by omega)]
    rw [hB born, hB born2] at fin
    simp only [hN] at fin
    refine wSl H (b := q) (j := 5) (hK := ?_)
    refine wCall H (fun hA => Crash_spec (l := l) (picks := x.picks) hA (Ext.sub (B := [diskO db bm size (total l) born l]) (by decide) hxp H.fr subD) (by omega) (hr.whole hg.wh) rfl (by omega)) (hK := ?_)
    rintro r w4 A' ⟨rfl, l', hcr, rfl⟩ _ H
    have hr' := hr.crash hnd hcr
    have H : St w (fps [diskO db bm size (total l) born l, rdO rb size2 born2 R]) w4 [diskO db bm size (total l') born l', pt q (.cells #[.int .i64 x.op, .string x.name, .string x.to, .slice x.na x.nn' x.nc, .slice x.ba x.bn x.bc, .slice x.pa x.pn x.pc] 46), rdO rb size2 born2 R] := H
    refine mTup_mk (mNil_mk ?_)
    refine wSl H (b := q) (j := 5) (hK := ?_)
    refine wCall H (fun hA => rCrash_spec (picks := x.picks) hA hR9 hg2.wh (by omega) (Ext.sub (B := [rdO rb size2 born2 R]) (by decide) hxp H.fr subR)) (hK := ?_)
    rintro r w5 A' ⟨rfl, R', hR', rfl⟩ _ H
    refine mTup_mk (mNil_mk ?_)
    exact fin true w5 bm l' R' (fun _ _ => rfl) hr' hR' ((H.front (diskO db bm size (total l') born l')).left (L := [_, _]))
  have h5 : ¬ x.op = 5 := by simpa using h5
  refine br (fun h => ?_) (fun h6 => ?_)
  · -- Lose
    have hop : x.op = 6 := by simpa using h
    have hN : ∀ B : List AF, ∀ sz : Int, nextA sz B x = [] := fun B sz => by unfold nextA; rw [if_neg h1, if_neg h2, if_neg h3, if_neg h4, if_neg h5, if_pos hop]
    have hB : ∀ b : Int, nextB b x = b + 1 := fun b => by unfold nextB; rw [if_pos hop]
    rw [hB born, hB born2] at fin
    simp only [hN] at fin
    refine wCall H (fun hA => Lose_spec (born := born) (l := l) hA (by omega)) (hK := ?_)
    rintro r w4 A' ⟨rfl, bm', rfl⟩ _ H
    refine mTup_mk (mNil_mk ?_)
    refine wCall H (fun hA => rLose_spec (born := born2) (R := R) hA (by omega)) (hK := ?_)
    rintro r w5 A' ⟨rfl, rfl⟩ _ H
    refine mTup_mk (mNil_mk ?_)
    exact fin true w5 bm' [] ⟨none, 0, 0, []⟩ (fun _ _ => rfl) Rep.nil rfl ((H.front (diskO db bm' size 0 (born + 1) [])).left (L := [_, _]))
  · have h6 : ¬ x.op = 6 := by simpa using h6
    have hN : ∀ B : List AF, ∀ sz : Int, nextA sz B x = B := fun B sz => by unfold nextA; rw [if_neg h1, if_neg h2, if_neg h3, if_neg h4, if_neg h5, if_neg h6]
    have hB : ∀ b : Int, nextB b x = b := fun b => by unfold nextB; rw [if_neg h6]
    rw [hB born, hB born2] at fin
    simp only [hN] at fin
    exact fin true w1 bm l R (fun _ _ => rfl) hr rfl H.tail
end
end Go.Proofs.Ytimgbkabfkdabaa
