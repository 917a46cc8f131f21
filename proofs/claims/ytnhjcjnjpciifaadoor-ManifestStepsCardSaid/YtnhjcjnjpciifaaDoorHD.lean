/- DeleteFunc over tables; shared; apart. -/
import Derived.Test.YtnhjcjnjpciifaaDoorHC
namespace Go.Proofs.YtnhjcjnjpciifaaDoor
open Go.Sh
attribute [local irreducible] rRun LDI LDB LDS LDP LDSl LDM LD Go.Sh.ST AL ALM LetW CallR CallV CallI NN IX SIX Br Req mInt mBool mStr mPtr mSlice mMap mAgg mTup mCons mNil mNth mPA LoopS
theorem flat_set5 {α : Type} {f : α → List Value} {x : α} {c0 c1 c2 c3 c4 : Value} (hk : ∀ x, (f x).length = 5) (hx : f x = [c0, c1, c2, c3, c4]) : ∀ (l : List α) (i : Nat), i < l.length →
    (((((l.flatMap f).set (i * 5) c0).set (i * 5 + 1) c1).set (i * 5 + 2) c2).set (i * 5 + 3) c3).set (i * 5 + 4) c4 = (l.set i x).flatMap f
  | [], i, h => by simp at h
  | a :: t, 0, _ => by
    have h3 := hk a
    match ha : f a, h3 with
    | [a0, a1, a2, a3, a4], _ => simp [ha, hx]
  | a :: t, i + 1, h => by
    have h3 := hk a
    have ih := flat_set5 hk hx t i (by simpa using h)
    match ha : f a, h3 with
    | [a0, a1, a2, a3, a4], _ =>
      have e0 : (i + 1) * 5 = i * 5 + 1 + 1 + 1 + 1 + 1 := by omega
      rw [List.flatMap_cons, ha, e0, List.set_cons_succ, List.flatMap_cons, ha, ← ih]
      rfl
theorem add_zero' (a : Option Addr) (c : Nat) : (if c = 0 then a else a.map (·.add (0 * 5))) = a := by
  split
  · rfl
  · cases a <;> simp [Addr.add]
theorem take_set_next {α : Type} {l : List α} {i : Nat} {x : α} (h : i < l.length) : (l.set i x).take (i + 1) = l.take i ++ [x] := by
  apply List.ext_getElem?
  intro k
  rw [List.getElem?_take]
  by_cases hk : k < i + 1
  · rw [if_pos hk, List.getElem?_set]
    by_cases hki : i = k
    · subst hki
      rw [if_pos rfl, if_pos h, List.getElem?_append_right (by rw [List.length_take]; exact Nat.min_le_left ..), List.length_take, Nat.min_eq_left (by omega), Nat.sub_self]
      rfl
    · rw [if_neg hki, List.getElem?_append_left (by rw [List.length_take]; omega), List.getElem?_take_of_lt (by omega)]
  · rw [if_neg hk, List.getElem?_eq_none (by simp; omega)]
theorem zero_tab : (Tryd.prog.info? 38).bind (·.zero) = some (.agg #[.int .i64 0, .int .i64 0, .string ⟨#[]⟩, .string ⟨#[]⟩, .int .i64 0]) := by kernel_rfl
section
variable {w0 w : World} {F : List Nat} {L M : List Own}
set_option maxHeartbeats 4000000 in
theorem DeleteT_walk {a : Option Addr} {n c : Nat} {l : List Tab} {g : Value} {p : Tab → Bool} {K : Value → World → Prop} (H : St w0 F w (tabsO (.slice a n c) l :: L)) (hl : l.length ≤ 1000000)
    (hg : ∀ t w' N K, St w0 F w' (N ++ L) → (∀ w'', St w0 F w'' (N ++ L) → K (.bool (p t)) w'') → CallV Tryd.prog g [.agg t.cells.toArray] w' K)
    (hK : ∀ w' n', St w0 F w' (tabsO (.slice a n' c) (l.filter fun t => !p t) :: L) → K (.slice a n' c) w') :
    CallR Tryd.prog fn_slices_DeleteFunc_s_api_Table_api_Table #[.slice a n c, g] w K := by
  have hn := tabs_len (H.get (i := 0) rfl : SliceAt w 38 5 (.slice a n c) _).reads
  subst hn
  refine slices_DeleteFunc_s_api_Table_api_Table_sound _ _ _ _ _ _ ?_
  refine IndexT_walk (p := p) (L := tabsO (.slice a l.length c) l :: L) H hl (fun w' H => (H.get (i := 0) rfl : SliceAt w' 38 5 (.slice a l.length c) _).reads) (fun t w' K H hK => hg t w' [_] K H hK) ?_ ?_
  · intro hz w1 H
    refine mInt_mk (br (fun _ => ?_) (fun h => by simp at h))
    have e : l.filter (fun t => !p t) = l := List.filter_eq_self.2 fun t ht => by rw [hz t ht]; rfl
    rw [e] at hK
    exact hK _ _ H
  intro i0 t0 ht0 hp0 hz w1 H
  have hi0 := (List.getElem?_eq_some_iff.1 ht0).1
  refine mInt_mk (br (fun h => by simp at h) (fun _ => ?_))
  have hw0 : IntKind.wrap .i64 ((i0 : Int) + 1) = ((i0 + 1 : Nat) : Int) := by rw [wrap_id (by omega) (by omega)]; rfl
  refine wLoop (fun k s w' => ∃ (i j : Nat) (l' : List Tab), k + j = l.length ∧ s = (a, l.length, c, g, (i : Int), (j : Int)) ∧ i < j ∧ l'.length = l.length ∧ l'.take i = (l.take j).filter (fun t => !p t) ∧ l'.drop j = l.drop j ∧
    St w0 F w' (tabsO (.slice a l.length c) l' :: L)) ?_ ?_
  · refine ⟨l.length - (i0 + 1), i0, i0 + 1, l, by omega, by rw [← hw0], by omega, rfl, ?_, rfl, H⟩
    rw [← List.take_append_getElem hi0, List.filter_append]
    have e1 : (l.take i0).filter (fun t => !p t) = l.take i0 := List.filter_eq_self.2 fun t ht => by
      obtain ⟨j, hj⟩ := List.mem_iff_getElem?.1 ht
      rw [List.getElem?_take] at hj
      split at hj
      · rename_i hji; rw [hz j hji t hj]; rfl
      · cases hj
    have e2 : l[i0] = t0 := (List.getElem?_eq_some_iff.1 ht0).2
    rw [e1, e2]
    simp [hp0]
  clear H
  rintro k s w2 ⟨i, j, l', hk, rfl, hij, hll, htk, hdr, H⟩
  refine br (fun h => ?_) (fun h => ?_)
  · have hj : j < l.length := by simp at h; omega
    obtain ⟨t, ht⟩ : ∃ t, l[j]? = some t := ⟨_, List.getElem?_eq_getElem hj⟩
    have ht' : l'[j]? = some t := by
      have := congrArg (·[0]?) hdr
      simp only [List.getElem?_drop, Nat.add_zero] at this
      rw [this, ht]
    have hwj : IntKind.wrap .i64 ((j : Int) + 1) = ((j + 1 : Nat) : Int) := by rw [wrap_id (by omega) (by omega)]; rfl
    have hwi : IntKind.wrap .i64 ((i : Int) + 1) = ((i + 1 : Nat) : Int) := by rw [wrap_id (by omega) (by omega)]; rfl
    have htk1 : l.take (j + 1) = l.take j ++ [t] := by
      rw [← List.take_append_getElem hj, (List.getElem?_eq_some_iff.1 ht).2]
    have hdr1 : l'.drop (j + 1) = l.drop (j + 1) := by
      have := congrArg (·.drop 1) hdr
      simpa [List.drop_drop] using this
    refine tab_load (H.get (i := 0) rfl : SliceAt w2 38 5 (.slice a l.length c) _).reads ht' rfl ?_
    refine wAL H fun q w3 H => ?_
    repeat (first | refine nn ?_ | refine wI H (hK := ?_) | refine wP H (hK := ?_) | refine wM H (hK := ?_) | refine wSl H (hK := ?_) | refine wB H (hK := ?_) | refine wS H (hK := ?_) | refine wEq ?_ | refine wC H (hK := ?_) | (refine wLW H ?_; intro w1 H) | (refine wST H (hK := ?_); intro w1 H _) | refine mSlice_mk ?_ | refine mInt_mk ?_ | refine mBool_mk ?_ | refine mTup_mk ?_ | refine mCons_mk ?_ | refine mNil_mk ?_ | refine mAgg_mk ?_ | refine mPtr_mk ?_ | refine mStr_mk ?_)
    refine hg t w1 [_, _] _ H fun w4 H => mBool_mk ?_
    have H : St w0 F w4 (pt q (.cells #[.int .i64 t.file, .int .i64 t.level, .string t.first, .string t.last, .int .i64 t.size] 38) :: tabsO (.slice a l.length c) l' :: L) := H
    refine br (fun hp => ?_) (fun hp => ?_)
    · have hp : p t = false := by simpa using hp
      repeat (first | refine nn ?_ | refine wI H (hK := ?_) | refine wP H (hK := ?_) | refine wM H (hK := ?_) | refine wSl H (hK := ?_) | refine wB H (hK := ?_) | refine wS H (hK := ?_) | refine wEq ?_ | refine wC H (hK := ?_) | (refine wLW H ?_; intro w1 H) | (refine wST H (hK := ?_); intro w1 H _) | refine mSlice_mk ?_ | refine mInt_mk ?_ | refine mBool_mk ?_ | refine mTup_mk ?_ | refine mCons_mk ?_ | refine mNil_mk ?_ | refine mAgg_mk ?_ | refine mPtr_mk ?_ | refine mStr_mk ?_)
      refine wIXs (H.get (i := 1) rfl : SliceAt w4 38 5 _ _) (i := i) (by show i < l.length; omega) rfl fun b hb _ => ?_
      subst hb
      have hfl : (l'.flatMap Tab.cells).length = l'.length * 5 := flat_length tcells_len l'
      refine wSTc H (hi := by omega) (hK := fun w5 H => ?_)
      refine wSTc H (p := i * 5 + 1) (hi := by rw [List.length_set]; omega) (hK := fun w5 H => ?_)
      refine wSTc H (p := i * 5 + 2) (hi := by rw [List.length_set, List.length_set]; omega) (hK := fun w5 H => ?_)
      refine wSTc H (p := i * 5 + 3) (hi := by rw [List.length_set, List.length_set, List.length_set]; omega) (hK := fun w5 H => ?_)
      refine wSTc H (p := i * 5 + 4) (hi := by rw [List.length_set, List.length_set, List.length_set, List.length_set]; omega) (hK := fun w5 H => ?_)
      rw [flat_set5 (x := t) tcells_len rfl l' i (by omega)] at H
      refine ⟨k - 1, by omega, i + 1, j + 1, l'.set i t, by omega, by rw [hwi, hwj], by omega, by rw [List.length_set]; exact hll, ?_, ?_, H.tail⟩
      · rw [take_set_next (by omega), htk, htk1, List.filter_append]
        simp [hp]
      · rw [List.drop_set, if_pos (by omega)]
        exact hdr1
    · have hp : p t = true := by simpa using hp
      refine ⟨k - 1, by omega, i, j + 1, l', by omega, by rw [hwj], by omega, hll, ?_, hdr1, H.tail⟩
      rw [htk, htk1, List.filter_append]
      simp [hp]
  · have hj : j = l.length := by simp at h; omega
    subst hj
    rw [List.take_length] at htk
    have hile : i ≤ l.length := by omega
    have hcap : l.length ≤ c := by
      obtain ⟨_, _, _, he, _, h2, _⟩ := (H.get (i := 0) rfl : SliceAt w2 38 5 (.slice a l.length c) _)
      cases he
      exact h2
    have H2 := H.head (i := 0) rfl hile
    rw [flat_take tcells_len, htk] at H2
    have H2 : St w0 F w2 (tabsO (.slice a i c) (l.filter fun t => !p t) :: L) := H2
    refine rRun_intro (sliceAt_run (P := Tryd.prog) elem_tab (a := a) (len := l.length) (cap := c) (l := i) (h := l.length) (m := c) (lo := some (.int .i64 (i : Int))) (hi := none) (mx := none) rfl rfl (fun h => by cases h) ⟨rfl, hile⟩) (mSlice_mk ?_)
    refine clear_ownK (sz := 5) (m := i) (n := l.length - i) elem_tab.under zero_tab rfl (by decide) (by decide) H2 (i := 0) rfl (by omega) ?_ fun w5 H => mTup_mk (mNil_mk ?_)
    · by_cases hci : c = i
      · left; omega
      · right; rw [if_neg hci]
    refine rRun_intro (sliceAt_run (P := Tryd.prog) elem_tab (a := a) (len := l.length) (cap := c) (l := 0) (h := i) (m := c) (lo := none) (hi := some (.int .i64 (i : Int))) (mx := none) rfl ⟨rfl, by omega⟩ (fun h => by cases h) rfl) (mSlice_mk ?_)
    rw [add_zero', Nat.sub_zero, Nat.sub_zero]
    exact hK _ _ H
end
end Go.Proofs.YtnhjcjnjpciifaaDoor
