/- apply: its loops. -/
import Derived.Test.YtnhjcjnjpciifaaDoorHF
namespace Go.Proofs.YtnhjcjnjpciifaaDoor
open Go.Sh
attribute [local irreducible] rRun LDI LDB LDS LDP LDSl LDM LD Go.Sh.ST AL ALM LetW CallR CallV CallI NN IX SIX Br Req mInt mBool mStr mPtr mSlice mMap mAgg mTup mCons mNil mNth mPA LoopS
attribute [local irreducible] manifest_apply_b9 manifest_apply_b12 manifest_apply_b13
section
variable {w0 w : World} {F : List Nat} {L M : List Own} {p q z : Nat} {v : Ver} {e : EditP} {xa xd : Value} {K : Value → World → Prop}
theorem addAll_drop {cur : List Tab} {adds : List Tab} {i : Nat} {t : Tab} (h : adds[i]? = some t) : addAll cur (adds.drop i) = if addBad cur t then none else addAll (cur ++ [t]) (adds.drop (i + 1)) := by
  obtain ⟨hi, he⟩ := List.getElem?_eq_some_iff.1 h
  rw [← List.getElem_cons_drop hi, he]; rfl
set_option maxHeartbeats 8000000 in
theorem apply_b12 {ta ea : Option Addr} {tn tc en ec : Nat} {l : List Tab} (hl : l.length ≤ 500000) (he : e.add.length ≤ 400000)
    (hra : ∀ w' N, St w0 F w' (N ++ L) → Reads w' 5 (.slice ea en ec) (e.add.flatMap Tab.cells))
    (H : St w0 F w (verO p (.slice ta tn tc) v :: edO q (.slice ea en ec) xd e :: verO z (.slice none 0 0) zeroV :: tabsO (.slice ta tn tc) l :: L))
    (hno : addAll l e.add = none → ∀ w', St w0 F w' L → K (errV 1) w')
    (hyes : ∀ l' w' ta tn tc, addAll l e.add = some l' → St w0 F w' (verO p (.slice ta tn tc) v :: edO q (.slice ea en ec) xd e :: verO z (.slice none 0 0) zeroV :: tabsO (.slice ta tn tc) l' :: L) →
      manifest_apply_b9 ⟨p, 0, none⟩ ⟨q, 0, none⟩ ⟨z, 0, none⟩ K w') : manifest_apply_b12 ⟨p, 0, none⟩ ⟨q, 0, none⟩ ⟨z, 0, none⟩ K w := by
  unfold manifest_apply_b12
  have hen := tabs_len (hra w [_, _, _, _] H)
  subst hen
  refine wSl H (b := q) (j := 0) (hK := ?_)
  refine wLoop (fun k s w' => ∃ (i : Nat) (cur : List Tab) (ta : Option Addr) (tn tc : Nat), k + i = e.add.length ∧ s = (⟨p, 0, none⟩, ⟨q, 0, none⟩, ⟨z, 0, none⟩, ea, e.add.length, ec, (e.add.length : Int), (i : Int)) ∧ cur.length = l.length + i ∧
    addAll cur (e.add.drop i) = addAll l e.add ∧ St w0 F w' (verO p (.slice ta tn tc) v :: edO q (.slice ea e.add.length ec) xd e :: verO z (.slice none 0 0) zeroV :: tabsO (.slice ta tn tc) cur :: L)) ⟨e.add.length, 0, l, ta, tn, tc, by omega, rfl, rfl, rfl, H⟩ ?_
  clear H
  rintro k s w1 ⟨i, cur, ta, tn, tc, hk, rfl, hcl, hadd, H⟩
  refine br (fun h => ?_) (fun h => ?_)
  · have hi : i < e.add.length := by simp at h; omega
    obtain ⟨t, ht⟩ : ∃ t, e.add[i]? = some t := ⟨_, List.getElem?_eq_getElem hi⟩
    have hwi : IntKind.wrap .i64 ((i : Int) + 1) = ((i + 1 : Nat) : Int) := by rw [wrap_id (by omega) (by omega)]; rfl
    rw [addAll_drop ht] at hadd
    have bad : addBad cur t = true → ∀ w', St w0 F w' L → K (errV 1) w' := fun hb => hno (by rw [← hadd, hb]; rfl)
    refine tab_load (hra w1 [_, _, _, _] H) ht rfl ?_
    refine wAL H fun b w2 H => ?_
    repeat (first | refine nn ?_ | refine wI H (hK := ?_) | refine wP H (hK := ?_) | refine wM H (hK := ?_) | refine wSl H (hK := ?_) | refine wB H (hK := ?_) | refine wS H (hK := ?_) | refine wEq ?_ | refine wC H (hK := ?_) | (refine wLW H ?_; intro w1 H) | (refine wST H (hK := ?_); intro w1 H _) | refine mSlice_mk ?_ | refine mInt_mk ?_ | refine mBool_mk ?_ | refine mTup_mk ?_ | refine mCons_mk ?_ | refine mNil_mk ?_ | refine mAgg_mk ?_ | refine mPtr_mk ?_ | refine mStr_mk ?_)
    refine br (fun h1 => ?_) (fun h1 => ?_)
    · repeat (first | refine nn ?_ | refine wI H (hK := ?_) | refine wP H (hK := ?_) | refine wM H (hK := ?_) | refine wSl H (hK := ?_) | refine wB H (hK := ?_) | refine wS H (hK := ?_) | refine wEq ?_ | refine wC H (hK := ?_) | (refine wLW H ?_; intro w1 H) | (refine wST H (hK := ?_); intro w1 H _) | refine mSlice_mk ?_ | refine mInt_mk ?_ | refine mBool_mk ?_ | refine mTup_mk ?_ | refine mCons_mk ?_ | refine mNil_mk ?_ | refine mAgg_mk ?_ | refine mPtr_mk ?_ | refine mStr_mk ?_)
      exact bad (by unfold addBad; rw [h1]; simp) _ H.tail.tail.tail.tail.tail
    repeat (first | refine nn ?_ | refine wI H (hK := ?_) | refine wP H (hK := ?_) | refine wM H (hK := ?_) | refine wSl H (hK := ?_) | refine wB H (hK := ?_) | refine wS H (hK := ?_) | refine wEq ?_ | refine wC H (hK := ?_) | (refine wLW H ?_; intro w1 H) | (refine wST H (hK := ?_); intro w1 H _) | refine mSlice_mk ?_ | refine mInt_mk ?_ | refine mBool_mk ?_ | refine mTup_mk ?_ | refine mCons_mk ?_ | refine mNil_mk ?_ | refine mAgg_mk ?_ | refine mPtr_mk ?_ | refine mStr_mk ?_)
    have hr : ∀ w' N, St w0 F w' (N ++ (pt b (.cells #[.int .i64 t.file, .int .i64 t.level, .string t.first, .string t.last, .int .i64 t.size] 38) :: verO p (.slice ta tn tc) v :: edO q (.slice ea e.add.length ec) xd e :: verO z (.slice none 0 0) zeroV :: tabsO (.slice ta tn tc) cur :: L)) → Reads w' 5 (.slice ta tn tc) (cur.flatMap Tab.cells) :=
      fun w' N H => ((H.right).get (i := 4) rfl : SliceAt w' 38 5 (.slice ta tn tc) _).reads
    refine has_walk H (by omega) hr fun w3 H => mBool_mk ?_
    refine br (fun h2 => ?_) (fun h2 => ?_)
    · repeat (first | refine nn ?_ | refine wI H (hK := ?_) | refine wP H (hK := ?_) | refine wM H (hK := ?_) | refine wSl H (hK := ?_) | refine wB H (hK := ?_) | refine wS H (hK := ?_) | refine wEq ?_ | refine wC H (hK := ?_) | (refine wLW H ?_; intro w1 H) | (refine wST H (hK := ?_); intro w1 H _) | refine mSlice_mk ?_ | refine mInt_mk ?_ | refine mBool_mk ?_ | refine mTup_mk ?_ | refine mCons_mk ?_ | refine mNil_mk ?_ | refine mAgg_mk ?_ | refine mPtr_mk ?_ | refine mStr_mk ?_)
      exact bad (by unfold addBad; rw [h2]; simp) _ H.tail.tail.tail.tail.tail
    repeat (first | refine nn ?_ | refine wI H (hK := ?_) | refine wP H (hK := ?_) | refine wM H (hK := ?_) | refine wSl H (hK := ?_) | refine wB H (hK := ?_) | refine wS H (hK := ?_) | refine wEq ?_ | refine wC H (hK := ?_) | (refine wLW H ?_; intro w1 H) | (refine wST H (hK := ?_); intro w1 H _) | refine mSlice_mk ?_ | refine mInt_mk ?_ | refine mBool_mk ?_ | refine mTup_mk ?_ | refine mCons_mk ?_ | refine mNil_mk ?_ | refine mAgg_mk ?_ | refine mPtr_mk ?_ | refine mStr_mk ?_)
    refine br (fun h3 => ?_) (fun h3 => ?_)
    · repeat (first | refine nn ?_ | refine wI H (hK := ?_) | refine wP H (hK := ?_) | refine wM H (hK := ?_) | refine wSl H (hK := ?_) | refine wB H (hK := ?_) | refine wS H (hK := ?_) | refine wEq ?_ | refine wC H (hK := ?_) | (refine wLW H ?_; intro w1 H) | (refine wST H (hK := ?_); intro w1 H _) | refine mSlice_mk ?_ | refine mInt_mk ?_ | refine mBool_mk ?_ | refine mTup_mk ?_ | refine mCons_mk ?_ | refine mNil_mk ?_ | refine mAgg_mk ?_ | refine mPtr_mk ?_ | refine mStr_mk ?_)
      exact bad (by unfold addBad; rw [h3]; simp) _ H.tail.tail.tail.tail.tail
    repeat (first | refine nn ?_ | refine wI H (hK := ?_) | refine wP H (hK := ?_) | refine wM H (hK := ?_) | refine wSl H (hK := ?_) | refine wB H (hK := ?_) | refine wS H (hK := ?_) | refine wEq ?_ | refine wC H (hK := ?_) | (refine wLW H ?_; intro w1 H) | (refine wST H (hK := ?_); intro w1 H _) | refine mSlice_mk ?_ | refine mInt_mk ?_ | refine mBool_mk ?_ | refine mTup_mk ?_ | refine mCons_mk ?_ | refine mNil_mk ?_ | refine mAgg_mk ?_ | refine mPtr_mk ?_ | refine mStr_mk ?_)
    refine br (fun h4 => ?_) (fun h4 => ?_)
    · repeat (first | refine nn ?_ | refine wI H (hK := ?_) | refine wP H (hK := ?_) | refine wM H (hK := ?_) | refine wSl H (hK := ?_) | refine wB H (hK := ?_) | refine wS H (hK := ?_) | refine wEq ?_ | refine wC H (hK := ?_) | (refine wLW H ?_; intro w1 H) | (refine wST H (hK := ?_); intro w1 H _) | refine mSlice_mk ?_ | refine mInt_mk ?_ | refine mBool_mk ?_ | refine mTup_mk ?_ | refine mCons_mk ?_ | refine mNil_mk ?_ | refine mAgg_mk ?_ | refine mPtr_mk ?_ | refine mStr_mk ?_)
      exact bad (by unfold addBad; rw [h4]; simp) _ H.tail.tail.tail.tail.tail
    repeat (first | refine nn ?_ | refine wI H (hK := ?_) | refine wP H (hK := ?_) | refine wM H (hK := ?_) | refine wSl H (hK := ?_) | refine wB H (hK := ?_) | refine wS H (hK := ?_) | refine wEq ?_ | refine wC H (hK := ?_) | (refine wLW H ?_; intro w1 H) | (refine wST H (hK := ?_); intro w1 H _) | refine mSlice_mk ?_ | refine mInt_mk ?_ | refine mBool_mk ?_ | refine mTup_mk ?_ | refine mCons_mk ?_ | refine mNil_mk ?_ | refine mAgg_mk ?_ | refine mPtr_mk ?_ | refine mStr_mk ?_)
    rw [less_eq, text_eq]
    have hor : (!(decide (ltB t.first t.last) || decide (t.first = t.last))) = decide (ltB t.last t.first) := by
      by_cases h3 : ltB t.last t.first
      · have h4 : ¬ ltB t.first t.last := fun h => ltB_irrefl _ (ltB_trans h3 h)
        have h5 : t.first ≠ t.last := fun h => by rw [h] at h3; exact ltB_irrefl _ h3
        simp [h3, h4, h5]
      · by_cases h5 : t.first = t.last
        · simp [h5, ltB_irrefl]
        · have := ltB_total h3 (fun h => h5 h.symm)
          simp [h3, this]
    rw [hor]
    refine br (fun h5 => ?_) (fun h5 => ?_)
    · repeat (first | refine nn ?_ | refine wI H (hK := ?_) | refine wP H (hK := ?_) | refine wM H (hK := ?_) | refine wSl H (hK := ?_) | refine wB H (hK := ?_) | refine wS H (hK := ?_) | refine wEq ?_ | refine wC H (hK := ?_) | (refine wLW H ?_; intro w1 H) | (refine wST H (hK := ?_); intro w1 H _) | refine mSlice_mk ?_ | refine mInt_mk ?_ | refine mBool_mk ?_ | refine mTup_mk ?_ | refine mCons_mk ?_ | refine mNil_mk ?_ | refine mAgg_mk ?_ | refine mPtr_mk ?_ | refine mStr_mk ?_)
      exact bad (by unfold addBad; rw [h5]; simp) _ H.tail.tail.tail.tail.tail
    repeat (first | refine nn ?_ | refine wI H (hK := ?_) | refine wP H (hK := ?_) | refine wM H (hK := ?_) | refine wSl H (hK := ?_) | refine wB H (hK := ?_) | refine wS H (hK := ?_) | refine wEq ?_ | refine wC H (hK := ?_) | (refine wLW H ?_; intro w1 H) | (refine wST H (hK := ?_); intro w1 H _) | refine mSlice_mk ?_ | refine mInt_mk ?_ | refine mBool_mk ?_ | refine mTup_mk ?_ | refine mCons_mk ?_ | refine mNil_mk ?_ | refine mAgg_mk ?_ | refine mPtr_mk ?_ | refine mStr_mk ?_)
    refine br (fun h6 => ?_) (fun h6 => ?_)
    · repeat (first | refine nn ?_ | refine wI H (hK := ?_) | refine wP H (hK := ?_) | refine wM H (hK := ?_) | refine wSl H (hK := ?_) | refine wB H (hK := ?_) | refine wS H (hK := ?_) | refine wEq ?_ | refine wC H (hK := ?_) | (refine wLW H ?_; intro w1 H) | (refine wST H (hK := ?_); intro w1 H _) | refine mSlice_mk ?_ | refine mInt_mk ?_ | refine mBool_mk ?_ | refine mTup_mk ?_ | refine mCons_mk ?_ | refine mNil_mk ?_ | refine mAgg_mk ?_ | refine mPtr_mk ?_ | refine mStr_mk ?_)
      exact bad (by unfold addBad; rw [h6]; simp) _ H.tail.tail.tail.tail.tail
    repeat (first | refine nn ?_ | refine wI H (hK := ?_) | refine wP H (hK := ?_) | refine wM H (hK := ?_) | refine wSl H (hK := ?_) | refine wB H (hK := ?_) | refine wS H (hK := ?_) | refine wEq ?_ | refine wC H (hK := ?_) | (refine wLW H ?_; intro w1 H) | (refine wST H (hK := ?_); intro w1 H _) | refine mSlice_mk ?_ | refine mInt_mk ?_ | refine mBool_mk ?_ | refine mTup_mk ?_ | refine mCons_mk ?_ | refine mNil_mk ?_ | refine mAgg_mk ?_ | refine mPtr_mk ?_ | refine mStr_mk ?_)
    refine br (fun h7 => ?_) (fun h7 => ?_)
    · repeat (first | refine nn ?_ | refine wI H (hK := ?_) | refine wP H (hK := ?_) | refine wM H (hK := ?_) | refine wSl H (hK := ?_) | refine wB H (hK := ?_) | refine wS H (hK := ?_) | refine wEq ?_ | refine wC H (hK := ?_) | (refine wLW H ?_; intro w1 H) | (refine wST H (hK := ?_); intro w1 H _) | refine mSlice_mk ?_ | refine mInt_mk ?_ | refine mBool_mk ?_ | refine mTup_mk ?_ | refine mCons_mk ?_ | refine mNil_mk ?_ | refine mAgg_mk ?_ | refine mPtr_mk ?_ | refine mStr_mk ?_)
      exact bad (by unfold addBad; rw [h7]; simp) _ H.tail.tail.tail.tail.tail
    repeat (first | refine nn ?_ | refine wI H (hK := ?_) | refine wP H (hK := ?_) | refine wM H (hK := ?_) | refine wSl H (hK := ?_) | refine wB H (hK := ?_) | refine wS H (hK := ?_) | refine wEq ?_ | refine wC H (hK := ?_) | (refine wLW H ?_; intro w1 H) | (refine wST H (hK := ?_); intro w1 H _) | refine mSlice_mk ?_ | refine mInt_mk ?_ | refine mBool_mk ?_ | refine mTup_mk ?_ | refine mCons_mk ?_ | refine mNil_mk ?_ | refine mAgg_mk ?_ | refine mPtr_mk ?_ | refine mStr_mk ?_)
    refine br (fun h8 => ?_) (fun h8 => ?_)
    · repeat (first | refine nn ?_ | refine wI H (hK := ?_) | refine wP H (hK := ?_) | refine wM H (hK := ?_) | refine wSl H (hK := ?_) | refine wB H (hK := ?_) | refine wS H (hK := ?_) | refine wEq ?_ | refine wC H (hK := ?_) | (refine wLW H ?_; intro w1 H) | (refine wST H (hK := ?_); intro w1 H _) | refine mSlice_mk ?_ | refine mInt_mk ?_ | refine mBool_mk ?_ | refine mTup_mk ?_ | refine mCons_mk ?_ | refine mNil_mk ?_ | refine mAgg_mk ?_ | refine mPtr_mk ?_ | refine mStr_mk ?_)
      exact bad (by unfold addBad; rw [h8]; simp) _ H.tail.tail.tail.tail.tail
    have hbad : addBad cur t = false := by unfold addBad; rw [h1, h2, h3, h4, h5, h6, h7, h8]; rfl
    rw [hbad] at hadd
    repeat (first | refine nn ?_ | refine wI H (hK := ?_) | refine wP H (hK := ?_) | refine wM H (hK := ?_) | refine wSl H (hK := ?_) | refine wB H (hK := ?_) | refine wS H (hK := ?_) | refine wEq ?_ | refine wC H (hK := ?_) | (refine wLW H ?_; intro w1 H) | (refine wST H (hK := ?_); intro w1 H _) | refine mSlice_mk ?_ | refine mInt_mk ?_ | refine mBool_mk ?_ | refine mTup_mk ?_ | refine mCons_mk ?_ | refine mNil_mk ?_ | refine mAgg_mk ?_ | refine mPtr_mk ?_ | refine mStr_mk ?_)
    refine wAL H fun d w4 H => ?_
    have hsrc : Reads w4 5 (.slice (some ⟨d, 0, none⟩) 1 1) ([t].flatMap Tab.cells) := by
      refine ⟨_, _, _, rfl, rfl, Nat.le_refl _, .inr ⟨_, rfl, fun j hj => ?_⟩⟩
      rw [Addr.add_mk, Nat.zero_add, cell_blk (H.blk (i := 0) rfl)]
      simp [Tab.cells]
    obtain ⟨m, hm, hs⟩ := hsrc.src (P := Tryd.prog) (tx := 24) elem_tab.under (tcells_one [t])
    have hfl : (cur.flatMap Tab.cells).length = cur.length * 5 := flat_length tcells_len cur
    have hfl1 : ([t].flatMap Tab.cells).length = 5 := rfl
    refine append_own (t := 24) (n := m) elem_tab (i := 5) H rfl hs (by rw [hfl, hfl1]; omega) (by decide) fun v' w5 H _ _ => ?_
    obtain ⟨a', len, cap, rfl, _⟩ := (H.get (i := 5) rfl : SliceAt _ 38 5 _ _)
    refine mSlice_mk ?_
    rw [← List.flatMap_append] at H
    have H : St w0 F w5 (pt d (.cells #[.int .i64 t.file, .int .i64 t.level, .string t.first, .string t.last, .int .i64 t.size] 38) :: pt b (.cells #[.int .i64 t.file, .int .i64 t.level, .string t.first, .string t.last, .int .i64 t.size] 38) :: verO p (.slice ta tn tc) v :: edO q (.slice ea e.add.length ec) xd e :: verO z (.slice none 0 0) zeroV :: tabsO (.slice a' len cap) (cur ++ [t]) :: L) := H
    have H := H.tail.tail
    repeat (first | refine nn ?_ | refine wI H (hK := ?_) | refine wP H (hK := ?_) | refine wM H (hK := ?_) | refine wSl H (hK := ?_) | refine wB H (hK := ?_) | refine wS H (hK := ?_) | refine wEq ?_ | refine wC H (hK := ?_) | (refine wLW H ?_; intro w1 H) | (refine wST H (hK := ?_); intro w1 H _) | refine mSlice_mk ?_ | refine mInt_mk ?_ | refine mBool_mk ?_ | refine mTup_mk ?_ | refine mCons_mk ?_ | refine mNil_mk ?_ | refine mAgg_mk ?_ | refine mPtr_mk ?_ | refine mStr_mk ?_)
    exact ⟨k - 1, by omega, i + 1, cur ++ [t], a', len, cap, by omega, by rw [hwi], by simp; omega, by rw [← hadd]; rfl, H⟩
  · have hi : i = e.add.length := by simp at h; omega
    subst hi
    rw [List.drop_length] at hadd
    exact hyes cur w1 ta tn tc hadd.symm H

theorem apply_b13 {va ea da : Option Addr} {vn vc en ec dn dc : Nat} (hl : v.l.length ≤ 500000) (hdl : e.drop.length ≤ 400000)
    (hrv : ∀ w' N, St w0 F w' (N ++ L) → Reads w' 5 (.slice va vn vc) (v.l.flatMap Tab.cells))
    (hrd : ∀ w' N, St w0 F w' (N ++ L) → Reads w' 1 (.slice da dn dc) (ints e.drop))
    (H : St w0 F w (verO p (.slice va vn vc) v :: edO q (.slice ea en ec) (.slice da dn dc) e :: verO z (.slice none 0 0) zeroV :: L))
    (hK : ∀ w' ta tn tc, St w0 F w' (verO p (.slice ta tn tc) v :: edO q (.slice ea en ec) (.slice da dn dc) e :: verO z (.slice none 0 0) zeroV :: tabsO (.slice ta tn tc) (kept v.l e.drop) :: L) →
      manifest_apply_b12 ⟨p, 0, none⟩ ⟨q, 0, none⟩ ⟨z, 0, none⟩ K w') : manifest_apply_b13 ⟨p, 0, none⟩ ⟨q, 0, none⟩ ⟨z, 0, none⟩ K w := by
  unfold manifest_apply_b13
  refine wSl H (b := p) (j := 0) (hK := ?_)
  refine CloneT_walk H (fun w' H => hrv w' [_, _, _] H) (by omega) fun w1 a' c' H => mSlice_mk ?_
  refine DeleteT_walk (p := fun t => e.drop.contains t.file) H (by omega) ?_ fun w2 n' H => mSlice_mk ?_
  · intro t w' N K H hK
    refine wCallV (by kernel_rfl) (manifest_apply_1_sound _ _ _ _ _ ⟨q, 0, none⟩ _ _ ?_)
    refine wAL H fun q2 w2 H => ?_
    have H : St w0 F w2 (pt q2 (.cells #[.int .i64 t.file, .int .i64 t.level, .string t.first, .string t.last, .int .i64 t.size] 38) :: (N ++ (verO p (.slice va vn vc) v :: edO q (.slice ea en ec) (.slice da dn dc) e :: verO z (.slice none 0 0) zeroV :: L))) := H
    have hm : List.Mem (pt q (.cells #[.slice ea en ec, .slice da dn dc, .int .u64 e.seq, .int .i64 e.nxt, .int .i64 e.wal] 31)) (pt q2 (.cells #[.int .i64 t.file, .int .i64 t.level, .string t.first, .string t.last, .int .i64 t.size] 38) :: (N ++ (verO p (.slice va vn vc) v :: edO q (.slice ea en ec) (.slice da dn dc) e :: verO z (.slice none 0 0) zeroV :: L))) :=
      List.mem_cons_of_mem _ (List.mem_append_right _ (List.mem_cons_of_mem _ (List.mem_cons_self ..)))
    refine wSl H (b := q) (j := 1) (hu := hm) (hK := ?_)
    refine wI H (b := q2) (j := 0) (hK := ?_)
    have hrr : Reads w2 1 (.slice da dn dc) (ints e.drop) := hrd w2 (pt q2 (.cells #[.int .i64 t.file, .int .i64 t.level, .string t.first, .string t.last, .int .i64 t.size] 38) :: (N ++ [verO p (.slice va vn vc) v, edO q (.slice ea en ec) (.slice da dn dc) e, verO z (.slice none 0 0) zeroV])) (by simpa using H)
    refine ContainsI_walk (by omega) hrr (mBool_mk ?_)
    exact hK _ H.tail
  · have H := H.front (verO p (.slice va vn vc) v)
    repeat (first | refine nn ?_ | refine wI H (hK := ?_) | refine wP H (hK := ?_) | refine wM H (hK := ?_) | refine wSl H (hK := ?_) | refine wB H (hK := ?_) | refine wS H (hK := ?_) | refine wEq ?_ | refine wC H (hK := ?_) | (refine wLW H ?_; intro w1 H) | (refine wST H (hK := ?_); intro w1 H _) | refine mSlice_mk ?_ | refine mInt_mk ?_ | refine mBool_mk ?_ | refine mTup_mk ?_ | refine mCons_mk ?_ | refine mNil_mk ?_ | refine mAgg_mk ?_ | refine mPtr_mk ?_ | refine mStr_mk ?_)
    have H : St w0 F w1 (verO p (.slice a' n' c') v :: tabsO (.slice a' n' c') (kept v.l e.drop) :: edO q (.slice ea en ec) (.slice da dn dc) e :: verO z (.slice none 0 0) zeroV :: L) := H
    exact hK _ _ _ _ (((H.front (verO z (.slice none 0 0) zeroV)).front (edO q (.slice ea en ec) (.slice da dn dc) e)).front (verO p (.slice a' n' c') v))

theorem dropBad_drop {l : List Tab} {ds : List Int} {i : Nat} {x : Int} (h : ds[i]? = some x) : dropBad l (ds.take i) (ds.drop i) = (!hasF l x || (ds.take i).contains x || dropBad l (ds.take (i + 1)) (ds.drop (i + 1))) := by
  obtain ⟨hi, he⟩ := List.getElem?_eq_some_iff.1 h
  rw [← List.getElem_cons_drop hi, he, ← List.take_append_getElem hi, he]; rfl

set_option maxHeartbeats 4000000 in
theorem apply_b16 {va ea da : Option Addr} {vn vc en ec dn dc : Nat} (hl : v.l.length ≤ 500000) (hdl : e.drop.length ≤ 400000)
    (hrv : ∀ w' N, St w0 F w' (N ++ L) → Reads w' 5 (.slice va vn vc) (v.l.flatMap Tab.cells))
    (hrd : ∀ w' N, St w0 F w' (N ++ L) → Reads w' 1 (.slice da dn dc) (ints e.drop))
    (H : St w0 F w (verO p (.slice va vn vc) v :: edO q (.slice ea en ec) (.slice da dn dc) e :: verO z (.slice none 0 0) zeroV :: L))
    (hno : dropBad v.l [] e.drop = true → ∀ w', St w0 F w' L → K (errV 4) w')
    (hK : dropBad v.l [] e.drop = false → ∀ w', St w0 F w' (verO p (.slice va vn vc) v :: edO q (.slice ea en ec) (.slice da dn dc) e :: verO z (.slice none 0 0) zeroV :: L) →
      manifest_apply_b13 ⟨p, 0, none⟩ ⟨q, 0, none⟩ ⟨z, 0, none⟩ K w') : manifest_apply_b16 ⟨p, 0, none⟩ ⟨q, 0, none⟩ ⟨z, 0, none⟩ K w := by
  have hdn : dn = e.drop.length := by have := (hrd w [_, _, _] H).len; simpa [ints] using this
  subst hdn
  refine wSl H (b := q) (j := 1) (hK := ?_)
  refine wLoop (fun k s w' => ∃ i : Nat, k + i = e.drop.length ∧ s = (⟨p, 0, none⟩, ⟨q, 0, none⟩, ⟨z, 0, none⟩, da, e.drop.length, dc, (e.drop.length : Int), (i : Int)) ∧ dropBad v.l (e.drop.take i) (e.drop.drop i) = dropBad v.l [] e.drop ∧
    St w0 F w' (verO p (.slice va vn vc) v :: edO q (.slice ea en ec) (.slice da e.drop.length dc) e :: verO z (.slice none 0 0) zeroV :: L)) ⟨e.drop.length, 0, by omega, rfl, rfl, H⟩ ?_
  clear H
  rintro k s w1 ⟨i, hk, rfl, hbad, H⟩
  refine br (fun h => ?_) (fun h => ?_)
  · have hi : i < e.drop.length := by simp at h; omega
    obtain ⟨x, hx⟩ : ∃ x, e.drop[i]? = some x := ⟨_, List.getElem?_eq_getElem hi⟩
    have hwi : IntKind.wrap .i64 ((i : Int) + 1) = ((i + 1 : Nat) : Int) := by rw [wrap_id (by omega) (by omega)]; rfl
    rw [dropBad_drop hx] at hbad
    have hrr := hrd w1 [_, _, _] H
    refine wIXr hrr (i := i) (by simpa [ints] using hi) rfl fun ad had => ldI (had.trans (show (ints e.drop)[i]? = some (.int .i64 x) by simp [ints, hx])) ?_
    refine wSl H (b := p) (j := 0) (hK := ?_)
    refine has_walk H (by omega) (fun w' N H => hrv w' (N ++ [_, _, _]) (by simpa using H)) fun w2 H => mBool_mk ?_
    refine br (fun h1 => ?_) (fun h1 => ?_)
    · repeat (first | refine nn ?_ | refine wI H (hK := ?_) | refine wP H (hK := ?_) | refine wM H (hK := ?_) | refine wSl H (hK := ?_) | refine wB H (hK := ?_) | refine wS H (hK := ?_) | refine wEq ?_ | refine wC H (hK := ?_) | (refine wLW H ?_; intro w1 H) | (refine wST H (hK := ?_); intro w1 H _) | refine mSlice_mk ?_ | refine mInt_mk ?_ | refine mBool_mk ?_ | refine mTup_mk ?_ | refine mCons_mk ?_ | refine mNil_mk ?_ | refine mAgg_mk ?_ | refine mPtr_mk ?_ | refine mStr_mk ?_)
      exact hno (by rw [← hbad, h1]; rfl) _ H.tail.tail.tail
    refine wSl H (b := q) (j := 1) (hK := ?_)
    have hcap : e.drop.length ≤ dc := by
      obtain ⟨_, _, _, he, _, h2, _⟩ := hrd w2 [_, _, _] H
      cases he
      exact h2
    refine rRun_intro (sliceAt_run (P := Tryd.prog) (t := 29) (E := 3) (sz := 1) (bytes := 8) (elemTy_of (by kernel_rfl) (by kernel_rfl)) (a := da) (len := e.drop.length) (cap := dc) (l := 0) (h := i) (m := dc) (lo := none) (hi := some (.int .i64 (i : Int))) (mx := none) rfl ⟨rfl, by omega⟩ (fun h => by cases h) rfl) (mSlice_mk ?_)
    have r := (hrd w2 [_, _, _] H).sub (l := 0) (h := i) (m := dc) (Nat.zero_le _) (by omega) (by omega)
    have e1 : ((ints e.drop).drop (0 * 1)).take ((i - 0) * 1) = ints (e.drop.take i) := by simp [ints]
    rw [e1] at r
    refine ContainsI_walk (l := e.drop.take i) (by rw [List.length_take]; omega) r (mBool_mk ?_)
    refine br (fun h2 => ?_) (fun h2 => ?_)
    · repeat (first | refine nn ?_ | refine wI H (hK := ?_) | refine wP H (hK := ?_) | refine wM H (hK := ?_) | refine wSl H (hK := ?_) | refine wB H (hK := ?_) | refine wS H (hK := ?_) | refine wEq ?_ | refine wC H (hK := ?_) | (refine wLW H ?_; intro w1 H) | (refine wST H (hK := ?_); intro w1 H _) | refine mSlice_mk ?_ | refine mInt_mk ?_ | refine mBool_mk ?_ | refine mTup_mk ?_ | refine mCons_mk ?_ | refine mNil_mk ?_ | refine mAgg_mk ?_ | refine mPtr_mk ?_ | refine mStr_mk ?_)
      exact hno (by rw [← hbad, h2]; simp) _ H.tail.tail.tail
    rw [h1, h2] at hbad
    exact ⟨k - 1, by omega, i + 1, by omega, by rw [hwi], by rw [← hbad]; rfl, H⟩
  · have hi : i = e.drop.length := by simp at h; omega
    subst hi
    rw [List.drop_length] at hbad
    exact hK (by rw [← hbad]; rfl) w1 H

/-- What an edit makes of a version. -/
theorem apply_walk {va ea da : Option Addr} {vn vc en ec dn dc : Nat} (hv : OkV v) (hl : v.l.length ≤ 300000) (hal : e.add.length ≤ 300000) (hdl : e.drop.length ≤ 300000)
    (hrv : ∀ w' N, St w0 F w' (N ++ L) → Reads w' 5 (.slice va vn vc) (v.l.flatMap Tab.cells))
    (hra : ∀ w' N, St w0 F w' (N ++ L) → Reads w' 5 (.slice ea en ec) (e.add.flatMap Tab.cells))
    (hrd : ∀ w' N, St w0 F w' (N ++ L) → Reads w' 1 (.slice da dn dc) (ints e.drop))
    (H : St w0 F w L)
    (hno : (applyP v e).2 ≠ 0 → ∀ w', St w0 F w' L → K (errV (applyP v e).2) w')
    (hK : (applyP v e).2 = 0 → ∀ w' ta tn tc, St w0 F w' (tabsO (.slice ta tn tc) (applyP v e).1.l :: L) → K (okV (.slice ta tn tc) (applyP v e).1.seq (applyP v e).1.nxt (applyP v e).1.wal) w') :
    CallR Tryd.prog fn_manifest_apply #[.agg #[.slice va vn vc, .int .u64 v.seq, .int .i64 v.nxt, .int .i64 v.wal], .agg #[.slice ea en ec, .slice da dn dc, .int .u64 e.seq, .int .i64 e.nxt, .int .i64 e.wal]] w K := by
  refine manifest_apply_sound _ _ _ _ _ _ _ _ _ _ _ _ _ _ _ _ _ ?_
  refine wAL H fun p w1 H => wAL H fun q w2 H => wAL H fun z w3 H => ?_
  have H : St w0 F w3 (verO z (.slice none 0 0) zeroV :: edO q (.slice ea en ec) (.slice da dn dc) e :: verO p (.slice va vn vc) v :: L) := H
  have H := (H.front (edO q (.slice ea en ec) (.slice da dn dc) e)).front (verO p (.slice va vn vc) v)
  unfold applyP at hno hK
  refine apply_b16 (by omega) (by omega) hrv hrd H (fun hb w' H => ?_) fun hb w' H => ?_
  · rw [if_pos hb] at hno
    exact hno (by decide) w' H
  rw [if_neg (by rw [hb]; decide)] at hno hK
  refine apply_b13 (by omega) (by omega) hrv hrd H fun w' ta tn tc H => ?_
  have hkl : (kept v.l e.drop).length ≤ v.l.length := List.length_filter_le _ _
  refine apply_b12 (by omega) (by omega) hra H (fun hn w' H => ?_) fun l' w' ta tn tc hs H => ?_
  · rw [hn] at hno
    exact hno (show (1 : Int) ≠ 0 by decide) w' H
  obtain ⟨hnd, hll⟩ := addAll_nodup (kept_nodup hv.files) hs
  rw [hs] at hno hK
  simp only at hno hK
  refine apply_b9 hnd (by omega) H (fun code w' hc hc0 H => ?_) fun h1 h2 h3 w' ta tn tc H => ?_
  · by_cases c1 : (sortT l').length > 65536
    · rw [if_pos c1] at hc hno
      subst hc
      exact hno (by decide) w' H
    rw [if_neg c1] at hc hno
    by_cases c2 : sharedP (sortT l') = true
    · rw [if_pos c2] at hc hno
      subst hc
      exact hno (by decide) w' H
    rw [if_neg c2] at hc hno
    by_cases c3 : numsBad v e = true
    · rw [if_pos c3] at hc hno
      subst hc
      exact hno (by decide) w' H
    rw [if_neg c3] at hc
    exact absurd hc hc0
  · rw [if_neg (by omega), if_neg (by rw [h2]; decide), if_neg (by rw [h3]; decide)] at hK
    exact hK rfl w' _ _ _ H
end
end Go.Proofs.YtnhjcjnjpciifaaDoor
