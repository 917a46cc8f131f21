/- apply: all of it. -/
import Derived.Test.YtnhjcjnjpciifaaDoorHE
namespace Go.Proofs.YtnhjcjnjpciifaaDoor
open Go.Sh
attribute [local irreducible] rRun LDI LDB LDS LDP LDSl LDM LD Go.Sh.ST AL ALM LetW CallR CallV CallI NN IX SIX Br Req mInt mBool mStr mPtr mSlice mMap mAgg mTup mCons mNil mNth mPA LoopS
theorem sharedP_iff : ∀ {l : List Tab}, sharedP l = true ↔ ∃ (i : Nat) (x y : Tab), l[i]? = some x ∧ l[i + 1]? = some y ∧ shareB x y = true
  | [] => by simp [sharedP]
  | [x] => by simp [sharedP]
  | x :: y :: t => by
    unfold sharedP
    rw [Bool.or_eq_true, sharedP_iff (l := y :: t)]
    constructor
    · rintro (h | ⟨i, a, b, h1, h2, h3⟩)
      · exact ⟨0, x, y, rfl, rfl, h⟩
      · exact ⟨i + 1, a, b, h1, h2, h3⟩
    · rintro ⟨i, a, b, h1, h2, h3⟩
      cases i with
      | zero => simp at h1 h2; subst h1 h2; exact .inl h3
      | succ i => exact .inr ⟨i, a, b, h1, h2, h3⟩
section
variable {w0 w : World} {F : List Nat} {L M : List Own} {p q z : Nat} {v : Ver} {e : EditP} {xa xd : Value} {K : Value → World → Prop}
theorem shared_walk {a : Option Addr} {n c : Nat} {l : List Tab} (H : St w0 F w L) (hl : l.length ≤ 1000000) (hr : ∀ w', St w0 F w' L → Reads w' 5 (.slice a n c) (l.flatMap Tab.cells))
    (hK : ∀ w', St w0 F w' L → K (.bool (sharedP l)) w') : CallR Tryd.prog fn_manifest_shared #[.slice a n c] w K := by
  have hn := tabs_len (hr w H)
  subst hn
  refine manifest_shared_sound _ _ _ _ _ ?_
  refine wLoop (fun k s w' => ∃ i : Nat, k + i = l.length + 1 ∧ s = (a, l.length, c, ((i : Nat) : Int)) ∧ 1 ≤ i ∧ (∀ j x y, j + 1 < i → l[j]? = some x → l[j + 1]? = some y → shareB x y = false) ∧ St w0 F w' L) ⟨l.length, 1, by omega, rfl, by omega, fun j x y h => by omega, H⟩ ?_
  clear H
  rintro k s w1 ⟨i, hk, rfl, hi1, hz, H⟩
  refine br (fun h => ?_) (fun h => ?_)
  · have hi : i < l.length := by simp at h; omega
    obtain ⟨y, hy⟩ : ∃ y, l[i]? = some y := ⟨_, List.getElem?_eq_getElem hi⟩
    obtain ⟨x, hx⟩ : ∃ x, l[i - 1]? = some x := ⟨_, List.getElem?_eq_getElem (by omega)⟩
    have hwi : IntKind.wrap .i64 ((i : Int) + 1) = ((i + 1 : Nat) : Int) := by rw [wrap_id (by omega) (by omega)]; rfl
    have hwm : IntKind.wrap .i64 ((i : Int) - 1) = ((i - 1 : Nat) : Int) := by rw [wrap_id (by omega) (by omega)]; omega
    refine wLW H ?_
    intro w2 H
    have hrr := hr w2 H
    have next : shareB x y = false → ∃ k', k' < k ∧ ∃ i' : Nat, k' + i' = l.length + 1 ∧ (a, l.length, c, IntKind.wrap .i64 ((i : Int) + 1)) = (a, l.length, c, ((i' : Nat) : Int)) ∧ 1 ≤ i' ∧ (∀ j x y, j + 1 < i' → l[j]? = some x → l[j + 1]? = some y → shareB x y = false) ∧ St w0 F w2 L := by
      intro hs
      refine ⟨k - 1, by omega, i + 1, by omega, by rw [hwi], by omega, fun j x' y' hj h1 h2 => ?_, H⟩
      by_cases hji : j + 1 = i
      · have e1 : j = i - 1 := by omega
        rw [hji, hy] at h2
        rw [e1, hx] at h1
        cases h1; cases h2; exact hs
      · exact hz j x' y' (by omega) h1 h2
    refine wIXt hrr hy rfl fun a1 c1 => ldI (c1 1 _ rfl) ?_
    refine br (fun h1 => ?_) (fun h1 => next (by unfold shareB; simp only [h1, Bool.false_and]))
    refine wIXt hrr hy rfl fun a1 c1 => ldI (c1 1 _ rfl) ?_
    refine wIXt hrr hx hwm fun a1 c1 => ldI (c1 1 _ rfl) ?_
    refine br (fun h2 => ?_) (fun h2 => next (by unfold shareB; rw [h2]; simp))
    refine wIXt hrr hy rfl fun a1 c1 => ldS (c1 2 _ rfl) ?_
    refine wIXt hrr hx hwm fun a1 c1 => ldS (c1 3 _ rfl) ?_
    rw [less_eq, text_eq]
    have hor : (decide (ltB y.first x.last) || decide (y.first = x.last)) = !decide (ltB x.last y.first) := by
      by_cases h3 : ltB x.last y.first
      · have h4 : ¬ ltB y.first x.last := fun h => ltB_irrefl _ (ltB_trans h3 h)
        have h5 : y.first ≠ x.last := fun h => by rw [h] at h3; exact ltB_irrefl _ h3
        simp [h3, h4, h5]
      · by_cases h5 : y.first = x.last
        · simp [h5, ltB_irrefl]
        · have := ltB_total h3 (fun h => h5 h.symm)
          simp [h3, this]
    rw [hor]
    refine br (fun h3 => ?_) (fun h3 => next (by unfold shareB; rw [h3]; simp))
    have hsh : sharedP l = true := sharedP_iff.2 ⟨i - 1, x, y, hx, by rw [Nat.sub_add_cancel hi1]; exact hy, by unfold shareB; rw [h3, h2, h1]; rfl⟩
    have := hK _ H
    rw [hsh] at this; exact this
  · have hi : l.length ≤ i := by simp at h; omega
    have hsh : sharedP l = false := by
      rw [Bool.eq_false_iff]
      intro hc
      obtain ⟨j, x, y, h1, h2, h3⟩ := sharedP_iff.1 hc
      have := (List.getElem?_eq_some_iff.1 h2).1
      rw [hz j x y (by omega) h1 h2] at h3; cases h3
    have := hK _ H
    rw [hsh] at this; exact this

/-- Behind the sort. -/
theorem apply_b9 {ta : Option Addr} {tn tc : Nat} {l : List Tab} (hf : (filesOf l).Nodup) (hl : l.length ≤ 1000000)
    (H : St w0 F w (verO p (.slice ta tn tc) v :: edO q xa xd e :: verO z (.slice none 0 0) zeroV :: tabsO (.slice ta tn tc) l :: L))
    (hN : ∀ (code : Int) w', (code = if (sortT l).length > 65536 then 1 else if sharedP (sortT l) then 15 else if numsBad v e then 1 else 0) → code ≠ 0 → St w0 F w' L → K (errV code) w')
    (hK : (sortT l).length ≤ 65536 → sharedP (sortT l) = false → numsBad v e = false → ∀ w' ta tn tc, St w0 F w' (tabsO (.slice ta tn tc) (sortT l) :: L) → K (okV (.slice ta tn tc) (or2 e.seq v.seq) (or2 e.nxt v.nxt) (or2 e.wal v.wal)) w') :
    manifest_apply_b9 ⟨p, 0, none⟩ ⟨q, 0, none⟩ ⟨z, 0, none⟩ K w := by
  refine wSl H (b := p) (j := 0) (hK := ?_)
  have hn := tabs_len (H.get (i := 3) rfl : SliceAt w 38 5 (.slice ta tn tc) _).reads
  subst hn
  have rest : ∀ w', St w0 F w' (verO p (.slice ta l.length tc) v :: edO q xa xd e :: verO z (.slice none 0 0) zeroV :: tabsO (.slice ta l.length tc) (sortT l) :: L) →
      manifest_apply_b8 ⟨p, 0, none⟩ ⟨q, 0, none⟩ ⟨z, 0, none⟩ K w' := by
    intro w1 H
    have hsl : (sortT l).length = l.length := (sortT_perm l).length_eq
    refine wSl H (b := p) (j := 0) (hK := ?_)
    refine br (fun h => ?_) (fun h => ?_)
    · have h1 : (sortT l).length > 65536 := by simp at h; omega
      unfold manifest_apply_b0
      repeat (first | refine nn ?_ | refine wI H (hK := ?_) | refine wP H (hK := ?_) | refine wM H (hK := ?_) | refine wSl H (hK := ?_) | refine wB H (hK := ?_) | refine wS H (hK := ?_) | refine wEq ?_ | refine wC H (hK := ?_) | (refine wLW H ?_; intro w1 H) | (refine wST H (hK := ?_); intro w1 H _) | refine mSlice_mk ?_ | refine mInt_mk ?_ | refine mBool_mk ?_ | refine mTup_mk ?_ | refine mCons_mk ?_ | refine mNil_mk ?_ | refine mAgg_mk ?_ | refine mPtr_mk ?_ | refine mStr_mk ?_)
      exact hN 1 _ (by rw [if_pos h1]) (by decide) H.tail.tail.tail.tail
    have h1 : ¬ (sortT l).length > 65536 := by simp at h; omega
    refine wSl H (b := p) (j := 0) (hK := ?_)
    refine shared_walk H (by omega) (fun w' H => (H.get (i := 3) rfl : SliceAt w' 38 5 (.slice ta l.length tc) _).reads) fun w2 H => mBool_mk ?_
    refine br (fun h2 => ?_) (fun h2 => ?_)
    · unfold manifest_apply_b1
      repeat (first | refine nn ?_ | refine wI H (hK := ?_) | refine wP H (hK := ?_) | refine wM H (hK := ?_) | refine wSl H (hK := ?_) | refine wB H (hK := ?_) | refine wS H (hK := ?_) | refine wEq ?_ | refine wC H (hK := ?_) | (refine wLW H ?_; intro w1 H) | (refine wST H (hK := ?_); intro w1 H _) | refine mSlice_mk ?_ | refine mInt_mk ?_ | refine mBool_mk ?_ | refine mTup_mk ?_ | refine mCons_mk ?_ | refine mNil_mk ?_ | refine mAgg_mk ?_ | refine mPtr_mk ?_ | refine mStr_mk ?_)
      exact hN 15 _ (by rw [if_neg h1, if_pos h2]) (by decide) H.tail.tail.tail.tail
    refine apply_b4 H fun b hb => ?_
    refine br (fun h3 => ?_) (fun h3 => ?_)
    · repeat (first | refine nn ?_ | refine wI H (hK := ?_) | refine wP H (hK := ?_) | refine wM H (hK := ?_) | refine wSl H (hK := ?_) | refine wB H (hK := ?_) | refine wS H (hK := ?_) | refine wEq ?_ | refine wC H (hK := ?_) | (refine wLW H ?_; intro w1 H) | (refine wST H (hK := ?_); intro w1 H _) | refine mSlice_mk ?_ | refine mInt_mk ?_ | refine mBool_mk ?_ | refine mTup_mk ?_ | refine mCons_mk ?_ | refine mNil_mk ?_ | refine mAgg_mk ?_ | refine mPtr_mk ?_ | refine mStr_mk ?_)
      exact hN 1 _ (by rw [if_neg h1, if_neg (by rw [h2]; decide), if_pos (by rw [← hb]; exact h3)]) (by decide) H.tail.tail.tail.tail
    · exact apply_b2 H fun w' H => hK (by omega) h2 (by rw [← hb]; exact h3) w' _ _ _ H
  by_cases hne : l = []
  · subst hne
    refine sortF_nothing (mTup_mk (mNil_mk (rest w H)))
  · have H := H.front (tabsO (.slice ta l.length tc) l)
    refine sort_ownK (k := 5) (enc := Tab.cells) (srt := srtT) tcells_len (by decide) sort_tabs (fun s d h => h.1.length_eq) H hne (by omega) fun w2 d hd H _ => mTup_mk (mNil_mk ?_)
    have hd2 : d = sortT l := sorted_is hd.1 hd.2 hf
    subst hd2
    exact rest w2 (((H.front (verO z (.slice none 0 0) zeroV)).front (edO q xa xd e)).front (verO p (.slice ta l.length tc) v))
end
end Go.Proofs.YtnhjcjnjpciifaaDoor
