/- out, Deliver, Drop, Double. -/
import Derived.Test.YtienifnpacoahaaHD
namespace Go.Proofs.Ytienifnpacoahaa
open Go.Sh
attribute [local irreducible] rRun LDI LDB LDS LDP LDSl LDM LD Go.Sh.ST AL ALM LetW CallR CallV CallI NN IX SIX Br Req mInt mBool mStr mPtr mSlice mMap mAgg mTup mCons mNil mNth mPA LoopS

section
variable {w0 w : World} {F : List Nat} {L R : List Own}
/-- The bags behind a message's taking out. -/
def outB (l : Bags) (k : Int × Int) (i : Nat) (v : Value) : Bags := if (row l k).2.eraseIdx i = [] then adel l k else aput l k (v, (row l k).2.eraseIdx i)

theorem out_spec {nb bm : Nat} {nd bd now f t : Int} {l : Bags} {i : Nat} (hA : Has w [netO nb bm nd bd now l]) (hi : i < (row l (f, t)).2.length) (hn : (row l (f, t)).2.length ≤ 65536) :
    CallS Try.prog fn_net_Net_out #[.pointer (some ⟨nb, 0, none⟩), .agg #[.int .i64 f, .int .i64 t], .int .i64 i] w [netO nb bm nd bd now l] fun r _ A =>
      ∃ m v, (row l (f, t)).2[i]? = some m ∧ r = m.1 ∧ A = [netO nb bm nd bd now (outB l (f, t) i v), msgO m] := by
  obtain ⟨m, hm⟩ : ∃ m, (row l (f, t)).2[i]? = some m := ⟨_, List.getElem?_eq_getElem hi⟩
  refine CallS_intro hA fun H => net_Net_out_sound _ _ _ _ _ _ ?_
  refine wAL H.netOpen fun p w1 H => ?_
  repeat (first | refine nn ?_ | refine wI H (hK := ?_) | refine wP H (hK := ?_) | refine wM H (hK := ?_) | refine wSl H (hK := ?_) | refine wB H (hK := ?_) | refine wS H (hK := ?_) | refine wEq ?_ | refine wC H (hK := ?_) | (refine wLW H ?_; intro w1 H) | (refine wST H (hK := ?_); intro w1 H _) | refine mSlice_mk ?_ | refine mInt_mk ?_ | refine mBool_mk ?_ | refine mTup_mk ?_ | refine mCons_mk ?_ | refine mNil_mk ?_ | refine mAgg_mk ?_ | refine mPtr_mk ?_ | refine mStr_mk ?_)
  refine wLookup H (hK := fun a n c h1 h2 h3 => ?_)
  repeat (first | refine nn ?_ | refine wI H (hK := ?_) | refine wP H (hK := ?_) | refine wM H (hK := ?_) | refine wSl H (hK := ?_) | refine wB H (hK := ?_) | refine wS H (hK := ?_) | refine wEq ?_ | refine wC H (hK := ?_) | (refine wLW H ?_; intro w1 H) | (refine wST H (hK := ?_); intro w1 H _) | refine mSlice_mk ?_ | refine mInt_mk ?_ | refine mBool_mk ?_ | refine mTup_mk ?_ | refine mCons_mk ?_ | refine mNil_mk ?_ | refine mAgg_mk ?_ | refine mPtr_mk ?_ | refine mStr_mk ?_)
  have hrow := row_at H (l := l) (by simp) (f, t)
  have hones := heads_one H (l := l) (by simp) (f, t)
  have hs := hrow.1
  obtain ⟨ma, mn, mc, hmv, _⟩ := slice_of (hrow.2 m (List.mem_of_getElem? hm))
  rw [h1] at hs
  have hcell : ((row l (f, t)).2.map (·.1))[i]? = some (.slice ma mn mc) := by rw [List.getElem?_map, hm, ← hmv]; rfl
  refine wIX hs (i := i) (by simpa using hi) rfl fun ad had => ?_
  rw [hcell] at had
  refine ldSl had ?_
  repeat (first | refine nn ?_ | refine wI H (hK := ?_) | refine wP H (hK := ?_) | refine wM H (hK := ?_) | refine wSl H (hK := ?_) | refine wB H (hK := ?_) | refine wS H (hK := ?_) | refine wEq ?_ | refine wC H (hK := ?_) | (refine wLW H ?_; intro w1 H) | (refine wST H (hK := ?_); intro w1 H _) | refine mSlice_mk ?_ | refine mInt_mk ?_ | refine mBool_mk ?_ | refine mTup_mk ?_ | refine mCons_mk ?_ | refine mNil_mk ?_ | refine mAgg_mk ?_ | refine mPtr_mk ?_ | refine mStr_mk ?_)
  refine wLookup H (hK := fun a' n' c' h1' h2' h3' => ?_)
  repeat (first | refine nn ?_ | refine wI H (hK := ?_) | refine wP H (hK := ?_) | refine wM H (hK := ?_) | refine wSl H (hK := ?_) | refine wB H (hK := ?_) | refine wS H (hK := ?_) | refine wEq ?_ | refine wC H (hK := ?_) | (refine wLW H ?_; intro w1 H) | (refine wST H (hK := ?_); intro w1 H _) | refine mSlice_mk ?_ | refine mInt_mk ?_ | refine mBool_mk ?_ | refine mTup_mk ?_ | refine mCons_mk ?_ | refine mNil_mk ?_ | refine mAgg_mk ?_ | refine mPtr_mk ?_ | refine mStr_mk ?_)
  rw [h1'] at h1
  cases h1
  have hw : IntKind.wrap .i64 ((i : Int) + 1) = (i : Int) + 1 := wrap_id (by omega) (by omega)
  rw [hw]
  have H := row_out (H.front (bagsO l)) (f, t)
  rw [h1'] at H
  refine wCall H (fun hA => Delete_spec (by simpa using hi) (by simp; omega) hA hones) (hK := ?_)
  rintro v w1 A' ⟨rfl, a2, n2, c2, rfl⟩ _ H
  repeat (first | refine nn ?_ | refine wI H (hK := ?_) | refine wP H (hK := ?_) | refine wM H (hK := ?_) | refine wSl H (hK := ?_) | refine wB H (hK := ?_) | refine wS H (hK := ?_) | refine wEq ?_ | refine wC H (hK := ?_) | (refine wLW H ?_; intro w1 H) | (refine wST H (hK := ?_); intro w1 H _) | refine mSlice_mk ?_ | refine mInt_mk ?_ | refine mBool_mk ?_ | refine mTup_mk ?_ | refine mCons_mk ?_ | refine mNil_mk ?_ | refine mAgg_mk ?_ | refine mPtr_mk ?_ | refine mStr_mk ?_)
  refine mapUpdate_own map_pair (i := 5) H rfl (f, t) _ fun w1 H _ => ?_
  rw [aput_map (fun r : Row => r.1) l (f, t) (.slice a2 n2 c2, (row l (f, t)).2.eraseIdx i)] at H
  have H := H.front (starO ((row l (f, t)).2.map msgO))
  have H := H.out (x := msgO m) (N := ((row l (f, t)).2.eraseIdx i).map msgO) (by
    rw [← map_eraseIdx']
    exact perm_front (by rw [List.getElem?_map, hm]; rfl))
  have H := H.front (sliceO 22 1 (.slice a2 n2 c2) (((row l (f, t)).2.map (·.1)).eraseIdx i))
  have H := H.front (msgO m)
  rw [map_eraseIdx'] at H
  have H := ((H.front (bagsO (adel l (f, t)))).front (starO (((row l (f, t)).2.eraseIdx i).map msgO))).front (sliceO 22 1 (.slice a2 n2 c2) (((row l (f, t)).2.eraseIdx i).map (·.1)))
  have H := row_in (v := .slice a2 n2 c2) (ms := (row l (f, t)).2.eraseIdx i) (k := (f, t)) H
  have H := H.front (bagsM bm (aput l (f, t) (.slice a2 n2 c2, (row l (f, t)).2.eraseIdx i)))
  have hr1 : row (aput l (f, t) (.slice a2 n2 c2, (row l (f, t)).2.eraseIdx i)) (f, t) = (.slice a2 n2 c2, (row l (f, t)).2.eraseIdx i) := by
    unfold row
    rw [aget_aput]; rfl
  repeat (first | refine nn ?_ | refine wI H (hK := ?_) | refine wP H (hK := ?_) | refine wM H (hK := ?_) | refine wSl H (hK := ?_) | refine wB H (hK := ?_) | refine wS H (hK := ?_) | refine wEq ?_ | refine wC H (hK := ?_) | (refine wLW H ?_; intro w1 H) | (refine wST H (hK := ?_); intro w1 H _) | refine mSlice_mk ?_ | refine mInt_mk ?_ | refine mBool_mk ?_ | refine mTup_mk ?_ | refine mCons_mk ?_ | refine mNil_mk ?_ | refine mAgg_mk ?_ | refine mPtr_mk ?_ | refine mStr_mk ?_)
  refine wLookup H (hK := fun a3 n3 c3 h4 h5 h6 => ?_)
  repeat (first | refine nn ?_ | refine wI H (hK := ?_) | refine wP H (hK := ?_) | refine wM H (hK := ?_) | refine wSl H (hK := ?_) | refine wB H (hK := ?_) | refine wS H (hK := ?_) | refine wEq ?_ | refine wC H (hK := ?_) | (refine wLW H ?_; intro w1 H) | (refine wST H (hK := ?_); intro w1 H _) | refine mSlice_mk ?_ | refine mInt_mk ?_ | refine mBool_mk ?_ | refine mTup_mk ?_ | refine mCons_mk ?_ | refine mNil_mk ?_ | refine mAgg_mk ?_ | refine mPtr_mk ?_ | refine mStr_mk ?_)
  rw [hr1] at h5
  subst h5
  refine br (fun h => ?_) (fun h => ?_)
  · have hnil : (row l (f, t)).2.eraseIdx i = [] := List.eq_nil_of_length_eq_zero (by simpa using h)
    repeat (first | refine nn ?_ | refine wI H (hK := ?_) | refine wP H (hK := ?_) | refine wM H (hK := ?_) | refine wSl H (hK := ?_) | refine wB H (hK := ?_) | refine wS H (hK := ?_) | refine wEq ?_ | refine wC H (hK := ?_) | (refine wLW H ?_; intro w1 H) | (refine wST H (hK := ?_); intro w1 H _) | refine mSlice_mk ?_ | refine mInt_mk ?_ | refine mBool_mk ?_ | refine mTup_mk ?_ | refine mCons_mk ?_ | refine mNil_mk ?_ | refine mAgg_mk ?_ | refine mPtr_mk ?_ | refine mStr_mk ?_)
    refine delete_own map_pair (i := 0) H rfl (f, t) fun w1 H _ => ?_
    rw [adel_map (fun r : Row => r.1), adel_aput] at H
    refine mTup_mk (mNil_mk ?_)
    have H := (row_out (H.front (bagsO (aput l (f, t) (.slice a2 n2 c2, (row l (f, t)).2.eraseIdx i)))) (f, t)).tail.tail
    rw [adel_aput] at H
    refine ⟨_, ⟨m, nilV, hm, hmv.symm, rfl⟩, ?_⟩
    simp only [outB, hnil, if_true]
    have H := (((H.front (msgO m)).front (bagsO (adel l (f, t)))).front (bagsM bm (adel l (f, t)))).front (pt nb (.cells #[.int .i64 nd, .int .i64 bd, .int .i64 now, .map (some bm)] 49))
    have H := H.netClose
    exact Sh.St.left (L := [_, _]) H
  · have hnil : (row l (f, t)).2.eraseIdx i ≠ [] := fun hc => by simp [hc] at h
    refine ⟨_, ⟨m, .slice a2 n2 c2, hm, hmv.symm, rfl⟩, ?_⟩
    simp only [outB, hnil, if_false]
    have H := (((H.front (msgO m)).front (bagsO (aput l (f, t) (.slice a2 n2 c2, (row l (f, t)).2.eraseIdx i)))).front (bagsM bm (aput l (f, t) (.slice a2 n2 c2, (row l (f, t)).2.eraseIdx i)))).front (pt nb (.cells #[.int .i64 nd, .int .i64 bd, .int .i64 now, .map (some bm)] 49))
    have H := H.netClose
    exact Sh.St.left (L := [_, _]) H
end
end Go.Proofs.Ytienifnpacoahaa
