/- Deliver, Drop, Double. -/
import Derived.Test.YtienifnpacoahaaHE
namespace Go.Proofs.Ytienifnpacoahaa
open Go.Sh
attribute [local irreducible] rRun LDI LDB LDS LDP LDSl LDM LD Go.Sh.ST AL ALM LetW CallR CallV CallI NN IX SIX Br Req mInt mBool mStr mPtr mSlice mMap mAgg mTup mCons mNil mNth mPA LoopS

section
variable {w0 w : World} {F : List Nat} {L R : List Own}
def pickI (p : Int) (n : Nat) : Nat := (if 0 > p then 0 else p).toNat % n
theorem pickI_lt {p : Int} {n : Nat} (hn : 0 < n) : pickI p n < n := Nat.mod_lt _ hn
theorem pickI_eq (p : Int) (n : Nat) : Int.tmod (if 0 > p then 0 else p) n = (pickI p n : Int) := by
  unfold pickI
  split
  · simp
  · rename_i h
    rw [Int.tmod_eq_emod_of_nonneg (by omega), Int.natCast_emod, Int.toNat_of_nonneg (by omega)]
theorem meantV_nil {l : Bags} {f t p : Int} (h : (row l (f, t)).2 = []) : meantV l f t p = .tuple #[.agg #[.int .i64 f, .int .i64 t], .int .i64 0, .bool false] := by simp [meantV, h]
theorem meantV_some {l : Bags} {f t p : Int} (h : (row l (f, t)).2 ≠ []) : meantV l f t p = .tuple #[.agg #[.int .i64 f, .int .i64 t], .int .i64 (pickI p (row l (f, t)).2.length), .bool true] := by
  simp only [meantV, h, if_false, pickI_eq]

theorem Deliver_spec {nb bm : Nat} {nd bd now f t p : Int} {l : Bags} (hA : Has w [netO nb bm nd bd now l]) (hn : (row l (f, t)).2.length ≤ 65536) :
    CallS Try.prog fn_net_Net_Deliver #[.pointer (some ⟨nb, 0, none⟩), .int .i64 f, .int .i64 t, .int .i64 p] w [netO nb bm nd bd now l] fun r _ A =>
      ((row l (f, t)).2 = [] ∧ r = .tuple #[.agg #[.int .i64 0, .int .i64 0, .slice none 0 0], .bool false] ∧ A = [netO nb bm nd bd now l]) ∨
      ((row l (f, t)).2 ≠ [] ∧ ∃ m v, (row l (f, t)).2[pickI p (row l (f, t)).2.length]? = some m ∧ r = .tuple #[.agg #[.int .i64 f, .int .i64 t, m.1], .bool true] ∧
        A = [netO nb bm nd bd now (outB l (f, t) (pickI p (row l (f, t)).2.length) v), msgO m]) := by
  refine CallS_intro hA fun H => net_Net_Deliver_sound _ _ _ _ _ _ ?_
  refine wAL H fun q w1 H => ?_
  refine meant_walk (H.front (netO nb bm nd bd now l)) fun w1 H => ?_
  by_cases hnil : (row l (f, t)).2 = []
  · rw [meantV_nil hnil]
    repeat (first | refine nn ?_ | refine wI H (hK := ?_) | refine wP H (hK := ?_) | refine wM H (hK := ?_) | refine wSl H (hK := ?_) | refine wB H (hK := ?_) | refine wS H (hK := ?_) | refine wEq ?_ | refine wC H (hK := ?_) | (refine wLW H ?_; intro w1 H) | (refine wST H (hK := ?_); intro w1 H _) | refine mSlice_mk ?_ | refine mInt_mk ?_ | refine mBool_mk ?_ | refine mTup_mk ?_ | refine mCons_mk ?_ | refine mNil_mk ?_ | refine mAgg_mk ?_ | refine mPtr_mk ?_ | refine mStr_mk ?_)
    refine wAL H fun q1 w1 H => ?_
    repeat (first | refine nn ?_ | refine wI H (hK := ?_) | refine wP H (hK := ?_) | refine wM H (hK := ?_) | refine wSl H (hK := ?_) | refine wB H (hK := ?_) | refine wS H (hK := ?_) | refine wEq ?_ | refine wC H (hK := ?_) | (refine wLW H ?_; intro w1 H) | (refine wST H (hK := ?_); intro w1 H _) | refine mSlice_mk ?_ | refine mInt_mk ?_ | refine mBool_mk ?_ | refine mTup_mk ?_ | refine mCons_mk ?_ | refine mNil_mk ?_ | refine mAgg_mk ?_ | refine mPtr_mk ?_ | refine mStr_mk ?_)
    refine br (fun _ => ?_) (fun h => by cases h)
    repeat (first | refine nn ?_ | refine wI H (hK := ?_) | refine wP H (hK := ?_) | refine wM H (hK := ?_) | refine wSl H (hK := ?_) | refine wB H (hK := ?_) | refine wS H (hK := ?_) | refine wEq ?_ | refine wC H (hK := ?_) | (refine wLW H ?_; intro w1 H) | (refine wST H (hK := ?_); intro w1 H _) | refine mSlice_mk ?_ | refine mInt_mk ?_ | refine mBool_mk ?_ | refine mTup_mk ?_ | refine mCons_mk ?_ | refine mNil_mk ?_ | refine mAgg_mk ?_ | refine mPtr_mk ?_ | refine mStr_mk ?_)
    exact ⟨_, .inl ⟨hnil, rfl, rfl⟩, (H.front (netO nb bm nd bd now l)).left (L := [_])⟩
  · have hpos : 0 < (row l (f, t)).2.length := List.length_pos_iff.2 hnil
    rw [meantV_some hnil]
    repeat (first | refine nn ?_ | refine wI H (hK := ?_) | refine wP H (hK := ?_) | refine wM H (hK := ?_) | refine wSl H (hK := ?_) | refine wB H (hK := ?_) | refine wS H (hK := ?_) | refine wEq ?_ | refine wC H (hK := ?_) | (refine wLW H ?_; intro w1 H) | (refine wST H (hK := ?_); intro w1 H _) | refine mSlice_mk ?_ | refine mInt_mk ?_ | refine mBool_mk ?_ | refine mTup_mk ?_ | refine mCons_mk ?_ | refine mNil_mk ?_ | refine mAgg_mk ?_ | refine mPtr_mk ?_ | refine mStr_mk ?_)
    refine wAL H fun q1 w1 H => ?_
    repeat (first | refine nn ?_ | refine wI H (hK := ?_) | refine wP H (hK := ?_) | refine wM H (hK := ?_) | refine wSl H (hK := ?_) | refine wB H (hK := ?_) | refine wS H (hK := ?_) | refine wEq ?_ | refine wC H (hK := ?_) | (refine wLW H ?_; intro w1 H) | (refine wST H (hK := ?_); intro w1 H _) | refine mSlice_mk ?_ | refine mInt_mk ?_ | refine mBool_mk ?_ | refine mTup_mk ?_ | refine mCons_mk ?_ | refine mNil_mk ?_ | refine mAgg_mk ?_ | refine mPtr_mk ?_ | refine mStr_mk ?_)
    refine br (fun h => by cases h) (fun _ => ?_)
    repeat (first | refine nn ?_ | refine wI H (hK := ?_) | refine wP H (hK := ?_) | refine wM H (hK := ?_) | refine wSl H (hK := ?_) | refine wB H (hK := ?_) | refine wS H (hK := ?_) | refine wEq ?_ | refine wC H (hK := ?_) | (refine wLW H ?_; intro w1 H) | (refine wST H (hK := ?_); intro w1 H _) | refine mSlice_mk ?_ | refine mInt_mk ?_ | refine mBool_mk ?_ | refine mTup_mk ?_ | refine mCons_mk ?_ | refine mNil_mk ?_ | refine mAgg_mk ?_ | refine mPtr_mk ?_ | refine mStr_mk ?_)
    refine wCall H (fun hA => out_spec hA (pickI_lt hpos) hn) (hK := ?_)
    rintro r w1 A' ⟨m, v, hm, rfl, rfl⟩ _ H
    obtain ⟨ma, mn, mc, hmv, _⟩ := slice_of (H.has.all (msgO m) (by simp) : SliceAt w1 5 1 m.1 (bvals m.2))
    rw [hmv]
    repeat (first | refine nn ?_ | refine wI H (hK := ?_) | refine wP H (hK := ?_) | refine wM H (hK := ?_) | refine wSl H (hK := ?_) | refine wB H (hK := ?_) | refine wS H (hK := ?_) | refine wEq ?_ | refine wC H (hK := ?_) | (refine wLW H ?_; intro w1 H) | (refine wST H (hK := ?_); intro w1 H _) | refine mSlice_mk ?_ | refine mInt_mk ?_ | refine mBool_mk ?_ | refine mTup_mk ?_ | refine mCons_mk ?_ | refine mNil_mk ?_ | refine mAgg_mk ?_ | refine mPtr_mk ?_ | refine mStr_mk ?_)
    rw [← hmv]
    exact ⟨_, .inr ⟨hnil, m, v, hm, rfl, rfl⟩, H.left (L := [_, _])⟩

theorem Drop_spec {nb bm : Nat} {nd bd now f t p : Int} {l : Bags} (hA : Has w [netO nb bm nd bd now l]) (hn : (row l (f, t)).2.length ≤ 65536) :
    CallS Try.prog fn_net_Net_Drop #[.pointer (some ⟨nb, 0, none⟩), .int .i64 f, .int .i64 t, .int .i64 p] w [netO nb bm nd bd now l] fun r _ A =>
      ((row l (f, t)).2 = [] ∧ r = .bool false ∧ A = [netO nb bm nd bd now l]) ∨
      ((row l (f, t)).2 ≠ [] ∧ ∃ v, r = .bool true ∧ A = [netO nb bm nd bd now (outB l (f, t) (pickI p (row l (f, t)).2.length) v)]) := by
  refine CallS_intro hA fun H => net_Net_Drop_sound _ _ _ _ _ _ ?_
  refine wCall H (fun hA => Deliver_spec hA hn) (hK := ?_)
  rintro r w1 A' (⟨hnil, rfl, rfl⟩ | ⟨hnil, m, v, hm, rfl, rfl⟩) _ H
  · repeat (first | refine nn ?_ | refine wI H (hK := ?_) | refine wP H (hK := ?_) | refine wM H (hK := ?_) | refine wSl H (hK := ?_) | refine wB H (hK := ?_) | refine wS H (hK := ?_) | refine wEq ?_ | refine wC H (hK := ?_) | (refine wLW H ?_; intro w1 H) | (refine wST H (hK := ?_); intro w1 H _) | refine mSlice_mk ?_ | refine mInt_mk ?_ | refine mBool_mk ?_ | refine mTup_mk ?_ | refine mCons_mk ?_ | refine mNil_mk ?_ | refine mAgg_mk ?_ | refine mPtr_mk ?_ | refine mStr_mk ?_)
    refine wAL H fun q1 w1 H => ?_
    repeat (first | refine nn ?_ | refine wI H (hK := ?_) | refine wP H (hK := ?_) | refine wM H (hK := ?_) | refine wSl H (hK := ?_) | refine wB H (hK := ?_) | refine wS H (hK := ?_) | refine wEq ?_ | refine wC H (hK := ?_) | (refine wLW H ?_; intro w1 H) | (refine wST H (hK := ?_); intro w1 H _) | refine mSlice_mk ?_ | refine mInt_mk ?_ | refine mBool_mk ?_ | refine mTup_mk ?_ | refine mCons_mk ?_ | refine mNil_mk ?_ | refine mAgg_mk ?_ | refine mPtr_mk ?_ | refine mStr_mk ?_)
    exact ⟨_, .inl ⟨hnil, rfl, rfl⟩, (H.front (netO nb bm nd bd now l)).left (L := [_])⟩
  · obtain ⟨ma, mn, mc, hmv, _⟩ := slice_of (H.has.all (msgO m) (by simp) : SliceAt w1 5 1 m.1 (bvals m.2))
    rw [hmv]
    repeat (first | refine nn ?_ | refine wI H (hK := ?_) | refine wP H (hK := ?_) | refine wM H (hK := ?_) | refine wSl H (hK := ?_) | refine wB H (hK := ?_) | refine wS H (hK := ?_) | refine wEq ?_ | refine wC H (hK := ?_) | (refine wLW H ?_; intro w1 H) | (refine wST H (hK := ?_); intro w1 H _) | refine mSlice_mk ?_ | refine mInt_mk ?_ | refine mBool_mk ?_ | refine mTup_mk ?_ | refine mCons_mk ?_ | refine mNil_mk ?_ | refine mAgg_mk ?_ | refine mPtr_mk ?_ | refine mStr_mk ?_)
    refine wAL H fun q1 w1 H => ?_
    repeat (first | refine nn ?_ | refine wI H (hK := ?_) | refine wP H (hK := ?_) | refine wM H (hK := ?_) | refine wSl H (hK := ?_) | refine wB H (hK := ?_) | refine wS H (hK := ?_) | refine wEq ?_ | refine wC H (hK := ?_) | (refine wLW H ?_; intro w1 H) | (refine wST H (hK := ?_); intro w1 H _) | refine mSlice_mk ?_ | refine mInt_mk ?_ | refine mBool_mk ?_ | refine mTup_mk ?_ | refine mCons_mk ?_ | refine mNil_mk ?_ | refine mAgg_mk ?_ | refine mPtr_mk ?_ | refine mStr_mk ?_)
    exact ⟨_, .inr ⟨hnil, v, rfl, rfl⟩, (H.front (netO nb bm nd bd now (outB l (f, t) (pickI p (row l (f, t)).2.length) v))).left (L := [_])⟩

theorem Double_spec {nb bm : Nat} {nd bd now f t p : Int} {l : Bags} (hA : Has w [netO nb bm nd bd now l]) (hn : (row l (f, t)).2.length ≤ 65536) (hm : ∀ m ∈ (row l (f, t)).2, m.2.length ≤ 1000000) :
    CallS Try.prog fn_net_Net_Double #[.pointer (some ⟨nb, 0, none⟩), .int .i64 f, .int .i64 t, .int .i64 p] w [netO nb bm nd bd now l] fun r _ A =>
      (((row l (f, t)).2 = [] ∨ ((row l (f, t)).2.length : Int) = bd) ∧ r = .bool false ∧ A = [netO nb bm nd bd now l]) ∨
      ((row l (f, t)).2 ≠ [] ∧ ((row l (f, t)).2.length : Int) ≠ bd ∧ ∃ m v m', (row l (f, t)).2[pickI p (row l (f, t)).2.length]? = some m ∧ r = .bool true ∧
        A = [netO nb bm nd bd now (aput l (f, t) (v, (row l (f, t)).2 ++ [(m', m.2)]))]) := by
  refine CallS_intro hA fun H => net_Net_Double_sound _ _ _ _ _ _ ?_
  refine meant_walk H fun w1 H => ?_
  by_cases hnil : (row l (f, t)).2 = []
  · rw [meantV_nil hnil]
    repeat (first | refine nn ?_ | refine wI H (hK := ?_) | refine wP H (hK := ?_) | refine wM H (hK := ?_) | refine wSl H (hK := ?_) | refine wB H (hK := ?_) | refine wS H (hK := ?_) | refine wEq ?_ | refine wC H (hK := ?_) | (refine wLW H ?_; intro w1 H) | (refine wST H (hK := ?_); intro w1 H _) | refine mSlice_mk ?_ | refine mInt_mk ?_ | refine mBool_mk ?_ | refine mTup_mk ?_ | refine mCons_mk ?_ | refine mNil_mk ?_ | refine mAgg_mk ?_ | refine mPtr_mk ?_ | refine mStr_mk ?_)
    refine wAL H fun q1 w1 H => ?_
    repeat (first | refine nn ?_ | refine wI H (hK := ?_) | refine wP H (hK := ?_) | refine wM H (hK := ?_) | refine wSl H (hK := ?_) | refine wB H (hK := ?_) | refine wS H (hK := ?_) | refine wEq ?_ | refine wC H (hK := ?_) | (refine wLW H ?_; intro w1 H) | (refine wST H (hK := ?_); intro w1 H _) | refine mSlice_mk ?_ | refine mInt_mk ?_ | refine mBool_mk ?_ | refine mTup_mk ?_ | refine mCons_mk ?_ | refine mNil_mk ?_ | refine mAgg_mk ?_ | refine mPtr_mk ?_ | refine mStr_mk ?_)
    refine br (fun _ => ?_) (fun h => by cases h)
    exact ⟨_, .inl ⟨.inl hnil, rfl, rfl⟩, (H.front (netO nb bm nd bd now l)).left (L := [_])⟩
  · have hpos : 0 < (row l (f, t)).2.length := List.length_pos_iff.2 hnil
    rw [meantV_some hnil]
    have H := H.netOpen
    repeat (first | refine nn ?_ | refine wI H (hK := ?_) | refine wP H (hK := ?_) | refine wM H (hK := ?_) | refine wSl H (hK := ?_) | refine wB H (hK := ?_) | refine wS H (hK := ?_) | refine wEq ?_ | refine wC H (hK := ?_) | (refine wLW H ?_; intro w1 H) | (refine wST H (hK := ?_); intro w1 H _) | refine mSlice_mk ?_ | refine mInt_mk ?_ | refine mBool_mk ?_ | refine mTup_mk ?_ | refine mCons_mk ?_ | refine mNil_mk ?_ | refine mAgg_mk ?_ | refine mPtr_mk ?_ | refine mStr_mk ?_)
    refine wAL H fun q1 w1 H => ?_
    repeat (first | refine nn ?_ | refine wI H (hK := ?_) | refine wP H (hK := ?_) | refine wM H (hK := ?_) | refine wSl H (hK := ?_) | refine wB H (hK := ?_) | refine wS H (hK := ?_) | refine wEq ?_ | refine wC H (hK := ?_) | (refine wLW H ?_; intro w1 H) | (refine wST H (hK := ?_); intro w1 H _) | refine mSlice_mk ?_ | refine mInt_mk ?_ | refine mBool_mk ?_ | refine mTup_mk ?_ | refine mCons_mk ?_ | refine mNil_mk ?_ | refine mAgg_mk ?_ | refine mPtr_mk ?_ | refine mStr_mk ?_)
    refine br (fun h => by cases h) (fun _ => ?_)
    repeat (first | refine nn ?_ | refine wI H (hK := ?_) | refine wP H (hK := ?_) | refine wM H (hK := ?_) | refine wSl H (hK := ?_) | refine wB H (hK := ?_) | refine wS H (hK := ?_) | refine wEq ?_ | refine wC H (hK := ?_) | (refine wLW H ?_; intro w1 H) | (refine wST H (hK := ?_); intro w1 H _) | refine mSlice_mk ?_ | refine mInt_mk ?_ | refine mBool_mk ?_ | refine mTup_mk ?_ | refine mCons_mk ?_ | refine mNil_mk ?_ | refine mAgg_mk ?_ | refine mPtr_mk ?_ | refine mStr_mk ?_)
    refine wLookup H (hK := fun a n c h1 h2 h3 => ?_)
    subst h2
    repeat (first | refine nn ?_ | refine wI H (hK := ?_) | refine wP H (hK := ?_) | refine wM H (hK := ?_) | refine wSl H (hK := ?_) | refine wB H (hK := ?_) | refine wS H (hK := ?_) | refine wEq ?_ | refine wC H (hK := ?_) | (refine wLW H ?_; intro w1 H) | (refine wST H (hK := ?_); intro w1 H _) | refine mSlice_mk ?_ | refine mInt_mk ?_ | refine mBool_mk ?_ | refine mTup_mk ?_ | refine mCons_mk ?_ | refine mNil_mk ?_ | refine mAgg_mk ?_ | refine mPtr_mk ?_ | refine mStr_mk ?_)
    refine br (fun h => ?_) (fun h => ?_)
    · exact ⟨_, .inl ⟨.inr (by simpa using h), rfl, rfl⟩, (H.tail.netClose).left (L := [_])⟩
    · repeat (first | refine nn ?_ | refine wI H (hK := ?_) | refine wP H (hK := ?_) | refine wM H (hK := ?_) | refine wSl H (hK := ?_) | refine wB H (hK := ?_) | refine wS H (hK := ?_) | refine wEq ?_ | refine wC H (hK := ?_) | (refine wLW H ?_; intro w1 H) | (refine wST H (hK := ?_); intro w1 H _) | refine mSlice_mk ?_ | refine mInt_mk ?_ | refine mBool_mk ?_ | refine mTup_mk ?_ | refine mCons_mk ?_ | refine mNil_mk ?_ | refine mAgg_mk ?_ | refine mPtr_mk ?_ | refine mStr_mk ?_)
      refine wLookup H (hK := fun a' n' c' h1' h2' h3' => ?_)
      subst h2'
      repeat (first | refine nn ?_ | refine wI H (hK := ?_) | refine wP H (hK := ?_) | refine wM H (hK := ?_) | refine wSl H (hK := ?_) | refine wB H (hK := ?_) | refine wS H (hK := ?_) | refine wEq ?_ | refine wC H (hK := ?_) | (refine wLW H ?_; intro w1 H) | (refine wST H (hK := ?_); intro w1 H _) | refine mSlice_mk ?_ | refine mInt_mk ?_ | refine mBool_mk ?_ | refine mTup_mk ?_ | refine mCons_mk ?_ | refine mNil_mk ?_ | refine mAgg_mk ?_ | refine mPtr_mk ?_ | refine mStr_mk ?_)
      obtain ⟨m, hmm⟩ : ∃ m, (row l (f, t)).2[pickI p (row l (f, t)).2.length]? = some m := ⟨_, List.getElem?_eq_getElem (pickI_lt hpos)⟩
      have hrow := row_at H (l := l) (by simp) (f, t)
      have hs := hrow.1
      obtain ⟨ma, mn, mc, hmv, _⟩ := slice_of (hrow.2 m (List.mem_of_getElem? hmm))
      have hread := (hrow.2 m (List.mem_of_getElem? hmm)).reads
      rw [h1'] at hs
      rw [hmv] at hread
      have hcell : ((row l (f, t)).2.map (·.1))[pickI p (row l (f, t)).2.length]? = some (.slice ma mn mc) := by rw [List.getElem?_map, hmm, ← hmv]; rfl
      refine wIX hs (i := pickI p (row l (f, t)).2.length) (by simpa using pickI_lt hpos) rfl fun ad had => ?_
      rw [hcell] at had
      refine ldSl had ?_
      refine wCall H (fun _ => Clone_spec hread (hm m (List.mem_of_getElem? hmm))) (hK := ?_)
      rintro r w1 A' ⟨rfl, a2, n2, c2, rfl⟩ _ H
      repeat (first | refine nn ?_ | refine wI H (hK := ?_) | refine wP H (hK := ?_) | refine wM H (hK := ?_) | refine wSl H (hK := ?_) | refine wB H (hK := ?_) | refine wS H (hK := ?_) | refine wEq ?_ | refine wC H (hK := ?_) | (refine wLW H ?_; intro w1 H) | (refine wST H (hK := ?_); intro w1 H _) | refine mSlice_mk ?_ | refine mInt_mk ?_ | refine mBool_mk ?_ | refine mTup_mk ?_ | refine mCons_mk ?_ | refine mNil_mk ?_ | refine mAgg_mk ?_ | refine mPtr_mk ?_ | refine mStr_mk ?_)
      refine wAL H fun b4 w1 H => ?_
      repeat (first | refine nn ?_ | refine wI H (hK := ?_) | refine wP H (hK := ?_) | refine wM H (hK := ?_) | refine wSl H (hK := ?_) | refine wB H (hK := ?_) | refine wS H (hK := ?_) | refine wEq ?_ | refine wC H (hK := ?_) | (refine wLW H ?_; intro w1 H) | (refine wST H (hK := ?_); intro w1 H _) | refine mSlice_mk ?_ | refine mInt_mk ?_ | refine mBool_mk ?_ | refine mTup_mk ?_ | refine mCons_mk ?_ | refine mNil_mk ?_ | refine mAgg_mk ?_ | refine mPtr_mk ?_ | refine mStr_mk ?_)
      refine push_row (K := fun w => _) (((H.front (bagsO l)).front (bagsM bm l)).front (sliceO 5 1 (.slice a2 n2 c2) (bvals m.2)) |>.front (pt b4 (.cells #[.slice a2 n2 c2] 22))) hn fun w1 v' m' H => ?_
      have H := H.front (pt nb (.cells #[.int .i64 nd, .int .i64 bd, .int .i64 now, .map (some bm)] 49))
      exact ⟨_, .inr ⟨hnil, by simpa using h, m, v', m', hmm, rfl, rfl⟩, (H.netClose).left (L := [_])⟩
end
end Go.Proofs.Ytienifnpacoahaa
