/- New, meant, out. -/
import Derived.Test.YtienifnpacoahaaHC
namespace Go.Proofs.Ytienifnpacoahaa
open Go.Sh
attribute [local irreducible] rRun LDI LDB LDS LDP LDSl LDM LD Go.Sh.ST AL ALM LetW CallR CallV CallI NN IX SIX Br Req mInt mBool mStr mPtr mSlice mMap mAgg mTup mCons mNil mNth mPA LoopS

section
variable {w0 w : World} {F : List Nat} {L R : List Own}

theorem New_spec (nd bd : Int) (w : World) : CallS Try.prog fn_net_New #[.int .i64 nd, .int .i64 bd] w [] fun v _ A =>
    ((1 ≤ nd ∧ nd ≤ 16 ∧ 1 ≤ bd ∧ bd ≤ 65536) → ∃ nb bm, v = .tuple #[.pointer (some ⟨nb, 0, none⟩), .int .i64 0] ∧ A = [netO nb bm nd bd 0 []]) ∧
    (¬ (1 ≤ nd ∧ nd ≤ 16 ∧ 1 ≤ bd ∧ bd ≤ 65536) → v = .tuple #[.pointer none, .int .i64 1] ∧ A = []) := by
  refine CallS_intro (.nil w) fun H => net_New_sound _ _ _ _ ?_
  refine br (fun h => ⟨[], ⟨fun h2 => by simp at h; omega, fun _ => ⟨rfl, rfl⟩⟩, H⟩) (fun h1 => ?_)
  refine br (fun h => ⟨[], ⟨fun h2 => by simp at h; omega, fun _ => ⟨rfl, rfl⟩⟩, H⟩) (fun h2 => ?_)
  refine br (fun h => ⟨[], ⟨fun h2 => by simp at h; omega, fun _ => ⟨rfl, rfl⟩⟩, H⟩) (fun h3 => ?_)
  refine br (fun h => ⟨[], ⟨fun h2 => by simp at h; omega, fun _ => ⟨rfl, rfl⟩⟩, H⟩) (fun h4 => ?_)
  simp at h1 h2 h3 h4
  refine wALM H fun bm w1 H => ?_
  refine wAL H fun nb w2 H => ?_
  have H := (H.front (pt bm (.map #[] 0))).newMap pairV
  have H := H.front (pt nb (.cells #[.int .i64 nd, .int .i64 bd, .int .i64 0, .map (some bm)] 49))
  have H : St w (fps []) w2 ([pt nb (.cells #[.int .i64 nd, .int .i64 bd, .int .i64 0, .map (some bm)] 49), bagsM bm []] ++ []) := H
  have H2 := Sh.St.close (M := []) (H.perm List.perm_append_comm)
  have H := (H2.front (bagsM bm [])).front (pt nb (.cells #[.int .i64 nd, .int .i64 bd, .int .i64 0, .map (some bm)] 49))
  exact ⟨_, ⟨fun _ => ⟨nb, bm, rfl, rfl⟩, fun h => absurd ⟨h1, h2, h3, h4⟩ h⟩, St.netClose (l := []) H⟩

theorem node_walk {n1 nb bm : Nat} {nd bd now k : Int} {K : Value → World → Prop} (H : St w0 F w L)
    (hK : K (.bool (decide (0 ≤ k ∧ k < nd))) w) (hn : pt n1 (.cells #[.pointer (some ⟨nb, 0, none⟩)] 24) ∈ L) (hb : pt nb (.cells #[.int .i64 nd, .int .i64 bd, .int .i64 now, .map (some bm)] 49) ∈ L) :
    CallV Try.prog (.func (.func fn_net_Net_Send_1) #[] #[.pointer (some ⟨n1, 0, none⟩)]) [.int .i64 k] w K := by
  refine wCallV (by kernel_rfl) (net_Net_Send_1_sound k ⟨n1, 0, none⟩ K w ?_)
  refine br (fun h => ?_) (fun h => ?_)
  · refine wP H (hu := hn) (hK := nn ?_)
    refine wI H (hu := hb) (hK := ?_)
    simp at h
    simpa [h] using hK
  · simp at h
    have : ¬ (0 ≤ k ∧ k < nd) := by omega
    simpa [this] using hK

/-- What a pick means. -/
def meantV (l : Bags) (f t p : Int) : Value :=
  if (row l (f, t)).2 = [] then .tuple #[.agg #[.int .i64 f, .int .i64 t], .int .i64 0, .bool false]
  else .tuple #[.agg #[.int .i64 f, .int .i64 t], .int .i64 (Int.tmod (if 0 > p then 0 else p) (row l (f, t)).2.length), .bool true]
theorem meant_walk {nb bm : Nat} {nd bd now f t p : Int} {l : Bags} {K : Value → World → Prop} (H : St w0 F w (netO nb bm nd bd now l :: R))
    (hK : ∀ w', St w0 F w' (netO nb bm nd bd now l :: R) → K (meantV l f t p) w') :
    CallR Try.prog fn_net_Net_meant #[.pointer (some ⟨nb, 0, none⟩), .int .i64 f, .int .i64 t, .int .i64 p] w fun res w1 => CallV Try.prog res [] w1 K := by
  refine net_Net_meant_sound _ _ _ _ _ _ ?_
  refine wAL H.netOpen fun n1 w1 H => ?_
  refine wAL H fun f1 w1 H => ?_
  refine wAL H fun t1 w1 H => ?_
  refine wAL H fun p1 w1 H => ?_
  refine wCallV (by kernel_rfl) (net_Net_meant_1_sound _ _ _ _ _ _ ?_)
  refine wAL H fun q1 w1 H => ?_
  repeat (first | refine nn ?_ | refine wI H (hK := ?_) | refine wP H (hK := ?_) | refine wM H (hK := ?_) | refine wSl H (hK := ?_) | refine wB H (hK := ?_) | refine wS H (hK := ?_) | refine wEq ?_ | refine wC H (hK := ?_) | (refine wLW H ?_; intro w1 H) | (refine wST H (hK := ?_); intro w1 H _) | refine mSlice_mk ?_ | refine mInt_mk ?_ | refine mBool_mk ?_ | refine mTup_mk ?_ | refine mCons_mk ?_ | refine mNil_mk ?_ | refine mAgg_mk ?_ | refine mPtr_mk ?_ | refine mStr_mk ?_)
  refine wAL H fun q2 w1 H => ?_
  repeat (first | refine nn ?_ | refine wI H (hK := ?_) | refine wP H (hK := ?_) | refine wM H (hK := ?_) | refine wSl H (hK := ?_) | refine wB H (hK := ?_) | refine wS H (hK := ?_) | refine wEq ?_ | refine wC H (hK := ?_) | (refine wLW H ?_; intro w1 H) | (refine wST H (hK := ?_); intro w1 H _) | refine mSlice_mk ?_ | refine mInt_mk ?_ | refine mBool_mk ?_ | refine mTup_mk ?_ | refine mCons_mk ?_ | refine mNil_mk ?_ | refine mAgg_mk ?_ | refine mPtr_mk ?_ | refine mStr_mk ?_)
  refine wLookup H (hK := fun a n c h1 h2 h3 => ?_)
  repeat (first | refine nn ?_ | refine wI H (hK := ?_) | refine wP H (hK := ?_) | refine wM H (hK := ?_) | refine wSl H (hK := ?_) | refine wB H (hK := ?_) | refine wS H (hK := ?_) | refine wEq ?_ | refine wC H (hK := ?_) | (refine wLW H ?_; intro w1 H) | (refine wST H (hK := ?_); intro w1 H _) | refine mSlice_mk ?_ | refine mInt_mk ?_ | refine mBool_mk ?_ | refine mTup_mk ?_ | refine mCons_mk ?_ | refine mNil_mk ?_ | refine mAgg_mk ?_ | refine mPtr_mk ?_ | refine mStr_mk ?_)
  subst h2
  refine br (fun h => ?_) (fun h => ?_)
  · have hnil : (row l (f, t)).2 = [] := by
      apply List.eq_nil_of_length_eq_zero
      simpa using h
    repeat (first | refine nn ?_ | refine wI H (hK := ?_) | refine wP H (hK := ?_) | refine wM H (hK := ?_) | refine wSl H (hK := ?_) | refine wB H (hK := ?_) | refine wS H (hK := ?_) | refine wEq ?_ | refine wC H (hK := ?_) | (refine wLW H ?_; intro w1 H) | (refine wST H (hK := ?_); intro w1 H _) | refine mSlice_mk ?_ | refine mInt_mk ?_ | refine mBool_mk ?_ | refine mTup_mk ?_ | refine mCons_mk ?_ | refine mNil_mk ?_ | refine mAgg_mk ?_ | refine mPtr_mk ?_ | refine mStr_mk ?_)
    have := hK _ (St.netClose (H.tail.tail.tail.tail.tail.tail))
    simpa [meantV, hnil] using this
  · have hnil : (row l (f, t)).2 ≠ [] := fun hc => by simp [hc] at h
    repeat (first | refine nn ?_ | refine wI H (hK := ?_) | refine wP H (hK := ?_) | refine wM H (hK := ?_) | refine wSl H (hK := ?_) | refine wB H (hK := ?_) | refine wS H (hK := ?_) | refine wEq ?_ | refine wC H (hK := ?_) | (refine wLW H ?_; intro w1 H) | (refine wST H (hK := ?_); intro w1 H _) | refine mSlice_mk ?_ | refine mInt_mk ?_ | refine mBool_mk ?_ | refine mTup_mk ?_ | refine mCons_mk ?_ | refine mNil_mk ?_ | refine mAgg_mk ?_ | refine mPtr_mk ?_ | refine mStr_mk ?_)
    refine wLookup H (hK := fun a' n' c' h1' h2' h3' => ?_)
    repeat (first | refine nn ?_ | refine wI H (hK := ?_) | refine wP H (hK := ?_) | refine wM H (hK := ?_) | refine wSl H (hK := ?_) | refine wB H (hK := ?_) | refine wS H (hK := ?_) | refine wEq ?_ | refine wC H (hK := ?_) | (refine wLW H ?_; intro w1 H) | (refine wST H (hK := ?_); intro w1 H _) | refine mSlice_mk ?_ | refine mInt_mk ?_ | refine mBool_mk ?_ | refine mTup_mk ?_ | refine mCons_mk ?_ | refine mNil_mk ?_ | refine mAgg_mk ?_ | refine mPtr_mk ?_ | refine mStr_mk ?_)
    rw [h1'] at h1
    cases h1
    refine wReq (by simpa using h) ?_
    repeat (first | refine nn ?_ | refine wI H (hK := ?_) | refine wP H (hK := ?_) | refine wM H (hK := ?_) | refine wSl H (hK := ?_) | refine wB H (hK := ?_) | refine wS H (hK := ?_) | refine wEq ?_ | refine wC H (hK := ?_) | (refine wLW H ?_; intro w1 H) | (refine wST H (hK := ?_); intro w1 H _) | refine mSlice_mk ?_ | refine mInt_mk ?_ | refine mBool_mk ?_ | refine mTup_mk ?_ | refine mCons_mk ?_ | refine mNil_mk ?_ | refine mAgg_mk ?_ | refine mPtr_mk ?_ | refine mStr_mk ?_)
    refine ⟨⟨rfl, rfl⟩, ⟨wLookup H (hK := fun a n c h1 h2 h3 => mSlice_mk ⟨rfl, ?_⟩), ?_⟩⟩
    · rw [← h1, h1']
    repeat (first | refine nn ?_ | refine wI H (hK := ?_) | refine wP H (hK := ?_) | refine wM H (hK := ?_) | refine wSl H (hK := ?_) | refine wB H (hK := ?_) | refine wS H (hK := ?_) | refine wEq ?_ | refine wC H (hK := ?_) | (refine wLW H ?_; intro w1 H) | (refine wST H (hK := ?_); intro w1 H _) | refine mSlice_mk ?_ | refine mInt_mk ?_ | refine mBool_mk ?_ | refine mTup_mk ?_ | refine mCons_mk ?_ | refine mNil_mk ?_ | refine mAgg_mk ?_ | refine mPtr_mk ?_ | refine mStr_mk ?_)
    refine ⟨⟨rfl, rfl⟩, ?_⟩
    repeat (first | refine nn ?_ | refine wI H (hK := ?_) | refine wP H (hK := ?_) | refine wM H (hK := ?_) | refine wSl H (hK := ?_) | refine wB H (hK := ?_) | refine wS H (hK := ?_) | refine wEq ?_ | refine wC H (hK := ?_) | (refine wLW H ?_; intro w1 H) | (refine wST H (hK := ?_); intro w1 H _) | refine mSlice_mk ?_ | refine mInt_mk ?_ | refine mBool_mk ?_ | refine mTup_mk ?_ | refine mCons_mk ?_ | refine mNil_mk ?_ | refine mAgg_mk ?_ | refine mPtr_mk ?_ | refine mStr_mk ?_)
    have := hK _ (St.netClose (H.tail.tail.tail.tail.tail.tail))
    simpa [meantV, hnil] using this
end
end Go.Proofs.Ytienifnpacoahaa
