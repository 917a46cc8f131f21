/- NetOwn: what it walks. -/
import Derived.Test.YtienifnpacoahaaHI
namespace Go.Proofs.Ytienifnpacoahaa
open Go.Sh
attribute [local irreducible] rRun LDI LDB LDS LDP LDSl LDM LD Go.Sh.ST AL ALM LetW CallR CallV CallI NN IX SIX Br Req mInt mBool mStr mPtr mSlice mMap mAgg mTup mCons mNil mNth mPA LoopS

section
variable {w0 w : World} {F : List Nat} {L R : List Own}
/-- Bytes, whichever. -/
def isBytes (cs : List Value) : Prop := ∀ u ∈ cs, ∃ x, u = .int .u8 x
theorem isBytes_bvals (bs : List UInt8) : isBytes (bvals bs) := fun u hu => by
  obtain ⟨b, _, rfl⟩ := List.mem_map.1 hu
  exact ⟨_, rfl⟩
theorem isBytes.set {cs : List Value} (h : isBytes cs) (i : Nat) (x : Int) : isBytes (cs.set i (.int .u8 x)) := fun u hu => by
  rcases List.mem_or_eq_of_mem_set hu with hu | rfl
  · exact h u hu
  · exact ⟨_, rfl⟩
theorem isBytes.get {cs : List Value} (h : isBytes cs) {i : Nat} (hi : i < cs.length) : ∃ x, cs[i]? = some (.int .u8 x) := by
  obtain ⟨x, hx⟩ := h cs[i] (List.getElem_mem hi)
  exact ⟨x, by rw [List.getElem?_eq_getElem hi, hx]⟩

theorem NetOwn_spec {b : Option Addr} {n c : Nat} {bs : List UInt8} (hb : Reads w 1 (.slice b n c) (bvals bs)) :
    CallS Try.prog fn_glacierlaw3_NetOwn #[.slice b n c] w [] fun r _ A => r = .bool true ∧ A = [] := by
  have hn : n = bs.length := by
    obtain ⟨_, _, _, he, h1, _⟩ := hb
    cases he
    simpa using h1
  subst hn
  have hbr : ∀ {w' : World} {L : List Own}, St w (fps []) w' L → Reads w' 1 (.slice b bs.length c) (bvals bs) := fun H => hb.of fun x hx => H.fr.block x (hb.lt (by decide) x hx) (by simp)
  refine CallS_intro (.nil w) fun H => glacierlaw3_NetOwn_sound _ _ _ _ _ ?_
  refine wCall H (fun _ => known_spec w) (hK := ?_)
  rintro r w1 A' ⟨rfl, rfl⟩ _ H
  repeat (first | refine nn ?_ | refine wI H (hK := ?_) | refine wP H (hK := ?_) | refine wM H (hK := ?_) | refine wSl H (hK := ?_) | refine wB H (hK := ?_) | refine wS H (hK := ?_) | refine wEq ?_ | refine wC H (hK := ?_) | (refine wLW H ?_; intro w1 H) | (refine wST H (hK := ?_); intro w1 H _) | refine mSlice_mk ?_ | refine mInt_mk ?_ | refine mBool_mk ?_ | refine mTup_mk ?_ | refine mCons_mk ?_ | refine mNil_mk ?_ | refine mAgg_mk ?_ | refine mPtr_mk ?_ | refine mStr_mk ?_)
  refine br (fun h => by simp at h) (fun _ => ?_)
  refine br (fun _ => ⟨_, ⟨rfl, rfl⟩, Sh.St.left (L := []) H⟩) (fun hlen => ?_)
  refine br (fun _ => ⟨_, ⟨rfl, rfl⟩, Sh.St.left (L := []) H⟩) (fun hpos => ?_)
  have hlen : bs.length ≤ 1000 := by simp at hlen; omega
  refine wCall H (fun _ => New_spec 2 9 w1) (hK := ?_)
  rintro r w1 A' ⟨hr, _⟩ _ H
  obtain ⟨nb, bm, rfl, rfl⟩ := hr (by decide)
  repeat (first | refine nn ?_ | refine wI H (hK := ?_) | refine wP H (hK := ?_) | refine wM H (hK := ?_) | refine wSl H (hK := ?_) | refine wB H (hK := ?_) | refine wS H (hK := ?_) | refine wEq ?_ | refine wC H (hK := ?_) | (refine wLW H ?_; intro w1 H) | (refine wST H (hK := ?_); intro w1 H _) | refine mSlice_mk ?_ | refine mInt_mk ?_ | refine mBool_mk ?_ | refine mTup_mk ?_ | refine mCons_mk ?_ | refine mNil_mk ?_ | refine mAgg_mk ?_ | refine mPtr_mk ?_ | refine mStr_mk ?_)
  refine br (fun h => by simp at h) (fun _ => ?_)
  refine br (fun h => by simp at h) (fun _ => ?_)
  refine wAL H fun b1 w1 H => ?_
  have H := H.tail.nothing 5 1 (some ⟨b1, 0, none⟩)
  obtain ⟨q, hq, hsrc⟩ := (hbr H).src (P := Try.prog) (tx := 22) elem_bytes.under (bvals_one bs)
  refine append_own (t := 22) (n := q) elem_bytes (i := 0) H rfl hsrc (by simp; omega) (by decide) fun v' w1 H _ _ => ?_
  obtain ⟨ma, mn, mc, rfl, hmn, _⟩ := slice_of (H.get (i := 0) rfl : SliceAt _ _ _ _ _)
  repeat (first | refine nn ?_ | refine wI H (hK := ?_) | refine wP H (hK := ?_) | refine wM H (hK := ?_) | refine wSl H (hK := ?_) | refine wB H (hK := ?_) | refine wS H (hK := ?_) | refine wEq ?_ | refine wC H (hK := ?_) | (refine wLW H ?_; intro w1 H) | (refine wST H (hK := ?_); intro w1 H _) | refine mSlice_mk ?_ | refine mInt_mk ?_ | refine mBool_mk ?_ | refine mTup_mk ?_ | refine mCons_mk ?_ | refine mNil_mk ?_ | refine mAgg_mk ?_ | refine mPtr_mk ?_ | refine mStr_mk ?_)
  refine wAL H fun b2 w1 H => ?_
  have H := H.front (netO nb bm 2 9 0 [])
  refine wCall H (fun hA => Send_spec (bs := bs) (tos := [1, 1]) hA (by decide) (Sh.St.ext (A := [_]) H (by simp; exact .inr rfl)) (by omega) (ext_pt (A := [_]) H (by simp; exact .inl rfl) rfl (by decide) rfl) (by decide)) (hK := ?_)
  rintro r w1 A' ⟨l1, cnt, hsent, rfl, rfl⟩ _ H
  have h01 : cts l1 (0, 1) = [bs, bs] := by
    have := congrFun (congrArg Prod.fst hsent.cts) (0, 1)
    simpa [stepA, cts_nil] using this
  repeat (first | refine nn ?_ | refine wI H (hK := ?_) | refine wP H (hK := ?_) | refine wM H (hK := ?_) | refine wSl H (hK := ?_) | refine wB H (hK := ?_) | refine wS H (hK := ?_) | refine wEq ?_ | refine wC H (hK := ?_) | (refine wLW H ?_; intro w1 H) | (refine wST H (hK := ?_); intro w1 H _) | refine mSlice_mk ?_ | refine mInt_mk ?_ | refine mBool_mk ?_ | refine mTup_mk ?_ | refine mCons_mk ?_ | refine mNil_mk ?_ | refine mAgg_mk ?_ | refine mPtr_mk ?_ | refine mStr_mk ?_)
  refine wCall H (fun hA => Double_spec (f := 0) (t := 1) (p := 0) hA (by rw [cts_len, h01]; simp) (cts_small (by rw [h01]; simp; omega))) (hK := ?_)
  rintro r w1 A' (⟨hc, _⟩ | ⟨_, _, m2, v2, m2', hm2, rfl, rfl⟩) _ H
  · rw [cts_len, h01] at hc
    rcases hc with hc | hc
    · have := cts_len l1 (0, 1)
      rw [hc, h01] at this
      cases this
    · cases hc
  have hput := cts_put l1 (0, 1) v2 m2' m2.2
  generalize aput l1 (0, 1) (v2, (row l1 (0, 1)).2 ++ [(m2', m2.2)]) = l2 at H hput
  have hm4 := cts_get hm2
  rw [cts_len, h01] at hm4
  have hm5 : m2.2 = bs := (Option.some.inj hm4).symm
  have h01' : cts l2 (0, 1) = [bs, bs, bs] := by rw [hput, h01, hm5]; rfl
  repeat (first | refine nn ?_ | refine wI H (hK := ?_) | refine wP H (hK := ?_) | refine wM H (hK := ?_) | refine wSl H (hK := ?_) | refine wB H (hK := ?_) | refine wS H (hK := ?_) | refine wEq ?_ | refine wC H (hK := ?_) | (refine wLW H ?_; intro w1 H) | (refine wST H (hK := ?_); intro w1 H _) | refine mSlice_mk ?_ | refine mInt_mk ?_ | refine mBool_mk ?_ | refine mTup_mk ?_ | refine mCons_mk ?_ | refine mNil_mk ?_ | refine mAgg_mk ?_ | refine mPtr_mk ?_ | refine mStr_mk ?_)
  have hmn : mn = bs.length := by simpa using hmn
  subst hmn
  refine wLoop (fun k s w' => ∃ (i : Nat) (cs : List Value), k + i = bs.length ∧ s = (b, bs.length, c, some ⟨nb, 0, none⟩, ma, bs.length, mc, (i : Int)) ∧ cs.length = bs.length ∧ isBytes cs ∧
    St w (fps []) w' [netO nb bm 2 9 0 l2, sliceO 5 1 (.slice ma bs.length mc) cs]) ?_ ?_
  · exact ⟨bs.length, 0, bvals bs, by omega, rfl, by simp, isBytes_bvals bs, (H.front (pt b2 (.cells #[.int .i64 1, .int .i64 1] 3))).tail⟩
  rintro k s w1 ⟨i, cs, hk, rfl, hcl, hby, H⟩
  refine br (fun h => ?_) (fun _ => ?_)
  · have hi : i < cs.length := by simp at h; omega
    refine wIXe (H.has.all (sliceO 5 1 (.slice ma bs.length mc) cs) (by simp)) hi rfl fun ab hab hcell => ?_
    subst hab
    obtain ⟨x, hx⟩ := hby.get hi
    refine ldI (hcell.trans hx) ?_
    refine wIXe (H.has.all (sliceO 5 1 (.slice (some ⟨ab, 0, none⟩) bs.length mc) cs) (by simp)) hi rfl fun ab' hab' _ => ?_
    cases hab'
    refine wSTe H (hi := hi) (hK := fun w1 H => ?_)
    have hw : IntKind.wrap .i64 ((i : Int) + 1) = ((i + 1 : Nat) : Int) := by rw [wrap_id (by omega) (by omega)]; rfl
    show ∃ k', k' < k ∧ _
    refine ⟨k - 1, by omega, i + 1, _, by omega, ?_, by simpa using hcl, hby.set i _, H⟩
    rw [hw]
  have H := H.left (L := [_])
  have h3 : cts l2 (0, 1) = List.replicate (3 - 0) bs := h01'
  refine wLoop (fun k s w' => ∃ (j : Nat) (l : Bags), k + j = 3 ∧ s = (b, bs.length, c, some ⟨nb, 0, none⟩, (j : Int)) ∧ (j < 3 → cts l (0, 1) = List.replicate (3 - j) bs) ∧
    St w (fps []) w' [netO nb bm 2 9 0 l]) ?_ ?_
  · exact ⟨3, 0, l2, by omega, rfl, fun _ => h3, H⟩
  clear H h3 h01' hput
  rintro k s w1 ⟨j, l, hk, rfl, hct, H⟩
  refine br (fun h => ?_) (fun _ => ⟨_, ⟨rfl, rfl⟩, H.right (L := [_])⟩)
  have hj : j < 3 := by simp at h; omega
  have hct := hct hj
  have hrl : (row l (0, 1)).2.length = 3 - j := by rw [cts_len, hct]; simp
  refine wCall H (fun hA => Deliver_spec (l := l) (f := 0) (t := 1) (p := 0) hA (by omega)) (hK := ?_)
  rintro r w1 A' (⟨hnil, _⟩ | ⟨_, m, v, hm, rfl, rfl⟩) _ H
  · rw [hnil] at hrl
    simp at hrl
    omega
  have hp0 : pickI 0 (row l (0, 1)).2.length = 0 := by simp [pickI]
  rw [hp0] at hm H
  have hm2 := cts_get hm
  rw [hct] at hm2
  have hm3 : m.2 = bs := by
    rw [List.getElem?_replicate] at hm2
    split at hm2
    · exact (Option.some.inj hm2).symm
    · cases hm2
  have hnext : j + 1 < 3 → cts (outB l (0, 1) 0 v) (0, 1) = List.replicate (3 - (j + 1)) bs := by
    intro hj1
    have e1 : (cts l (0, 1)).eraseIdx 0 = List.replicate (3 - (j + 1)) bs := by
      rw [hct, show 3 - j = (3 - (j + 1)) + 1 by omega, List.replicate_succ]; rfl
    rw [cts_out v (by rw [e1, show 3 - (j + 1) = (1 - j) + 1 by omega, List.replicate_succ]; simp)]
    simp only [if_true]
    exact e1
  generalize outB l (0, 1) 0 v = l3 at H hnext
  obtain ⟨pa, pn, pc, hmv, hpn, _⟩ := slice_of (H.has.all (msgO m) (by simp) : SliceAt w1 5 1 m.1 (bvals m.2))
  rw [hmv]
  repeat (first | refine nn ?_ | refine wI H (hK := ?_) | refine wP H (hK := ?_) | refine wM H (hK := ?_) | refine wSl H (hK := ?_) | refine wB H (hK := ?_) | refine wS H (hK := ?_) | refine wEq ?_ | refine wC H (hK := ?_) | (refine wLW H ?_; intro w1 H) | (refine wST H (hK := ?_); intro w1 H _) | refine mSlice_mk ?_ | refine mInt_mk ?_ | refine mBool_mk ?_ | refine mTup_mk ?_ | refine mCons_mk ?_ | refine mNil_mk ?_ | refine mAgg_mk ?_ | refine mPtr_mk ?_ | refine mStr_mk ?_)
  refine wAL H fun q w1 H => ?_
  repeat (first | refine nn ?_ | refine wI H (hK := ?_) | refine wP H (hK := ?_) | refine wM H (hK := ?_) | refine wSl H (hK := ?_) | refine wB H (hK := ?_) | refine wS H (hK := ?_) | refine wEq ?_ | refine wC H (hK := ?_) | (refine wLW H ?_; intro w1 H) | (refine wST H (hK := ?_); intro w1 H _) | refine mSlice_mk ?_ | refine mInt_mk ?_ | refine mBool_mk ?_ | refine mTup_mk ?_ | refine mCons_mk ?_ | refine mNil_mk ?_ | refine mAgg_mk ?_ | refine mPtr_mk ?_ | refine mStr_mk ?_)
  refine br (fun h => by simp at h) (fun _ => ?_)
  repeat (first | refine nn ?_ | refine wI H (hK := ?_) | refine wP H (hK := ?_) | refine wM H (hK := ?_) | refine wSl H (hK := ?_) | refine wB H (hK := ?_) | refine wS H (hK := ?_) | refine wEq ?_ | refine wC H (hK := ?_) | (refine wLW H ?_; intro w1 H) | (refine wST H (hK := ?_); intro w1 H _) | refine mSlice_mk ?_ | refine mInt_mk ?_ | refine mBool_mk ?_ | refine mTup_mk ?_ | refine mCons_mk ?_ | refine mNil_mk ?_ | refine mAgg_mk ?_ | refine mPtr_mk ?_ | refine mStr_mk ?_)
  have hmo : msgO m = sliceO 5 1 (.slice pa pn pc) (bvals bs) := by unfold msgO; rw [hmv, hm3]
  rw [hmo] at H
  have hread : SliceAt _ 5 1 (.slice pa pn pc) (bvals bs) := H.has.all (sliceO 5 1 (.slice pa pn pc) (bvals bs)) (by simp)
  refine wConvS hread.reads elem_bytes.under (by kernel_rfl) (by kernel_rfl) ?_
  repeat (first | refine nn ?_ | refine wI H (hK := ?_) | refine wP H (hK := ?_) | refine wM H (hK := ?_) | refine wSl H (hK := ?_) | refine wB H (hK := ?_) | refine wS H (hK := ?_) | refine wEq ?_ | refine wC H (hK := ?_) | (refine wLW H ?_; intro w1 H) | (refine wST H (hK := ?_); intro w1 H _) | refine mSlice_mk ?_ | refine mInt_mk ?_ | refine mBool_mk ?_ | refine mTup_mk ?_ | refine mCons_mk ?_ | refine mNil_mk ?_ | refine mAgg_mk ?_ | refine mPtr_mk ?_ | refine mStr_mk ?_)
  refine wConvS (hbr H) elem_bytes.under (by kernel_rfl) (by kernel_rfl) ?_
  repeat (first | refine nn ?_ | refine wI H (hK := ?_) | refine wP H (hK := ?_) | refine wM H (hK := ?_) | refine wSl H (hK := ?_) | refine wB H (hK := ?_) | refine wS H (hK := ?_) | refine wEq ?_ | refine wC H (hK := ?_) | (refine wLW H ?_; intro w1 H) | (refine wST H (hK := ?_); intro w1 H _) | refine mSlice_mk ?_ | refine mInt_mk ?_ | refine mBool_mk ?_ | refine mTup_mk ?_ | refine mCons_mk ?_ | refine mNil_mk ?_ | refine mAgg_mk ?_ | refine mPtr_mk ?_ | refine mStr_mk ?_)
  refine br (fun h => by simp at h) (fun _ => ?_)
  have hpn : pn = bs.length := by rw [hm3] at hpn; simpa using hpn
  subst hpn
  refine wLoop (fun k s w' => ∃ (i : Nat) (cs : List Value), k + i = bs.length ∧ s = (b, bs.length, c, some ⟨nb, 0, none⟩, (j : Int), ⟨q, 0, none⟩, (i : Int)) ∧ cs.length = bs.length ∧ isBytes cs ∧
    St w (fps []) w' [pt q (.cells #[.int .i64 0, .int .i64 1, .slice pa bs.length pc] 31), netO nb bm 2 9 0 l3, sliceO 5 1 (.slice pa bs.length pc) cs]) ?_ ?_
  · exact ⟨bs.length, 0, bvals bs, by omega, rfl, by simp, isBytes_bvals bs, H⟩
  clear H hread hmo hmv
  rintro k' s w1 ⟨i, cs, hk', rfl, hcl, hby, H⟩
  repeat (first | refine nn ?_ | refine wI H (hK := ?_) | refine wP H (hK := ?_) | refine wM H (hK := ?_) | refine wSl H (hK := ?_) | refine wB H (hK := ?_) | refine wS H (hK := ?_) | refine wEq ?_ | refine wC H (hK := ?_) | (refine wLW H ?_; intro w1 H) | (refine wST H (hK := ?_); intro w1 H _) | refine mSlice_mk ?_ | refine mInt_mk ?_ | refine mBool_mk ?_ | refine mTup_mk ?_ | refine mCons_mk ?_ | refine mNil_mk ?_ | refine mAgg_mk ?_ | refine mPtr_mk ?_ | refine mStr_mk ?_)
  refine br (fun h => ?_) (fun _ => ?_)
  · have hi : i < cs.length := by simp at h; omega
    repeat (first | refine nn ?_ | refine wI H (hK := ?_) | refine wP H (hK := ?_) | refine wM H (hK := ?_) | refine wSl H (hK := ?_) | refine wB H (hK := ?_) | refine wS H (hK := ?_) | refine wEq ?_ | refine wC H (hK := ?_) | (refine wLW H ?_; intro w1 H) | (refine wST H (hK := ?_); intro w1 H _) | refine mSlice_mk ?_ | refine mInt_mk ?_ | refine mBool_mk ?_ | refine mTup_mk ?_ | refine mCons_mk ?_ | refine mNil_mk ?_ | refine mAgg_mk ?_ | refine mPtr_mk ?_ | refine mStr_mk ?_)
    refine wIXe (H.has.all (sliceO 5 1 (.slice pa bs.length pc) cs) (by simp)) hi rfl fun ab hab hcell => ?_
    subst hab
    obtain ⟨x, hx⟩ := hby.get hi
    refine ldI (hcell.trans hx) ?_
    refine wIXe (H.has.all (sliceO 5 1 (.slice (some ⟨ab, 0, none⟩) bs.length pc) cs) (by simp)) hi rfl fun ab' hab' _ => ?_
    cases hab'
    refine wSTe H (hi := hi) (hK := fun w1 H => ?_)
    have hw : IntKind.wrap .i64 ((i : Int) + 1) = ((i + 1 : Nat) : Int) := by rw [wrap_id (by omega) (by omega)]; rfl
    show ∃ k'', k'' < k' ∧ _
    refine ⟨k' - 1, by omega, i + 1, _, by omega, ?_, by simpa using hcl, hby.set i _, H⟩
    rw [hw]
  · have hw : IntKind.wrap .i64 ((j : Int) + 1) = ((j + 1 : Nat) : Int) := by rw [wrap_id (by omega) (by omega)]; rfl
    show ∃ k'', k'' < k ∧ _
    refine ⟨k - 1, by omega, j + 1, l3, by omega, ?_, hnext, H.tail.left (L := [_])⟩
    rw [hw]
end
end Go.Proofs.Ytienifnpacoahaa
