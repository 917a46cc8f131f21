/- What the bags hold, as lists of bytes; the known example. -/
import Derived.Test.YtienifnpacoahaaHH
import Derived.Test.YtienifnpacoahaaShLaws
namespace Go.Proofs.Ytienifnpacoahaa
open Go.Sh
attribute [local irreducible] rRun LDI LDB LDS LDP LDSl LDM LD Go.Sh.ST AL ALM LetW CallR CallV CallI NN IX SIX Br Req mInt mBool mStr mPtr mSlice mMap mAgg mTup mCons mNil mNth mPA LoopS

def cts (l : Bags) (k : Int × Int) : List (List UInt8) := (row l k).2.map (·.2)
theorem cts_len (l : Bags) (k : Int × Int) : (row l k).2.length = (cts l k).length := by simp [cts]
theorem cts_nil (k : Int × Int) : cts [] k = [] := rfl
theorem cts_get {l : Bags} {k : Int × Int} {i : Nat} {m : Msg} (h : (row l k).2[i]? = some m) : (cts l k)[i]? = some m.2 := by
  simp [cts, h]
theorem cts_small {l : Bags} {k : Int × Int} {n : Nat} (h : ∀ b ∈ cts l k, b.length ≤ n) : ∀ m ∈ (row l k).2, m.2.length ≤ n :=
  fun m hm => h m.2 (List.mem_map.2 ⟨m, hm, rfl⟩)
theorem cts_put (l : Bags) (k : Int × Int) (v m : Value) (bs : List UInt8) : cts (aput l k (v, (row l k).2 ++ [(m, bs)])) = fun j => if j = k then cts l k ++ [bs] else cts l j := by
  funext j
  by_cases h : j = k
  · subst h; simp [cts, row_aput]
  · simp [cts, h, row_aput_ne]
theorem cts_out {l : Bags} {k : Int × Int} {i : Nat} (v : Value) (h : (cts l k).eraseIdx i ≠ []) : cts (outB l k i v) = fun j => if j = k then (cts l k).eraseIdx i else cts l j := by
  have h2 : ((row l k).2.eraseIdx i).map (·.2) = (cts l k).eraseIdx i := (map_eraseIdx' _ _ _).symm
  have h1 : (row l k).2.eraseIdx i ≠ [] := fun hc => h (by rw [← h2, hc]; rfl)
  funext j
  simp only [outB, h1, if_false]
  by_cases hj : j = k
  · subst hj; simp only [cts, row_aput, if_true]; exact h2
  · simp [cts, hj, row_aput_ne]
theorem total_out {l : Bags} {k : Int × Int} {i : Nat} (v : Value) (h : i < (row l k).2.length) : total (outB l k i v) + 1 = total l := by
  unfold outB
  have h3 : ((row l k).2.eraseIdx i).length + 1 = (row l k).2.length := by rw [List.length_eraseIdx]; simp [h]; omega
  have h2 := total_adel l k
  split
  · rename_i hc
    rw [hc] at h3
    simp at h3
    omega
  · have h1 := total_aput l k (v, (row l k).2.eraseIdx i)
    simp only at h1
    omega
/-- Sending, on lists of bytes. -/
def stepA (nd bd f : Int) (bs : List UInt8) (s : ((Int × Int) → List (List UInt8)) × Nat) (t : Int) : ((Int × Int) → List (List UInt8)) × Nat :=
  if (0 ≤ f ∧ f < nd) ∧ (0 ≤ t ∧ t < nd) ∧ ((s.1 (f, t)).length : Int) < bd then (fun j => if j = (f, t) then s.1 (f, t) ++ [bs] else s.1 j, s.2 + 1) else s
theorem Sent.cts {nd bd f : Int} {bs : List UInt8} {l l' : Bags} {ts : List Int} {c : Nat} (h : Sent nd bd f bs l ts l' c) : (Proofs.Ytienifnpacoahaa.cts l', c) = ts.foldl (stepA nd bd f bs) (Proofs.Ytienifnpacoahaa.cts l, 0) := by
  induction h with
  | nil => rfl
  | lay v m _ hg ih =>
    rw [List.foldl_append, ← ih, List.foldl_cons, List.foldl_nil]
    unfold stepA
    simp only
    unfold goes at hg
    rw [← cts_len, if_pos hg, cts_put]
  | skip _ hg ih =>
    rw [List.foldl_append, ← ih, List.foldl_cons, List.foldl_nil]
    unfold stepA
    simp only
    unfold goes at hg
    rw [← cts_len, if_neg hg]
theorem Sent.total {nd bd f : Int} {bs : List UInt8} {l l' : Bags} {ts : List Int} {c : Nat} (h : Sent nd bd f bs l ts l' c) : Proofs.Ytienifnpacoahaa.total l' = Proofs.Ytienifnpacoahaa.total l + c := by
  induction h with
  | nil => rfl
  | @lay ts l1 c t v m _ _ ih =>
    have := total_aput l1 (f, t) (v, (row l1 (f, t)).2 ++ [(m, bs)])
    simp only [List.length_append, List.length_cons, List.length_nil] at this
    omega
  | skip _ _ ih => exact ih

section
variable {w0 w : World} {F : List Nat} {L R : List Own}
theorem ext_pt {A B : List Own} {b n m : Nat} {c : Array Value} {e : TypeId} {fz : Nat × Nat} {cs : List Value} (H : St w0 F w (A ++ B)) (hm : pt b (.cells c e fz) ∈ B) (hn : n = cs.length) (hnm : n ≤ m) (hc : c = ⟨cs⟩) :
    Ext w A 1 (.slice (some ⟨b, 0, none⟩) n m) cs := by
  refine ⟨⟨_, _, _, rfl, by omega, hnm, .inr ⟨_, rfl, fun j hj => ?_⟩⟩, fun x hx ha => ?_⟩
  · rw [Addr.add_mk, Nat.zero_add, cell_blk (H.has.all _ (List.mem_append_right _ hm))]
    rw [hc]; simp
  · have : x = b := by
      cases n with
      | zero => simp [sblk] at hx
      | succ n => simpa [sblk] using hx
    subst this
    exact H.has.apart ha (mem_fps.2 ⟨_, hm, by simp [pt]⟩)

theorem known_spec (w : World) : CallS Try.prog fn_glacierlaw3_known #[] w [] fun r _ A => r = .bool true ∧ A = [] := by
  refine CallS_intro (.nil w) fun H => glacierlaw3_known_sound _ _ ?_
  refine wCall H (fun _ => New_spec 3 2 w) (hK := ?_)
  rintro r w1 A' ⟨hr, _⟩ _ H
  obtain ⟨nb, bm, rfl, rfl⟩ := hr (by decide)
  repeat (first | refine nn ?_ | refine wI H (hK := ?_) | refine wP H (hK := ?_) | refine wM H (hK := ?_) | refine wSl H (hK := ?_) | refine wB H (hK := ?_) | refine wS H (hK := ?_) | refine wEq ?_ | refine wC H (hK := ?_) | (refine wLW H ?_; intro w1 H) | (refine wST H (hK := ?_); intro w1 H _) | refine mSlice_mk ?_ | refine mInt_mk ?_ | refine mBool_mk ?_ | refine mTup_mk ?_ | refine mCons_mk ?_ | refine mNil_mk ?_ | refine mAgg_mk ?_ | refine mPtr_mk ?_ | refine mStr_mk ?_)
  refine br (fun h => by simp at h) (fun _ => ?_)
  refine br (fun h => by simp at h) (fun _ => ?_)
  refine wALconv elem_bytes.under (by kernel_rfl) H fun b w1 H => ?_
  repeat (first | refine nn ?_ | refine wI H (hK := ?_) | refine wP H (hK := ?_) | refine wM H (hK := ?_) | refine wSl H (hK := ?_) | refine wB H (hK := ?_) | refine wS H (hK := ?_) | refine wEq ?_ | refine wC H (hK := ?_) | (refine wLW H ?_; intro w1 H) | (refine wST H (hK := ?_); intro w1 H _) | refine mSlice_mk ?_ | refine mInt_mk ?_ | refine mBool_mk ?_ | refine mTup_mk ?_ | refine mCons_mk ?_ | refine mNil_mk ?_ | refine mAgg_mk ?_ | refine mPtr_mk ?_ | refine mStr_mk ?_)
  refine wAL H fun b1 w1 H => ?_
  have H := H.front (netO nb bm 3 2 0 [])
  refine wCall H (fun hA => Send_spec (bs := [120]) (tos := [1, 2, 1, 1]) hA (by decide) (ext_pt (A := [_]) H (by simp; exact .inr rfl) rfl (by decide) rfl) (by decide) (ext_pt (A := [_]) H (by simp; exact .inl rfl) rfl (by decide) rfl) (by decide)) (hK := ?_)
  rintro r w1 A' ⟨l', c, hsent, rfl, rfl⟩ _ H
  have h1 := hsent.cts
  have h2 := hsent.total
  have hc : c = 3 := by
    have := congrArg Prod.snd h1
    simpa [stepA, cts_nil] using this
  have h01 : cts l' (0, 1) = [[120], [120]] := by
    have := congrFun (congrArg Prod.fst h1) (0, 1)
    simpa [stepA, cts_nil] using this
  subst hc
  have ht0 : total l' = 3 := h2
  repeat (first | refine nn ?_ | refine wI H (hK := ?_) | refine wP H (hK := ?_) | refine wM H (hK := ?_) | refine wSl H (hK := ?_) | refine wB H (hK := ?_) | refine wS H (hK := ?_) | refine wEq ?_ | refine wC H (hK := ?_) | (refine wLW H ?_; intro w1 H) | (refine wST H (hK := ?_); intro w1 H _) | refine mSlice_mk ?_ | refine mInt_mk ?_ | refine mBool_mk ?_ | refine mTup_mk ?_ | refine mCons_mk ?_ | refine mNil_mk ?_ | refine mAgg_mk ?_ | refine mPtr_mk ?_ | refine mStr_mk ?_)
  refine wCall H (fun hA => Deliver_spec hA (by rw [cts_len, h01]; decide)) (hK := ?_)
  rintro r w1 A' (⟨hnil, _⟩ | ⟨_, m, v, hm, rfl, rfl⟩) _ H
  · have := cts_len l' (0, 1)
    rw [hnil, h01] at this
    cases this
  rw [cts_len, h01] at hm H
  have hm2 := cts_get hm
  rw [h01] at hm2
  have hm3 : m.2 = [120] := (Option.some.inj hm2).symm
  have hout := cts_out (l := l') (k := (0, 1)) (i := pickI 5 [[120], [120]].length) v (by rw [h01]; decide)
  have htot := total_out (l := l') (k := (0, 1)) (i := pickI 5 [[120], [120]].length) v (by rw [cts_len, h01]; decide)
  generalize hl2 : outB l' (0, 1) (pickI 5 [[120], [120]].length) v = l2 at H hout htot
  have h01' : cts l2 (0, 1) = [[120]] := by rw [hout, h01]; rfl
  obtain ⟨ma, mn, mc, hmv, _⟩ := slice_of (H.has.all (msgO m) (by simp) : SliceAt w1 5 1 m.1 (bvals m.2))
  rw [hmv]
  repeat (first | refine nn ?_ | refine wI H (hK := ?_) | refine wP H (hK := ?_) | refine wM H (hK := ?_) | refine wSl H (hK := ?_) | refine wB H (hK := ?_) | refine wS H (hK := ?_) | refine wEq ?_ | refine wC H (hK := ?_) | (refine wLW H ?_; intro w1 H) | (refine wST H (hK := ?_); intro w1 H _) | refine mSlice_mk ?_ | refine mInt_mk ?_ | refine mBool_mk ?_ | refine mTup_mk ?_ | refine mCons_mk ?_ | refine mNil_mk ?_ | refine mAgg_mk ?_ | refine mPtr_mk ?_ | refine mStr_mk ?_)
  refine wAL H fun q1 w1 H => ?_
  repeat (first | refine nn ?_ | refine wI H (hK := ?_) | refine wP H (hK := ?_) | refine wM H (hK := ?_) | refine wSl H (hK := ?_) | refine wB H (hK := ?_) | refine wS H (hK := ?_) | refine wEq ?_ | refine wC H (hK := ?_) | (refine wLW H ?_; intro w1 H) | (refine wST H (hK := ?_); intro w1 H _) | refine mSlice_mk ?_ | refine mInt_mk ?_ | refine mBool_mk ?_ | refine mTup_mk ?_ | refine mCons_mk ?_ | refine mNil_mk ?_ | refine mAgg_mk ?_ | refine mPtr_mk ?_ | refine mStr_mk ?_)
  refine br (fun _ => ?_) (fun h => by simp at h)
  refine br (fun _ => ?_) (fun h => by simp at h)
  repeat (first | refine nn ?_ | refine wI H (hK := ?_) | refine wP H (hK := ?_) | refine wM H (hK := ?_) | refine wSl H (hK := ?_) | refine wB H (hK := ?_) | refine wS H (hK := ?_) | refine wEq ?_ | refine wC H (hK := ?_) | (refine wLW H ?_; intro w1 H) | (refine wST H (hK := ?_); intro w1 H _) | refine mSlice_mk ?_ | refine mInt_mk ?_ | refine mBool_mk ?_ | refine mTup_mk ?_ | refine mCons_mk ?_ | refine mNil_mk ?_ | refine mAgg_mk ?_ | refine mPtr_mk ?_ | refine mStr_mk ?_)
  have hread : SliceAt _ 5 1 m.1 (bvals m.2) := H.has.all (msgO m) (by simp)
  rw [hmv, hm3] at hread
  refine wConvS hread.reads elem_bytes.under (by kernel_rfl) (by kernel_rfl) ?_
  repeat (first | refine nn ?_ | refine wI H (hK := ?_) | refine wP H (hK := ?_) | refine wM H (hK := ?_) | refine wSl H (hK := ?_) | refine wB H (hK := ?_) | refine wS H (hK := ?_) | refine wEq ?_ | refine wC H (hK := ?_) | (refine wLW H ?_; intro w1 H) | (refine wST H (hK := ?_); intro w1 H _) | refine mSlice_mk ?_ | refine mInt_mk ?_ | refine mBool_mk ?_ | refine mTup_mk ?_ | refine mCons_mk ?_ | refine mNil_mk ?_ | refine mAgg_mk ?_ | refine mPtr_mk ?_ | refine mStr_mk ?_)
  refine br (fun _ => ?_) (fun h => by simp at h)
  refine wCall H (fun hA => Double_spec hA (by rw [cts_len, h01']; decide) (cts_small (by rw [h01']; decide))) (hK := ?_)
  rintro r w1 A' (⟨hc, _⟩ | ⟨_, _, m2, v2, m2', hm2, rfl, rfl⟩) _ H
  · rw [cts_len, h01'] at hc
    rcases hc with hc | hc
    · have := cts_len l2 (0, 1)
      rw [hc, h01'] at this
      cases this
    · cases hc
  have hput := cts_put l2 (0, 1) v2 m2' m2.2
  have htot2 := total_aput l2 (0, 1) (v2, (row l2 (0, 1)).2 ++ [(m2', m2.2)])
  simp only [List.length_append, List.length_cons, List.length_nil] at htot2
  generalize hl3 : aput l2 (0, 1) (v2, (row l2 (0, 1)).2 ++ [(m2', m2.2)]) = l3 at H hput htot2
  have hm4 := cts_get hm2
  rw [cts_len, h01'] at hm4
  have hm5 : m2.2 = [120] := (Option.some.inj hm4).symm
  have h01'' : cts l3 (0, 1) = [[120], [120]] := by rw [hput, h01', hm5]; rfl
  repeat (first | refine nn ?_ | refine wI H (hK := ?_) | refine wP H (hK := ?_) | refine wM H (hK := ?_) | refine wSl H (hK := ?_) | refine wB H (hK := ?_) | refine wS H (hK := ?_) | refine wEq ?_ | refine wC H (hK := ?_) | (refine wLW H ?_; intro w1 H) | (refine wST H (hK := ?_); intro w1 H _) | refine mSlice_mk ?_ | refine mInt_mk ?_ | refine mBool_mk ?_ | refine mTup_mk ?_ | refine mCons_mk ?_ | refine mNil_mk ?_ | refine mAgg_mk ?_ | refine mPtr_mk ?_ | refine mStr_mk ?_)
  refine br (fun _ => ?_) (fun h => by simp at h)
  refine wCall H (fun hA => Double_spec hA (by rw [cts_len, h01'']; decide) (cts_small (by rw [h01'']; decide))) (hK := ?_)
  rintro r w1 A' (⟨_, rfl, rfl⟩ | ⟨_, hne, _⟩) _ H
  · repeat (first | refine nn ?_ | refine wI H (hK := ?_) | refine wP H (hK := ?_) | refine wM H (hK := ?_) | refine wSl H (hK := ?_) | refine wB H (hK := ?_) | refine wS H (hK := ?_) | refine wEq ?_ | refine wC H (hK := ?_) | (refine wLW H ?_; intro w1 H) | (refine wST H (hK := ?_); intro w1 H _) | refine mSlice_mk ?_ | refine mInt_mk ?_ | refine mBool_mk ?_ | refine mTup_mk ?_ | refine mCons_mk ?_ | refine mNil_mk ?_ | refine mAgg_mk ?_ | refine mPtr_mk ?_ | refine mStr_mk ?_)
    refine br (fun _ => ?_) (fun h => by simp at h)
    refine wCall H (fun hA => All_spec (l := l3) hA (by omega)) (hK := ?_)
    rintro r w1 A' ⟨rfl, rfl⟩ _ H
    repeat (first | refine nn ?_ | refine wI H (hK := ?_) | refine wP H (hK := ?_) | refine wM H (hK := ?_) | refine wSl H (hK := ?_) | refine wB H (hK := ?_) | refine wS H (hK := ?_) | refine wEq ?_ | refine wC H (hK := ?_) | (refine wLW H ?_; intro w1 H) | (refine wST H (hK := ?_); intro w1 H _) | refine mSlice_mk ?_ | refine mInt_mk ?_ | refine mBool_mk ?_ | refine mTup_mk ?_ | refine mCons_mk ?_ | refine mNil_mk ?_ | refine mAgg_mk ?_ | refine mPtr_mk ?_ | refine mStr_mk ?_)
    have ht3 : total l3 = 3 := by omega
    rw [ht3]
    exact ⟨[], ⟨rfl, rfl⟩, Sh.St.left (L := []) H⟩
  · rw [cts_len, h01''] at hne
    exact absurd rfl hne
end
end Go.Proofs.Ytienifnpacoahaa
