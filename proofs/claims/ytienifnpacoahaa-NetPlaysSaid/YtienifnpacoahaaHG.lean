/- Send. -/
import Derived.Test.YtienifnpacoahaaHF
namespace Go.Proofs.Ytienifnpacoahaa
open Go.Sh
attribute [local irreducible] rRun LDI LDB LDS LDP LDSl LDM LD Go.Sh.ST AL ALM LetW CallR CallV CallI NN IX SIX Br Req mInt mBool mStr mPtr mSlice mMap mAgg mTup mCons mNil mNth mPA LoopS

section
variable {w0 w : World} {F : List Nat} {L R : List Own}
/-- Whether a message goes into a link's bag. -/
def goes (nd bd f : Int) (l : Bags) (t : Int) : Prop := (0 ≤ f ∧ f < nd) ∧ (0 ≤ t ∧ t < nd) ∧ ((row l (f, t)).2.length : Int) < bd
inductive Sent (nd bd f : Int) (bs : List UInt8) (l : Bags) : List Int → Bags → Nat → Prop
  | nil : Sent nd bd f bs l [] l 0
  | lay {ts : List Int} {l1 : Bags} {c : Nat} {t : Int} (v m : Value) : Sent nd bd f bs l ts l1 c → goes nd bd f l1 t → Sent nd bd f bs l (ts ++ [t]) (aput l1 (f, t) (v, (row l1 (f, t)).2 ++ [(m, bs)])) (c + 1)
  | skip {ts : List Int} {l1 : Bags} {c : Nat} {t : Int} : Sent nd bd f bs l ts l1 c → ¬ goes nd bd f l1 t → Sent nd bd f bs l (ts ++ [t]) l1 c
theorem Sent.le {nd bd f : Int} {bs : List UInt8} {l l1 : Bags} {ts : List Int} {c : Nat} (h : Sent nd bd f bs l ts l1 c) : c ≤ ts.length := by
  induction h with
  | nil => exact Nat.le_refl _
  | lay _ _ _ _ ih => simp; exact ih
  | skip _ _ ih => simp; omega
def ints (l : List Int) : List Value := l.map fun x => .int .i64 x

theorem Send_spec {nb bm : Nat} {nd bd now f : Int} {l : Bags} {b tb : Option Addr} {bn bc tn tc : Nat} {bs : List UInt8} {tos : List Int} (hA : Has w [netO nb bm nd bd now l]) (hbd : bd ≤ 65536)
    (hb : Ext w [netO nb bm nd bd now l] 1 (.slice b bn bc) (bvals bs)) (hbs : bs.length ≤ 1000000) (ht : Ext w [netO nb bm nd bd now l] 1 (.slice tb tn tc) (ints tos)) (htn : tos.length ≤ 1000000) :
    CallS Try.prog fn_net_Net_Send #[.pointer (some ⟨nb, 0, none⟩), .int .i64 f, .slice b bn bc, .slice tb tn tc] w [netO nb bm nd bd now l] fun r _ A =>
      ∃ l' c, Sent nd bd f bs l tos l' c ∧ r = .int .i64 c ∧ A = [netO nb bm nd bd now l'] := by
  refine CallS_intro hA fun H => net_Net_Send_sound _ _ _ _ _ _ _ _ _ _ ?_
  have htl : tn = tos.length := by
    obtain ⟨_, _, _, he, h1, _⟩ := ht.1
    cases he
    simpa [ints] using h1
  subst htl
  refine wAL H fun n1 w1 H => ?_
  refine wLoop (fun k s w' => ∃ (i c : Nat) (l1 : Bags), k + i = tos.length ∧ s = (f, b, bn, bc, ⟨n1, 0, none⟩, (c : Int), .func (.func fn_net_Net_Send_1) #[] #[.pointer (some ⟨n1, 0, none⟩)], tb, tos.length, tc, (tos.length : Int), (i : Int)) ∧
    Sent nd bd f bs l (tos.take i) l1 c ∧ St w (fps [netO nb bm nd bd now l]) w' [pt n1 (.cells #[.pointer (some ⟨nb, 0, none⟩)] 24), netO nb bm nd bd now l1]) ?_ ?_
  · exact ⟨tos.length, 0, 0, l, by omega, rfl, by simpa using Sent.nil, H⟩
  rintro k s w1 ⟨i, c, l1, hk, rfl, hsent, H⟩
  refine br (fun h => ?_) (fun h => ?_)
  · have hi : i < tos.length := by simpa using h
    have hfr : ∀ {w' : World} {L : List Own}, St w (fps [netO nb bm nd bd now l]) w' L → Fr (fps [netO nb bm nd bd now l]) w w' := fun H => H.fr
    have htk : tos.take (i + 1) = tos.take i ++ [tos[i]] := (List.take_append_getElem hi).symm
    have hle := hsent.le
    rw [List.length_take] at hle
    have hwi : IntKind.wrap .i64 ((i : Int) + 1) = ((i + 1 : Nat) : Int) := by rw [wrap_id (by omega) (by omega)]; rfl
    have hwc : IntKind.wrap .i64 ((c : Int) + 1) = ((c + 1 : Nat) : Int) := by rw [wrap_id (by omega) (by omega)]; rfl
    refine wIXr (ht.reads (by decide) (hfr H)) (i := i) (by simpa [ints] using hi) rfl fun ad had => ?_
    have hcell : (ints tos)[i]? = some (.int .i64 tos[i]) := by simp [ints, hi]
    rw [hcell] at had
    refine ldI had ?_
    have H := (H.front (netO nb bm nd bd now l1)).netOpen
    refine wAL H fun p w1 H => ?_
    repeat (first | refine nn ?_ | refine wI H (hK := ?_) | refine wP H (hK := ?_) | refine wM H (hK := ?_) | refine wSl H (hK := ?_) | refine wB H (hK := ?_) | refine wS H (hK := ?_) | refine wEq ?_ | refine wC H (hK := ?_) | (refine wLW H ?_; intro w1 H) | (refine wST H (hK := ?_); intro w1 H _) | refine mSlice_mk ?_ | refine mInt_mk ?_ | refine mBool_mk ?_ | refine mTup_mk ?_ | refine mCons_mk ?_ | refine mNil_mk ?_ | refine mAgg_mk ?_ | refine mPtr_mk ?_ | refine mStr_mk ?_)
    refine node_walk (nb := nb) (bm := bm) (nd := nd) (bd := bd) (now := now) (n1 := n1) H ?_ (by simp) (by simp)
    repeat (first | refine nn ?_ | refine wI H (hK := ?_) | refine wP H (hK := ?_) | refine wM H (hK := ?_) | refine wSl H (hK := ?_) | refine wB H (hK := ?_) | refine wS H (hK := ?_) | refine wEq ?_ | refine wC H (hK := ?_) | (refine wLW H ?_; intro w1 H) | (refine wST H (hK := ?_); intro w1 H _) | refine mSlice_mk ?_ | refine mInt_mk ?_ | refine mBool_mk ?_ | refine mTup_mk ?_ | refine mCons_mk ?_ | refine mNil_mk ?_ | refine mAgg_mk ?_ | refine mPtr_mk ?_ | refine mStr_mk ?_)
    refine br (fun h1 => ?_) (fun h1 => ?_)
    · refine node_walk (nb := nb) (bm := bm) (nd := nd) (bd := bd) (now := now) (n1 := n1) H ?_ (by simp) (by simp)
      repeat (first | refine nn ?_ | refine wI H (hK := ?_) | refine wP H (hK := ?_) | refine wM H (hK := ?_) | refine wSl H (hK := ?_) | refine wB H (hK := ?_) | refine wS H (hK := ?_) | refine wEq ?_ | refine wC H (hK := ?_) | (refine wLW H ?_; intro w1 H) | (refine wST H (hK := ?_); intro w1 H _) | refine mSlice_mk ?_ | refine mInt_mk ?_ | refine mBool_mk ?_ | refine mTup_mk ?_ | refine mCons_mk ?_ | refine mNil_mk ?_ | refine mAgg_mk ?_ | refine mPtr_mk ?_ | refine mStr_mk ?_)
      refine br (fun h2 => ?_) (fun h2 => ?_)
      · repeat (first | refine nn ?_ | refine wI H (hK := ?_) | refine wP H (hK := ?_) | refine wM H (hK := ?_) | refine wSl H (hK := ?_) | refine wB H (hK := ?_) | refine wS H (hK := ?_) | refine wEq ?_ | refine wC H (hK := ?_) | (refine wLW H ?_; intro w1 H) | (refine wST H (hK := ?_); intro w1 H _) | refine mSlice_mk ?_ | refine mInt_mk ?_ | refine mBool_mk ?_ | refine mTup_mk ?_ | refine mCons_mk ?_ | refine mNil_mk ?_ | refine mAgg_mk ?_ | refine mPtr_mk ?_ | refine mStr_mk ?_)
        refine wLookup H (hK := fun a' n' c' e1 e2 e3 => ?_)
        subst e2
        repeat (first | refine nn ?_ | refine wI H (hK := ?_) | refine wP H (hK := ?_) | refine wM H (hK := ?_) | refine wSl H (hK := ?_) | refine wB H (hK := ?_) | refine wS H (hK := ?_) | refine wEq ?_ | refine wC H (hK := ?_) | (refine wLW H ?_; intro w1 H) | (refine wST H (hK := ?_); intro w1 H _) | refine mSlice_mk ?_ | refine mInt_mk ?_ | refine mBool_mk ?_ | refine mTup_mk ?_ | refine mCons_mk ?_ | refine mNil_mk ?_ | refine mAgg_mk ?_ | refine mPtr_mk ?_ | refine mStr_mk ?_)
        refine br (fun h3 => ?_) (fun h3 => ?_)
        · have hg : goes nd bd f l1 tos[i] := ⟨by simpa using h1, by simpa using h2, by simpa using h3⟩
          have hlen : (row l1 (f, tos[i])).2.length ≤ 65536 := by have := hg.2.2; omega
          repeat (first | refine nn ?_ | refine wI H (hK := ?_) | refine wP H (hK := ?_) | refine wM H (hK := ?_) | refine wSl H (hK := ?_) | refine wB H (hK := ?_) | refine wS H (hK := ?_) | refine wEq ?_ | refine wC H (hK := ?_) | (refine wLW H ?_; intro w1 H) | (refine wST H (hK := ?_); intro w1 H _) | refine mSlice_mk ?_ | refine mInt_mk ?_ | refine mBool_mk ?_ | refine mTup_mk ?_ | refine mCons_mk ?_ | refine mNil_mk ?_ | refine mAgg_mk ?_ | refine mPtr_mk ?_ | refine mStr_mk ?_)
          refine wCall H (fun _ => Clone_spec (hb.reads (by decide) (hfr H)) hbs) (hK := ?_)
          rintro r w1 A' ⟨rfl, a2, n2, c2, rfl⟩ _ H
          repeat (first | refine nn ?_ | refine wI H (hK := ?_) | refine wP H (hK := ?_) | refine wM H (hK := ?_) | refine wSl H (hK := ?_) | refine wB H (hK := ?_) | refine wS H (hK := ?_) | refine wEq ?_ | refine wC H (hK := ?_) | (refine wLW H ?_; intro w1 H) | (refine wST H (hK := ?_); intro w1 H _) | refine mSlice_mk ?_ | refine mInt_mk ?_ | refine mBool_mk ?_ | refine mTup_mk ?_ | refine mCons_mk ?_ | refine mNil_mk ?_ | refine mAgg_mk ?_ | refine mPtr_mk ?_ | refine mStr_mk ?_)
          refine wAL H fun b4 w1 H => ?_
          repeat (first | refine nn ?_ | refine wI H (hK := ?_) | refine wP H (hK := ?_) | refine wM H (hK := ?_) | refine wSl H (hK := ?_) | refine wB H (hK := ?_) | refine wS H (hK := ?_) | refine wEq ?_ | refine wC H (hK := ?_) | (refine wLW H ?_; intro w1 H) | (refine wST H (hK := ?_); intro w1 H _) | refine mSlice_mk ?_ | refine mInt_mk ?_ | refine mBool_mk ?_ | refine mTup_mk ?_ | refine mCons_mk ?_ | refine mNil_mk ?_ | refine mAgg_mk ?_ | refine mPtr_mk ?_ | refine mStr_mk ?_)
          refine push_row (K := fun w => _) (((H.front (bagsO l1)).front (bagsM bm l1)).front (sliceO 5 1 (.slice a2 n2 c2) (bvals bs)) |>.front (pt b4 (.cells #[.slice a2 n2 c2] 22))) hlen fun w1 v' m' H => ?_
          have H := (H.front (pt nb (.cells #[.int .i64 nd, .int .i64 bd, .int .i64 now, .map (some bm)] 49))).netClose
          have H := H.front (pt n1 (.cells #[.pointer (some ⟨nb, 0, none⟩)] 24))
          rw [hwi, hwc]
          exact ⟨k - 1, by omega, i + 1, c + 1, _, by omega, rfl, htk ▸ hsent.lay v' m' hg, H.left (L := [_, _])⟩
        · have hg : ¬ goes nd bd f l1 tos[i] := fun hg => by have := hg.2.2; simp at h3; omega
          have H := (H.tail.netClose).front (pt n1 (.cells #[.pointer (some ⟨nb, 0, none⟩)] 24))
          rw [hwi]
          exact ⟨k - 1, by omega, i + 1, c, _, by omega, rfl, htk ▸ hsent.skip hg, H⟩
      · have hg : ¬ goes nd bd f l1 tos[i] := fun hg => by have := hg.2.1; simp at h2; omega
        have H := (H.tail.netClose).front (pt n1 (.cells #[.pointer (some ⟨nb, 0, none⟩)] 24))
        rw [hwi]
        exact ⟨k - 1, by omega, i + 1, c, _, by omega, rfl, htk ▸ hsent.skip hg, H⟩
    · have hg : ¬ goes nd bd f l1 tos[i] := fun hg => by have := hg.1; simp at h1; omega
      have H := (H.tail.netClose).front (pt n1 (.cells #[.pointer (some ⟨nb, 0, none⟩)] 24))
      rw [hwi]
      exact ⟨k - 1, by omega, i + 1, c, _, by omega, rfl, htk ▸ hsent.skip hg, H⟩
  · have hi : tos.length ≤ i := by simpa using h
    rw [List.take_of_length_le hi] at hsent
    exact ⟨_, ⟨l1, c, hsent, rfl, rfl⟩, H.tail⟩
end
end Go.Proofs.Ytienifnpacoahaa
