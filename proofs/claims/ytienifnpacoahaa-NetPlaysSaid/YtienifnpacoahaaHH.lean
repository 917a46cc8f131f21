/- All. -/
import Derived.Test.YtienifnpacoahaaHG
namespace Go.Proofs.Ytienifnpacoahaa
open Go.Sh
attribute [local irreducible] rRun LDI LDB LDS LDP LDSl LDM LD Go.Sh.ST AL ALM LetW CallR CallV CallI NN IX SIX Br Req mInt mBool mStr mPtr mSlice mMap mAgg mTup mCons mNil mNth mPA LoopS

section
variable {w0 w : World} {F : List Nat} {L R : List Own}
def total (l : Bags) : Nat := (l.map fun e => e.2.2.length).sum
theorem row_aput (l : Bags) (k : Int × Int) (x : Row) : row (aput l k x) k = x := by
  unfold row; rw [aget_aput]; rfl
theorem row_aput_ne (l : Bags) {k j : Int × Int} (x : Row) (h : j ≠ k) : row (aput l k x) j = row l j := by
  unfold row; rw [aget_aput_ne l x h]
theorem total_adel (l : Bags) (k : Int × Int) : total (adel l k) + (row l k).2.length = total l := by
  unfold row
  cases hg : aget l k with
  | none => rw [adel_none hg]; rfl
  | some r =>
    have := (perm_aget (fun e : (Int × Int) × Row => e.2.2.length) hg).sum_nat
    simp only [List.sum_cons] at this
    unfold total
    rw [this]
    exact Nat.add_comm _ _
theorem total_aput (l : Bags) (k : Int × Int) (x : Row) : total (aput l k x) + (row l k).2.length = total l + x.2.length := by
  have h := (perm_aput (fun e : (Int × Int) × Row => e.2.2.length) l k x).sum_nat
  simp only [List.sum_cons] at h
  have h2 := total_adel l k
  unfold total at h2 ⊢
  rw [h]
  omega
def vlen : Value → Nat
  | .slice _ n _ => n
  | _ => 0
def vsum (l : List ((Int × Int) × Value)) : Nat := (l.map fun e => vlen e.2).sum
theorem vsum_adel {l : List ((Int × Int) × Value)} {k : Int × Int} {v : Value} (h : aget l k = some v) : vsum (adel l k) + vlen v = vsum l := by
  have := (perm_aget (fun e : (Int × Int) × Value => vlen e.2) h).sum_nat
  simp only [List.sum_cons] at this
  unfold vsum
  rw [this]
  exact Nat.add_comm _ _
theorem adel_length {β : Type} {l : List ((Int × Int) × β)} {k : Int × Int} {v : β} (h : aget l k = some v) : (adel l k).length + 1 = l.length := by
  have := (perm_aget (fun e : (Int × Int) × β => e) h).length_eq
  simpa using this.symm
/-- What all bags hold is what their slices' heads tell. -/
theorem bags_sum {w : World} {l : Bags} (h : (bagsO l).holds w) : vsum (l.map fun e => (e.1, e.2.1)) = total l := by
  unfold vsum total
  rw [List.map_map]
  congr 1
  apply List.map_congr_left
  intro e he
  have h3 : (rowO e.2).holds w := h _ (List.mem_map.2 ⟨e, he, rfl⟩)
  have h4 : SliceAt w 22 1 e.2.1 (e.2.2.map (·.1)) := h3 _ (List.mem_cons_self ..)
  obtain ⟨a, n, c, h5, h6, _⟩ := slice_of h4
  simp only [Function.comp_apply]
  rw [h5]
  simpa [vlen] using h6

theorem All_spec {nb bm : Nat} {nd bd now : Int} {l : Bags} (hA : Has w [netO nb bm nd bd now l]) (ht : total l ≤ 1000000000) :
    CallS Try.prog fn_net_Net_All #[.pointer (some ⟨nb, 0, none⟩)] w [netO nb bm nd bd now l] fun r _ A => r = .int .i64 (total l) ∧ A = [netO nb bm nd bd now l] := by
  refine CallS_intro hA fun H => net_Net_All_sound _ _ _ ?_
  have H := H.netOpen
  refine nn ?_
  refine wM H (hK := ?_)
  have hsum := bags_sum (H.has.all (bagsO l) (by simp))
  refine range_own map_pair (i := 1) H rfl fun w1 r H _ => ?_
  refine wLoop (fun k s w' => ∃ (n : Nat) (rest : List ((Int × Int) × Value)), k = rest.length ∧ s = ((n : Int), .pointer (some ⟨r, 0, none⟩)) ∧ n + vsum rest = total l ∧
    St w (fps [netO nb bm nd bd now l]) w' [pt nb (.cells #[.int .i64 nd, .int .i64 bd, .int .i64 now, .map (some bm)] 49), rangeO pairV bm r (l.map fun e => (e.1, e.2.1)) rest, bagsO l]) ?_ ?_
  · exact ⟨_, 0, (l.map fun e : (Int × Int) × Row => (e.1, e.2.1) : List ((Int × Int) × Value)), rfl, rfl, by rw [hsum]; simp, H⟩
  rintro k s w1 ⟨n, rest, rfl, rfl, hn, H⟩
  refine next_own (i := 1) H rfl (fun hnil w1 H _ => ?_) (fun k v hr hl w1 H _ hent => ?_)
  · refine mTup_mk (mNth_mk rfl (mBool_mk (br (fun h => by cases h) (fun _ => ?_))))
    subst hnil
    have hn' : n = total l := by simpa [vsum] using hn
    subst hn'
    exact ⟨_, ⟨rfl, rfl⟩, (range_done H (i := 1) rfl).netClose⟩
  · refine mTup_mk (mNth_mk rfl (mBool_mk (br (fun _ => ?_) (fun h => by cases h))))
    refine rRun_intro hent (mTup_mk (mNth_mk rfl ?_))
    rw [aget_map (fun r : Row => r.1)] at hl
    cases hg : aget l k with
    | none => rw [hg] at hl; cases hl
    | some x =>
      rw [hg] at hl
      simp only [Option.map_some, Option.some.injEq] at hl
      have hrow := row_slice H (l := l) (by simp) k
      unfold row at hrow
      rw [hg] at hrow
      obtain ⟨a, m, c, h1, h2, h3⟩ := hrow
      simp only [Option.getD_some] at h1 h2
      rw [hl] at h1
      subst h1
      refine mSlice_mk ?_
      have hv := vsum_adel hr
      simp only [vlen] at hv
      have hw : IntKind.wrap .i64 ((n : Int) + (m : Int)) = ((n + m : Nat) : Int) := by rw [wrap_id (by omega) (by omega)]; rfl
      rw [hw]
      exact ⟨_, by have := adel_length hr; omega, n + m, adel rest k, rfl, rfl, by omega, H⟩
end
end Go.Proofs.Ytienifnpacoahaa
