/- Clear, Tick, Now. -/
import Derived.Test.YtienifnpacoahaaHO
import Derived.Test.YtienifnpacoahaaShMapsR
namespace Go.Proofs.Ytienifnpacoahaa
open Go.Sh
attribute [local irreducible] rRun LDI LDB LDS LDP LDSl LDM LD Go.Sh.ST AL ALM LetW CallR CallV CallI NN IX SIX Br Req mInt mBool mStr mPtr mSlice mMap mAgg mTup mCons mNil mNth mPA LoopS

section
variable {w0 w : World} {F : List Nat} {L R : List Own}
theorem Now_spec {nb bm : Nat} {nd bd now : Int} {l : Bags} (hA : Has w [netO nb bm nd bd now l]) :
    CallS Try.prog fn_net_Net_Now #[.pointer (some ⟨nb, 0, none⟩)] w [netO nb bm nd bd now l] fun r _ A => r = .int .i64 now ∧ A = [netO nb bm nd bd now l] := by
  refine CallS_intro hA fun H => net_Net_Now_sound _ _ _ ?_
  have H := H.netOpen
  repeat (first | refine nn ?_ | refine wI H (hK := ?_) | refine wP H (hK := ?_) | refine wM H (hK := ?_) | refine wSl H (hK := ?_) | refine wB H (hK := ?_) | refine wS H (hK := ?_) | refine wEq ?_ | refine wC H (hK := ?_) | (refine wLW H ?_; intro w1 H) | (refine wST H (hK := ?_); intro w1 H _) | refine mSlice_mk ?_ | refine mInt_mk ?_ | refine mBool_mk ?_ | refine mTup_mk ?_ | refine mCons_mk ?_ | refine mNil_mk ?_ | refine mAgg_mk ?_ | refine mPtr_mk ?_ | refine mStr_mk ?_)
  exact ⟨_, ⟨rfl, rfl⟩, H.netClose⟩
theorem Tick_spec {nb bm : Nat} {nd bd now : Int} {l : Bags} (hA : Has w [netO nb bm nd bd now l]) (hn : 0 ≤ now ∧ now ≤ 1000000000) :
    CallS Try.prog fn_net_Net_Tick #[.pointer (some ⟨nb, 0, none⟩)] w [netO nb bm nd bd now l] fun r _ A => r = .int .i64 (now + 1) ∧ A = [netO nb bm nd bd (now + 1) l] := by
  refine CallS_intro hA fun H => net_Net_Tick_sound _ _ _ ?_
  have H := H.netOpen
  repeat (first | refine nn ?_ | refine wI H (hK := ?_) | refine wP H (hK := ?_) | refine wM H (hK := ?_) | refine wSl H (hK := ?_) | refine wB H (hK := ?_) | refine wS H (hK := ?_) | refine wEq ?_ | refine wC H (hK := ?_) | (refine wLW H ?_; intro w1 H) | (refine wST H (hK := ?_); intro w1 H _) | refine mSlice_mk ?_ | refine mInt_mk ?_ | refine mBool_mk ?_ | refine mTup_mk ?_ | refine mCons_mk ?_ | refine mNil_mk ?_ | refine mAgg_mk ?_ | refine mPtr_mk ?_ | refine mStr_mk ?_)
  have hw : IntKind.wrap .i64 (now + 1) = now + 1 := wrap_id (by omega) (by omega)
  rw [hw] at H ⊢
  exact ⟨_, ⟨rfl, rfl⟩, H.netClose⟩

/-- What is left once a node is cleared. -/
def hits (nd : Int) (k : Int × Int) : Bool := k.1 == nd || k.2 == nd
def cleared (nd : Int) (l : Bags) : Bags := l.filter fun e => !hits nd e.1
theorem bags_nodup {bm : Nat} {l : Bags} (h : (bagsM bm l).holds w) : (l.map (·.1)).Nodup := by
  obtain ⟨es, _, _, h2, h3⟩ := h
  have h5 : (l.map fun e => (e.1, e.2.1)).map (·.1) = es.map (·.1) := by rw [← h2, List.map_map]; rfl
  rw [List.map_map] at h5
  have h4 := h3.keys
  rw [← h5] at h4
  exact h4
theorem bagsO_adel {l : Bags} (H : St w0 F w (bagsO l :: R)) (k : Int × Int) : St w0 F w (bagsO (adel l k) :: R) := (row_out H k).tail.tail

theorem Clear_spec {nb bm : Nat} {nd bd now node : Int} {l : Bags} (hA : Has w [netO nb bm nd bd now l]) :
    CallS Try.prog fn_net_Net_Clear #[.pointer (some ⟨nb, 0, none⟩), .int .i64 node] w [netO nb bm nd bd now l] fun r _ A => r = .tuple #[] ∧ A = [netO nb bm nd bd now (cleared node l)] := by
  refine CallS_intro hA fun H => net_Net_Clear_sound _ _ _ _ ?_
  have H := H.netOpen
  have hnd := bags_nodup (H.has.all (bagsM bm l) (by simp))
  refine nn ?_
  refine wM H (hK := ?_)
  refine range_own map_pair (i := 1) H rfl fun w1 r H _ => ?_
  refine wLoop (fun k s w' => ∃ (l' : Bags) (rest : List ((Int × Int) × Value)), k = rest.length ∧ s = (some ⟨nb, 0, none⟩, node, .pointer (some ⟨r, 0, none⟩)) ∧ (l'.map (·.1)).Nodup ∧ cleared node l' = cleared node l ∧
    (∀ e ∈ l', hits node e.1 = true → (aget rest e.1).isSome = true) ∧
    St w (fps [netO nb bm nd bd now l]) w' [netP nb bm nd bd now, rangeO pairV bm r (l'.map fun e => (e.1, e.2.1)) rest, bagsO l']) ?_ ?_
  · refine ⟨_, l, (l.map fun e : (Int × Int) × Row => (e.1, e.2.1)), rfl, rfl, hnd, rfl, fun e he _ => ?_, H⟩
    cases hg : aget (l.map fun e : (Int × Int) × Row => (e.1, e.2.1)) e.1 with
    | none => exact absurd rfl (aget_none.1 hg (e.1, e.2.1) (List.mem_map.2 ⟨e, he, rfl⟩))
    | some x => rfl
  clear H hnd
  rintro k s w1 ⟨l', rest, rfl, rfl, hnd, hcl, hrest, H⟩
  refine next_own (i := 1) H rfl (fun hnil w1 H _ => ?_) (fun k v hr hlk w1 H _ hent => ?_)
  · refine mTup_mk (mNth_mk rfl (mBool_mk (br (fun h => by cases h) (fun _ => ?_))))
    subst hnil
    have e : l' = cleared node l := by
      rw [← hcl]
      unfold cleared
      rw [List.filter_eq_self.2]
      intro x hx
      cases hh : hits node x.1 with
      | false => rfl
      | true => have := hrest x hx hh; simp [aget] at this
    subst e
    exact ⟨_, ⟨rfl, rfl⟩, (range_done H (i := 1) rfl).netClose⟩
  · refine mTup_mk (mNth_mk rfl (mBool_mk (br (fun _ => ?_) (fun h => by cases h))))
    refine rRun_intro hent (mTup_mk (mNth_mk rfl (mAgg_mk (mCons_mk (mInt_mk (mCons_mk (mInt_mk (mNil_mk ?_))))))))
    have hdl := adel_length hr
    refine wAL H fun p1 w2 H => ?_
    repeat (first | refine nn ?_ | refine wI H (hK := ?_) | refine wP H (hK := ?_) | refine wM H (hK := ?_) | refine wSl H (hK := ?_) | refine wB H (hK := ?_) | refine wS H (hK := ?_) | refine wEq ?_ | refine wC H (hK := ?_) | (refine wLW H ?_; intro w1 H) | (refine wST H (hK := ?_); intro w1 H _) | refine mSlice_mk ?_ | refine mInt_mk ?_ | refine mBool_mk ?_ | refine mTup_mk ?_ | refine mCons_mk ?_ | refine mNil_mk ?_ | refine mAgg_mk ?_ | refine mPtr_mk ?_ | refine mStr_mk ?_)
    have drop : hits node k = true → ∀ w', St w (fps [netO nb bm nd bd now l]) w' [pt p1 (.cells #[.int .i64 k.1, .int .i64 k.2] 52), netP nb bm nd bd now, rangeO pairV bm r (l'.map fun e => (e.1, e.2.1)) (adel rest k), bagsO l'] →
        rRun Try.prog (Builtin.delete_ #[47, 52] 0 #[(.map (some bm)), (.agg #[(.int .i64 k.1), (.int .i64 k.2)])]) w' fun sr w_7 => mTup sr fun l4 => mNil l4
          (∃ k', k' < rest.length ∧ ∃ (l' : Bags) (rest : List ((Int × Int) × Value)), k' = rest.length ∧ (some ⟨nb, 0, none⟩, node, Value.pointer (some ⟨r, 0, none⟩)) = ((some ⟨nb, 0, none⟩, node, .pointer (some ⟨r, 0, none⟩)) : (Option Addr) × Int × Value) ∧ (l'.map (·.1)).Nodup ∧ cleared node l' = cleared node l ∧
            (∀ e ∈ l', hits node e.1 = true → (aget rest e.1).isSome = true) ∧
            St w (fps [netO nb bm nd bd now l]) w_7 [netP nb bm nd bd now, rangeO pairV bm r (l'.map fun e => (e.1, e.2.1)) rest, bagsO l']) := by
      intro hh w' H
      refine delete_range map_pair (i := 2) H rfl k fun w3 H _ => ?_
      refine mTup_mk (mNil_mk ?_)
      rw [adel_map (fun r : Row => r.1)] at H
      have H := bagsO_adel (H.front (bagsO l')) k
      have H := (H.front (pt p1 (.cells #[.int .i64 k.1, .int .i64 k.2] 52))).tail
      refine ⟨_, ?_, adel l' k, adel (adel rest k) k, rfl, rfl, adel_keys_nodup k hnd, ?_, ?_, ?_⟩
      · have := (adel_sublist (adel rest k) k).length_le
        omega
      · rw [← hcl]
        exact adel_filter_key (p := fun k => !hits node k) (by rw [hh]; rfl)
      · intro e he heh
        obtain ⟨h1, h2⟩ := mem_adel_ne hnd he
        rw [aget_adel_other h2, aget_adel_other h2]
        exact hrest e h1 heh
      · exact H.perm (List.perm_append_comm (l₁ := [bagsO (adel l' k)]) (l₂ := [netP nb bm nd bd now, rangeO pairV bm r ((adel l' k).map fun e : (Int × Int) × Row => (e.1, e.2.1)) (adel (adel rest k) k)]))
    refine br (fun h1 => ?_) (fun h1 => ?_)
    · have hh : hits node k = true := by unfold hits; rw [h1]; rfl
      repeat (first | refine nn ?_ | refine wI H (hK := ?_) | refine wP H (hK := ?_) | refine wM H (hK := ?_) | refine wSl H (hK := ?_) | refine wB H (hK := ?_) | refine wS H (hK := ?_) | refine wEq ?_ | refine wC H (hK := ?_) | (refine wLW H ?_; intro w1 H) | (refine wST H (hK := ?_); intro w1 H _) | refine mSlice_mk ?_ | refine mInt_mk ?_ | refine mBool_mk ?_ | refine mTup_mk ?_ | refine mCons_mk ?_ | refine mNil_mk ?_ | refine mAgg_mk ?_ | refine mPtr_mk ?_ | refine mStr_mk ?_)
      exact drop hh _ H
    · refine wI H (hK := ?_)
      refine br (fun h2 => ?_) (fun h2 => ?_)
      · have hh : hits node k = true := by unfold hits; rw [h2, Bool.or_true]
        repeat (first | refine nn ?_ | refine wI H (hK := ?_) | refine wP H (hK := ?_) | refine wM H (hK := ?_) | refine wSl H (hK := ?_) | refine wB H (hK := ?_) | refine wS H (hK := ?_) | refine wEq ?_ | refine wC H (hK := ?_) | (refine wLW H ?_; intro w1 H) | (refine wST H (hK := ?_); intro w1 H _) | refine mSlice_mk ?_ | refine mInt_mk ?_ | refine mBool_mk ?_ | refine mTup_mk ?_ | refine mCons_mk ?_ | refine mNil_mk ?_ | refine mAgg_mk ?_ | refine mPtr_mk ?_ | refine mStr_mk ?_)
        exact drop hh _ H
      · have hh : hits node k = false := by unfold hits; rw [h1, h2]; rfl
        refine ⟨_, ?_, l', adel rest k, rfl, rfl, hnd, hcl, ?_, H.tail⟩
        · omega
        · intro e he heh
          have hne : e.1 ≠ k := fun hc => by rw [hc, hh] at heh; cases heh
          rw [aget_adel_other hne]
          exact hrest e he heh
end
end Go.Proofs.Ytienifnpacoahaa
