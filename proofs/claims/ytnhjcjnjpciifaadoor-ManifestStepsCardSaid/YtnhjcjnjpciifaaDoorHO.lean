/- ManifestSteps: all of it. -/
import Derived.Test.YtnhjcjnjpciifaaDoorHK
import Derived.Test.YtnhjcjnjpciifaaDoorHN
namespace Go.Proofs.YtnhjcjnjpciifaaDoor
open Go.Sh
attribute [local irreducible] rRun LDI LDB LDS LDP LDSl LDM LD Go.Sh.ST AL ALM LetW CallR CallV CallI NN IX SIX Br Req mInt mBool mStr mPtr mSlice mMap mAgg mTup mCons mNil mNth mPA LoopS
attribute [local irreducible] glacierlaw8_ManifestSteps_b5
section
variable {w : World} {b : Option Addr} {n c : Nat}
set_option maxHeartbeats 4000000 in
theorem steps_4 {w1 : World} {RR : Value → World → Prop} {taken : List EditR} {p : Nat} {v : Ver} {ta ka : Option Addr} {tn tc kn kc : Nat} (hv : OkV v) (hvl : v.l.length ≤ 1000) (hkl : taken.length ≤ 100)
    (hok : ∀ y ∈ taken, y.ok w ∧ y.e.add.length ≤ 1000 ∧ y.e.drop.length ≤ 1000) (happ : appliesP zeroV (taken.map (·.e)) = (v, 0))
    (H : St w [] w1 [verO p (.slice ta tn tc) v, tabsO (.slice ta tn tc) v.l, edsO (.slice ka kn kc) taken]) (hend : ∀ w' L, St w [] w' L → RR (.bool true) w') :
    glacierlaw8_ManifestSteps_b4 ⟨p, 0, none⟩ ka kn kc RR w1 := by
  refine Apply_walk (v := zeroV) (es := taken) OkV.zero (by decide) hkl (fun y hy => (hok y hy).2) (fun _ _ _ => no_tabs) (fun w' N H => edits_reads ((H.right).get (i := 2) rfl : SliceAt w' 31 5 (.slice ka kn kc) _).reads fun y hy => EditR.keep (hok y hy).1 H.fr) H (fun h => ?_) fun _ w2 ya yn yc H => ?_
  · rw [happ] at h; exact absurd rfl h
  rw [happ] at H ⊢
  refine mTup_mk (mCons_mk (mAgg_mk (mCons_mk (mSlice_mk (mCons_mk (mInt_mk (mCons_mk (mInt_mk (mCons_mk (mInt_mk (mNil_mk (mCons_mk (mInt_mk (mNil_mk ?_))))))))))))))
  refine wAL H fun y w3 H => ?_
  repeat (first | refine nn ?_ | refine wI H (hK := ?_) | refine wP H (hK := ?_) | refine wM H (hK := ?_) | refine wSl H (hK := ?_) | refine wB H (hK := ?_) | refine wS H (hK := ?_) | refine wEq ?_ | refine wC H (hK := ?_) | (refine wLW H ?_; intro w1 H) | (refine wST H (hK := ?_); intro w1 H _) | refine mSlice_mk ?_ | refine mInt_mk ?_ | refine mBool_mk ?_ | refine mTup_mk ?_ | refine mCons_mk ?_ | refine mNil_mk ?_ | refine mAgg_mk ?_ | refine mPtr_mk ?_ | refine mStr_mk ?_)
  refine br (fun h => by simp at h) (fun _ => ?_)
  repeat (first | refine nn ?_ | refine wI H (hK := ?_) | refine wP H (hK := ?_) | refine wM H (hK := ?_) | refine wSl H (hK := ?_) | refine wB H (hK := ?_) | refine wS H (hK := ?_) | refine wEq ?_ | refine wC H (hK := ?_) | (refine wLW H ?_; intro w1 H) | (refine wST H (hK := ?_); intro w1 H _) | refine mSlice_mk ?_ | refine mInt_mk ?_ | refine mBool_mk ?_ | refine mTup_mk ?_ | refine mCons_mk ?_ | refine mNil_mk ?_ | refine mAgg_mk ?_ | refine mPtr_mk ?_ | refine mStr_mk ?_)
  refine SameVersion_walk (v := v) (by omega) H (fun w' N H => ((H.right).get (i := 3) rfl : SliceAt w' 38 5 (.slice ta tn tc) _).reads) (fun w' N H => ((H.right).get (i := 1) rfl : SliceAt w' 38 5 (.slice ya yn yc) _).reads) fun w4 H => mBool_mk ?_
  refine br (fun h => by cases h) (fun _ => ?_)
  have H : St w [] w4 [verO p (.slice ta tn tc) v, tabsO (.slice ta tn tc) v.l] := (((H.front (tabsO (.slice ta tn tc) v.l)).front (verO p (.slice ta tn tc) v)).left (L := [_, _]))
  have hn := tabs_len (H.get (i := 1) rfl : SliceAt w4 38 5 (.slice ta tn tc) _).reads
  subst hn
  refine wLoop (fun k s w' => ∃ i : Nat, k + i = v.l.length + 1 ∧ s = (⟨p, 0, none⟩, ((i : Nat) : Int)) ∧ 1 ≤ i ∧ St w [] w' [verO p (.slice ta v.l.length tc) v, tabsO (.slice ta v.l.length tc) v.l]) ⟨v.l.length, 1, by omega, rfl, by omega, H⟩ ?_
  clear H
  rintro k s w5 ⟨i, hk, rfl, hi1, H⟩
  refine wSl H (b := p) (j := 0) (hK := ?_)
  refine br (fun h => ?_) (fun h => hend _ _ H)
  have hi : i < v.l.length := by simp at h; omega
  obtain ⟨t, ht⟩ : ∃ t, v.l[i]? = some t := ⟨_, List.getElem?_eq_getElem hi⟩
  obtain ⟨u, hu⟩ : ∃ u, v.l[i - 1]? = some u := ⟨_, List.getElem?_eq_getElem (by omega)⟩
  have hwi : IntKind.wrap .i64 ((i : Int) + 1) = ((i + 1 : Nat) : Int) := by rw [wrap_id (by omega) (by omega)]; rfl
  have hwm : IntKind.wrap .i64 ((i : Int) - 1) = ((i - 1 : Nat) : Int) := by rw [wrap_id (by omega) (by omega)]; omega
  refine wLW H ?_
  intro w6 H
  have hr := (H.get (i := 1) rfl : SliceAt w6 38 5 (.slice ta v.l.length tc) _).reads
  refine wSl H (b := p) (j := 0) (hK := ?_)
  refine tab_load hr hu hwm ?_
  refine wSl H (b := p) (j := 0) (hK := ?_)
  refine tab_load hr ht rfl ?_
  refine CompareT_walk (x := u) (y := t) H fun w7 H => mInt_mk ?_
  have hlt : cmpT u t < 0 := by
    rw [ltT_cmp]
    obtain ⟨h1, e1⟩ := List.getElem?_eq_some_iff.1 hu
    obtain ⟨h2, e2⟩ := List.getElem?_eq_some_iff.1 ht
    have := List.pairwise_iff_getElem.1 hv.srt (i - 1) i h1 h2 (by omega)
    rw [e1, e2] at this
    exact this
  refine br (fun h => ?_) (fun _ => ?_)
  · simp at h; omega
  exact ⟨k - 1, by omega, i + 1, by omega, by rw [hwi], by omega, H⟩

set_option maxHeartbeats 4000000 in
theorem ManifestSteps_spec {xs : List EditR} (hb : EditsAt w (.slice b n c) xs) (hal : ∀ x ∈ xs, x.e.add.length ≤ 9223372036854775807) :
    CallS Tryd.prog fn_glacierlaw8_ManifestSteps #[.slice b n c] w [] fun r _ A => r = .bool true ∧ A = [] := by
  have hn := hb.len
  subst hn
  refine CallS_intro (.nil w) fun H => glacierlaw8_ManifestSteps_sound _ _ _ _ _ ?_
  have H : St w [] w [] := H
  have fin : ∀ (w' : World) (L : List Own), St w [] w' L → ∃ A', ((Value.bool true) = .bool true ∧ A' = []) ∧ St w (fps []) w' A' := fun _ _ H => ⟨[], ⟨rfl, rfl⟩, Sh.St.left (L := []) H⟩
  refine known_walk H fun w1 L1 H => mBool_mk (br (fun h => by cases h) (fun _ => ?_))
  refine br (fun _ => fin _ _ H) (fun hn40 => ?_)
  have hn40 : xs.length ≤ 40 := by simp at hn40; omega
  have H : St w [] w1 [] := Sh.St.left (L := []) H
  refine wAL H fun p w2 H => ?_
  repeat (first | refine nn ?_ | refine wI H (hK := ?_) | refine wP H (hK := ?_) | refine wM H (hK := ?_) | refine wSl H (hK := ?_) | refine wB H (hK := ?_) | refine wS H (hK := ?_) | refine wEq ?_ | refine wC H (hK := ?_) | (refine wLW H ?_; intro w1 H) | (refine wST H (hK := ?_); intro w1 H _) | refine mSlice_mk ?_ | refine mInt_mk ?_ | refine mBool_mk ?_ | refine mTup_mk ?_ | refine mCons_mk ?_ | refine mNil_mk ?_ | refine mAgg_mk ?_ | refine mPtr_mk ?_ | refine mStr_mk ?_)
  have H : St w [] w1 [verO p (.slice none 0 0) zeroV, tabsO (.slice none 0 0) zeroV.l, edsO (.slice none 0 0) []] := ((H.nothing 31 5 none).nothing 38 5 none).front (verO p (.slice none 0 0) zeroV)
  refine wLoop (fun k s w' => ∃ (i : Nat) (taken : List EditR) (v : Ver) (ta : Option Addr) (tn tc : Nat) (ka : Option Addr) (kn kc : Nat), k + i = xs.length ∧ s = (b, xs.length, c, ⟨p, 0, none⟩, ka, kn, kc, (i : Int)) ∧ OkV v ∧ v.l.length ≤ 20 * i ∧ taken.length ≤ i ∧
    (∀ y ∈ taken, y ∈ xs ∧ y.e.add.length ≤ 20 ∧ y.e.drop.length ≤ 20) ∧ appliesP zeroV (taken.map (·.e)) = (v, 0) ∧ St w [] w' [verO p (.slice ta tn tc) v, tabsO (.slice ta tn tc) v.l, edsO (.slice ka kn kc) taken])
    ⟨xs.length, 0, [], zeroV, none, 0, 0, none, 0, 0, by omega, rfl, OkV.zero, by simp [zeroV], Nat.le_refl _, fun y hy => (by cases hy), rfl, H⟩ ?_
  clear H
  rintro k s w3 ⟨i, taken, v, ta, tn, tc, ka, kn, kc, hk, rfl, hv, hvl, hkl, hok, happ, H⟩
  by_cases hi : i < xs.length
  · obtain ⟨x, hx⟩ : ∃ x, xs[i]? = some x := ⟨_, List.getElem?_eq_getElem hi⟩
    have hxm := List.mem_of_getElem? hx
    have hwi : IntKind.wrap .i64 ((i : Int) + 1) = ((i + 1 : Nat) : Int) := by rw [wrap_id (by omega) (by omega)]; rfl
    refine steps_5 hb rfl hx (hal x hxm) hv (by omega) (by omega) H fin (fun hc w' H => ?_) (fun hc hs w' ta tn tc ka kn kc H => ?_)
    · exact ⟨k - 1, by omega, i + 1, taken, v, ta, tn, tc, ka, kn, kc, by omega, by rw [hwi], hv, by omega, by omega, hok, happ, H⟩
    · have hap := apply_len hv x.e
      refine ⟨k - 1, by omega, i + 1, taken ++ [x], (applyP v x.e).1, ta, tn, tc, ka, kn, kc, by omega, by rw [hwi], hv.apply _, by omega, by simp; omega, fun y hy => ?_, ?_, H⟩
      · rcases List.mem_append.1 hy with hy | hy
        · exact hok y hy
        · rw [List.mem_singleton.1 hy]; exact ⟨hxm, hs⟩
      · rw [List.map_append]; exact applies_snoc happ hc
  · unfold glacierlaw8_ManifestSteps_b5
    refine br (fun h => by simp at h; omega) (fun _ => ?_)
    exact steps_4 hv (by omega) (by omega) (fun y hy => ⟨hb.oks y (hok y hy).1, by have := (hok y hy).2; omega⟩) happ H fin
end
end Go.Proofs.YtnhjcjnjpciifaaDoor
