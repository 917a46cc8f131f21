/- ManifestSteps: its loop, and all of it but for the chapter's example. -/
import Derived.Test.YtnhjcjnjpciifaaDoorHJ
namespace Go.Proofs.YtnhjcjnjpciifaaDoor
open Go.Sh
attribute [local irreducible] rRun LDI LDB LDS LDP LDSl LDM LD Go.Sh.ST AL ALM LetW CallR CallV CallI NN IX SIX Br Req mInt mBool mStr mPtr mSlice mMap mAgg mTup mCons mNil mNth mPA LoopS
theorem load5 {w0 w : World} {a : Addr} {x : EditR} (h : ∀ j c, (x.cells)[j]? = some c → w0.cell? (a.add j) = some c) (hf : Fr [] w0 w) :
    w.cell? a = some (.slice x.ea x.en x.ec) ∧ w.cell? (a.add 1) = some (.slice x.da x.dn x.dc) ∧ w.cell? (a.add 2) = some (.int .u64 x.e.seq) ∧ w.cell? (a.add 3) = some (.int .i64 x.e.nxt) ∧ w.cell? (a.add 4) = some (.int .i64 x.e.wal) := by
  have e0 : Addr.add a 0 = a := by simp [Addr.add]
  have h0 := h 0 _ rfl
  rw [e0] at h0
  exact ⟨hf.cell1 h0, hf.cell1 (h 1 _ rfl), hf.cell1 (h 2 _ rfl), hf.cell1 (h 3 _ rfl), hf.cell1 (h 4 _ rfl)⟩
section
variable {w : World} {b : Option Addr} {n c : Nat}
abbrev KS := ((Option Addr) × Nat × Nat × Addr × (Option Addr) × Nat × Nat × Int) → World → Prop
set_option maxHeartbeats 16000000 in
theorem steps_5 {w1 : World} {K0 : KS} {RR : Value → World → Prop} {xs taken : List EditR} {i p : Nat} {v : Ver} {ta ka : Option Addr} {tn tc kn kc : Nat} {x : EditR} (hb : EditsAt w (.slice b n c) xs) (hn : n = xs.length) (hx : xs[i]? = some x) (hal : x.e.add.length ≤ 9223372036854775807)
    (hv : OkV v) (hvl : v.l.length ≤ 1000) (hkl : taken.length ≤ 100)
    (H : St w [] w1 [verO p (.slice ta tn tc) v, tabsO (.slice ta tn tc) v.l, edsO (.slice ka kn kc) taken])
    (hend : ∀ w' L, St w [] w' L → RR (.bool true) w')
    (hno : (applyP v x.e).2 ≠ 0 → ∀ w', St w [] w' [verO p (.slice ta tn tc) v, tabsO (.slice ta tn tc) v.l, edsO (.slice ka kn kc) taken] → K0 (b, n, c, ⟨p, 0, none⟩, ka, kn, kc, IntKind.wrap .i64 ((i : Int) + 1)) w')
    (hyes : (applyP v x.e).2 = 0 → x.e.add.length ≤ 20 ∧ x.e.drop.length ≤ 20 → ∀ w' ta tn tc ka kn kc, St w [] w' [verO p (.slice ta tn tc) (applyP v x.e).1, tabsO (.slice ta tn tc) (applyP v x.e).1.l, edsO (.slice ka kn kc) (taken ++ [x])] → K0 (b, n, c, ⟨p, 0, none⟩, ka, kn, kc, IntKind.wrap .i64 ((i : Int) + 1)) w') :
    glacierlaw8_ManifestSteps_b5 b n c ⟨p, 0, none⟩ ka kn kc (i : Int) K0 RR w1 := by
  have hok := hb.oks x (List.mem_of_getElem? hx)
  have hi := (List.getElem?_eq_some_iff.1 hx).1
  refine br (fun _ => ?_) (fun h => by simp [hn] at h; omega)
  refine wIXel hb hx rfl fun a0 ha0 => ?_
  obtain ⟨c0, c1, c2, c3, c4⟩ := load5 ha0 H.fr
  refine ldSl c0 (ldSl c1 (ldI c2 (ldI c3 (ldI c4 ?_))))
  refine few_walk (e := x.e) hal H (fun w' N H => hok.1.keep (by decide) H.fr) (fun w' N H => hok.2.keep (by decide) H.fr) fun q w2 hq H => mBool_mk ?_
  refine br (fun _ => hend _ _ H) (fun hq2 => ?_)
  have hq := hq (by simpa using hq2)
  refine wLW H ?_
  intro w3 H
  repeat (first | refine nn ?_ | refine wI H (hK := ?_) | refine wP H (hK := ?_) | refine wM H (hK := ?_) | refine wSl H (hK := ?_) | refine wB H (hK := ?_) | refine wS H (hK := ?_) | refine wEq ?_ | refine wC H (hK := ?_) | (refine wLW H ?_; intro w1 H) | (refine wST H (hK := ?_); intro w1 H _) | refine mSlice_mk ?_ | refine mInt_mk ?_ | refine mBool_mk ?_ | refine mTup_mk ?_ | refine mCons_mk ?_ | refine mNil_mk ?_ | refine mAgg_mk ?_ | refine mPtr_mk ?_ | refine mStr_mk ?_)
  refine wIXel hb hx rfl fun a1 ha1 => ?_
  obtain ⟨c0, c1, c2, c3, c4⟩ := load5 ha1 H.fr
  refine ldSl c0 (ldSl c1 (ldI c2 (ldI c3 (ldI c4 ?_))))
  have hel : x.e.add.length ≤ 1000 ∧ x.e.drop.length ≤ 1000 := by omega
  clear c0 c1 c2 c3 c4
  by_cases hc : (applyP v x.e).2 = 0
  · have hyes := hyes hc hq
    repeat' (first | (refine appOk hc hv hvl hel hok H (hK := ?_); intro w3 ua un uc H) | (refine append_edit (x := x) (es := taken) (by omega) H (hK := ?_); intro w3 ka kn kc H) | refine wC H (hK := ?_) | refine And.intro (load5 ha1 H.fr).1 ?_ | refine And.intro (load5 ha1 H.fr).2.1 ?_ | refine And.intro (load5 ha1 H.fr).2.2.1 ?_ | refine And.intro (load5 ha1 H.fr).2.2.2.1 ?_ | refine And.intro (load5 ha1 H.fr).2.2.2.2 ?_ | refine wI H (hK := ?_) | refine wSl H (hK := ?_) | (refine wST H (hK := ?_); intro w3 H _) | (refine wAL H ?_; intro bq w3 H) | refine mTup_mk ?_ | refine mCons_mk ?_ | refine mAgg_mk ?_ | refine mSlice_mk ?_ | refine mInt_mk ?_ | refine mNil_mk ?_ | refine br (fun h => absurd h (by decide)) (fun _ => ?_) | (refine wIXel hb hx rfl fun a2 ha2 => ldSl (load5 ha2 H.fr).1 (ldSl (load5 ha2 H.fr).2.1 (ldI (load5 ha2 H.fr).2.2.1 (ldI (load5 ha2 H.fr).2.2.2.1 (ldI (load5 ha2 H.fr).2.2.2.2 ?_))))) | refine And.intro ?_ ?_)
    all_goals exact hyes _ _ _ _ _ _ _ ((((H.front (edsO (.slice ka kn kc) (taken ++ [x]))).front (tabsO (.slice ua un uc) (applyP v x.e).1.l)).front (verO p (.slice ua un uc) (applyP v x.e).1)).left (L := [_, _, _]))
  · have hno := hno hc
    repeat' (first | (refine appErr hc hv hvl hel hok H (hK := ?_); intro w3 H) | refine wC H (hK := ?_) | refine And.intro (load5 ha1 H.fr).1 ?_ | refine And.intro (load5 ha1 H.fr).2.1 ?_ | refine And.intro (load5 ha1 H.fr).2.2.1 ?_ | refine And.intro (load5 ha1 H.fr).2.2.2.1 ?_ | refine And.intro (load5 ha1 H.fr).2.2.2.2 ?_ | refine wI H (hK := ?_) | refine wSl H (hK := ?_) | (refine wST H (hK := ?_); intro w3 H _) | (refine wAL H ?_; intro bq w3 H) | refine mTup_mk ?_ | refine mCons_mk ?_ | refine mAgg_mk ?_ | refine mSlice_mk ?_ | refine mInt_mk ?_ | refine mNil_mk ?_ | refine br (fun _ => ?_) (fun h => absurd (show ((applyP v x.e).2 != 0) = true by simpa using hc) (by rw [show ((applyP v x.e).2 != 0) = false from h]; decide)) | refine br (fun h => absurd h (by decide)) (fun _ => ?_) | refine And.intro ?_ ?_)
    all_goals exact hno _ ((((H.front (edsO (.slice ka kn kc) taken)).front (tabsO (.slice ta tn tc) v.l)).front (verO p (.slice ta tn tc) v)).left (L := [_, _, _]))
end
end Go.Proofs.YtnhjcjnjpciifaaDoor
