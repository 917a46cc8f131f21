/- Apply: several edits. -/
import Derived.Test.YtnhjcjnjpciifaaDoorHG
import Derived.Test.YtnhjcjnjpciifaaDoorShActs
namespace Go.Proofs.YtnhjcjnjpciifaaDoor
open Go.Sh
attribute [local irreducible] rRun LDI LDB LDS LDP LDSl LDM LD Go.Sh.ST AL ALM LetW CallR CallV CallI NN IX SIX Br Req mInt mBool mStr mPtr mSlice mMap mAgg mTup mCons mNil mNth mPA LoopS
structure EditR where
  (ea : Option Addr) (en ec : Nat) (da : Option Addr) (dn dc : Nat) (e : EditP)
def EditR.cells (x : EditR) : List Value := [.slice x.ea x.en x.ec, .slice x.da x.dn x.dc, .int .u64 x.e.seq, .int .i64 x.e.nxt, .int .i64 x.e.wal]
def EditR.ok (w : World) (x : EditR) : Prop := Reads w 5 (.slice x.ea x.en x.ec) (x.e.add.flatMap Tab.cells) ∧ Reads w 1 (.slice x.da x.dn x.dc) (ints x.e.drop)
abbrev EditsAt (w : World) (v : Value) (l : List EditR) : Prop := ElemsAt w 5 EditR.cells EditR.ok v l
theorem EditR.keep {w w' : World} {x : EditR} (h : x.ok w) (hf : Fr [] w w') : x.ok w' := ⟨h.1.keep (by decide) hf, h.2.keep (by decide) hf⟩
theorem EditsAt.keep {w w' : World} {v : Value} {l : List EditR} (h : EditsAt w v l) (hf : Fr [] w w') : EditsAt w' v l :=
  ElemsAt.keep h (fun _ hx => EditR.keep hx hf) hf
section
variable {w0 w : World} {F : List Nat} {L M : List Own} {v : Ver} {K : Value → World → Prop}
theorem apart_walk {va : Option Addr} {vn vc : Nat} (hl : v.l.length ≤ 500000)
    (hrv : ∀ w' N, St w0 F w' (N ++ L) → Reads w' 5 (.slice va vn vc) (v.l.flatMap Tab.cells)) (H : St w0 F w L)
    (hK : ∀ w' ta tn tc, St w0 F w' (tabsO (.slice ta tn tc) v.l :: L) → K (.agg #[.slice ta tn tc, .int .u64 v.seq, .int .i64 v.nxt, .int .i64 v.wal]) w') :
    CallR Tryd.prog fn_manifest_apart #[.agg #[.slice va vn vc, .int .u64 v.seq, .int .i64 v.nxt, .int .i64 v.wal]] w K := by
  refine manifest_apart_sound _ _ _ _ _ _ _ _ ?_
  refine wAL H fun p w1 H => wAL H fun z w2 H => ?_
  refine wSl H (b := p) (j := 0) (hK := ?_)
  refine CloneT_walk H (fun w' H => hrv w' [_, _] H) (by omega) fun w1 a' c' H => mSlice_mk ?_
  have H := (H.front (pt z (.cells #[.slice none 0 0, .int .u64 0, .int .i64 0, .int .i64 0] 27))).front (verO p (.slice va vn vc) v)
  repeat (first | refine nn ?_ | refine wI H (hK := ?_) | refine wP H (hK := ?_) | refine wM H (hK := ?_) | refine wSl H (hK := ?_) | refine wB H (hK := ?_) | refine wS H (hK := ?_) | refine wEq ?_ | refine wC H (hK := ?_) | (refine wLW H ?_; intro w1 H) | (refine wST H (hK := ?_); intro w1 H _) | refine mSlice_mk ?_ | refine mInt_mk ?_ | refine mBool_mk ?_ | refine mTup_mk ?_ | refine mCons_mk ?_ | refine mNil_mk ?_ | refine mAgg_mk ?_ | refine mPtr_mk ?_ | refine mStr_mk ?_)
  exact hK _ _ _ _ H.tail.tail

set_option maxHeartbeats 4000000 in
theorem Apply_walk {va ba : Option Addr} {vn vc n c : Nat} {es : List EditR} (hv : OkV v) (hl : v.l.length ≤ 1000) (hes : es.length ≤ 100) (hel : ∀ x ∈ es, x.e.add.length ≤ 1000 ∧ x.e.drop.length ≤ 1000)
    (hrv : ∀ w' N, St w0 F w' (N ++ L) → Reads w' 5 (.slice va vn vc) (v.l.flatMap Tab.cells))
    (hre : ∀ w' N, St w0 F w' (N ++ L) → EditsAt w' (.slice ba n c) es) (H : St w0 F w L)
    (hno : (appliesP v (es.map (·.e))).2 ≠ 0 → ∀ w', St w0 F w' L → K (errV (appliesP v (es.map (·.e))).2) w')
    (hK : (appliesP v (es.map (·.e))).2 = 0 → ∀ w' ta tn tc, St w0 F w' (tabsO (.slice ta tn tc) (appliesP v (es.map (·.e))).1.l :: L) →
      K (okV (.slice ta tn tc) (appliesP v (es.map (·.e))).1.seq (appliesP v (es.map (·.e))).1.nxt (appliesP v (es.map (·.e))).1.wal) w') :
    CallR Tryd.prog fn_manifest_Apply #[.agg #[.slice va vn vc, .int .u64 v.seq, .int .i64 v.nxt, .int .i64 v.wal], .slice ba n c] w K := by
  have hn := (hre w [] H).len
  subst hn
  refine manifest_Apply_sound _ _ _ _ _ _ _ _ _ _ _ ?_
  refine wAL H fun p w1 H => wAL H fun z w2 H => ?_
  repeat (first | refine nn ?_ | refine wI H (hK := ?_) | refine wP H (hK := ?_) | refine wM H (hK := ?_) | refine wSl H (hK := ?_) | refine wB H (hK := ?_) | refine wS H (hK := ?_) | refine wEq ?_ | refine wC H (hK := ?_) | (refine wLW H ?_; intro w1 H) | (refine wST H (hK := ?_); intro w1 H _) | refine mSlice_mk ?_ | refine mInt_mk ?_ | refine mBool_mk ?_ | refine mTup_mk ?_ | refine mCons_mk ?_ | refine mNil_mk ?_ | refine mAgg_mk ?_ | refine mPtr_mk ?_ | refine mStr_mk ?_)
  refine apart_walk (v := v) (by omega) (fun w' N H => hrv w' (N ++ [_, _]) (by simpa using H)) H fun w3 ta tn tc H => ?_
  have H := (H.front (pt z (.cells #[.slice none 0 0, .int .u64 0, .int .i64 0, .int .i64 0] 27))).front (verO p (.slice va vn vc) v)
  repeat (first | refine nn ?_ | refine wI H (hK := ?_) | refine wP H (hK := ?_) | refine wM H (hK := ?_) | refine wSl H (hK := ?_) | refine wB H (hK := ?_) | refine wS H (hK := ?_) | refine wEq ?_ | refine wC H (hK := ?_) | (refine wLW H ?_; intro w1 H) | (refine wST H (hK := ?_); intro w1 H _) | refine mSlice_mk ?_ | refine mInt_mk ?_ | refine mBool_mk ?_ | refine mTup_mk ?_ | refine mCons_mk ?_ | refine mNil_mk ?_ | refine mAgg_mk ?_ | refine mPtr_mk ?_ | refine mStr_mk ?_)
  refine wLoop (fun k s w' => ∃ (i : Nat) (cur : Ver) (ta : Option Addr) (tn tc : Nat), k + i = es.length ∧ s = (⟨p, 0, none⟩, ⟨z, 0, none⟩, ba, es.length, c, (es.length : Int), (i : Int)) ∧ OkV cur ∧ cur.l.length ≤ 1000 + 1000 * i ∧
    appliesP cur ((es.map (·.e)).drop i) = appliesP v (es.map (·.e)) ∧ St w0 F w' (verO p (.slice ta tn tc) cur :: verO z (.slice none 0 0) zeroV :: tabsO (.slice ta tn tc) cur.l :: L)) ⟨es.length, 0, v, ta, tn, tc, by omega, rfl, hv, by omega, rfl, H⟩ ?_
  clear H
  rintro k s w4 ⟨i, cur, ta, tn, tc, hk, rfl, hcur, hcl, happ, H⟩
  refine br (fun h => ?_) (fun h => ?_)
  · have hi : i < es.length := by simp at h; omega
    obtain ⟨x, hx⟩ : ∃ x, es[i]? = some x := ⟨_, List.getElem?_eq_getElem hi⟩
    have hwi : IntKind.wrap .i64 ((i : Int) + 1) = ((i + 1 : Nat) : Int) := by rw [wrap_id (by omega) (by omega)]; rfl
    obtain ⟨hx1, hx2⟩ := hel x (List.mem_of_getElem? hx)
    have hstep : appliesP cur ((es.map (·.e)).drop i) = if (applyP cur x.e).2 = 0 then appliesP (applyP cur x.e).1 ((es.map (·.e)).drop (i + 1)) else (zeroV, (applyP cur x.e).2) := by
      have hi' : i < (es.map (·.e)).length := by simpa using hi
      rw [← List.getElem_cons_drop hi']
      have : (es.map (·.e))[i] = x.e := by
        rw [List.getElem_map]
        rw [(List.getElem?_eq_some_iff.1 hx).2]
      rw [this]; rfl
    rw [hstep] at happ
    refine wIXel (hre w4 [_, _, _] H) hx rfl fun ad ha => ?_
    have e0 : Addr.add ad 0 = ad := by simp [Addr.add]
    have h0 := ha 0 _ rfl
    rw [e0] at h0
    refine ldSl h0 (ldSl (ha 1 _ rfl) (ldI (ha 2 _ rfl) (ldI (ha 3 _ rfl) (ldI (ha 4 _ rfl) ?_))))
    refine wAL H fun q w5 H => ?_
    repeat (first | refine nn ?_ | refine wI H (hK := ?_) | refine wP H (hK := ?_) | refine wM H (hK := ?_) | refine wSl H (hK := ?_) | refine wB H (hK := ?_) | refine wS H (hK := ?_) | refine wEq ?_ | refine wC H (hK := ?_) | (refine wLW H ?_; intro w1 H) | (refine wST H (hK := ?_); intro w1 H _) | refine mSlice_mk ?_ | refine mInt_mk ?_ | refine mBool_mk ?_ | refine mTup_mk ?_ | refine mCons_mk ?_ | refine mNil_mk ?_ | refine mAgg_mk ?_ | refine mPtr_mk ?_ | refine mStr_mk ?_)
    have H : St w0 F w1 (edO q (.slice x.ea x.en x.ec) (.slice x.da x.dn x.dc) x.e :: verO p (.slice ta tn tc) cur :: verO z (.slice none 0 0) zeroV :: tabsO (.slice ta tn tc) cur.l :: L) := H
    have hrd : ∀ w' N, St w0 F w' (N ++ (edO q (.slice x.ea x.en x.ec) (.slice x.da x.dn x.dc) x.e :: verO p (.slice ta tn tc) cur :: verO z (.slice none 0 0) zeroV :: tabsO (.slice ta tn tc) cur.l :: L)) → x.ok w' := fun w' N H =>
      (hre w' (N ++ [edO q (.slice x.ea x.en x.ec) (.slice x.da x.dn x.dc) x.e, verO p (.slice ta tn tc) cur, verO z (.slice none 0 0) zeroV, tabsO (.slice ta tn tc) cur.l]) (by simpa using H)).oks x (List.mem_of_getElem? hx)
    refine apply_walk (v := cur) (e := x.e) hcur (by omega) (by omega) (by omega) (fun w' N H => ((H.right).get (i := 3) rfl : SliceAt w' 38 5 (.slice ta tn tc) _).reads) (fun w' N H => (hrd w' N H).1) (fun w' N H => (hrd w' N H).2) H (fun hc w6 H => ?_) fun hc w6 ta' tn' tc' H => ?_
    · rw [if_neg hc] at happ
      rw [← happ] at hno
      repeat (first | refine nn ?_ | refine wI H (hK := ?_) | refine wP H (hK := ?_) | refine wM H (hK := ?_) | refine wSl H (hK := ?_) | refine wB H (hK := ?_) | refine wS H (hK := ?_) | refine wEq ?_ | refine wC H (hK := ?_) | (refine wLW H ?_; intro w1 H) | (refine wST H (hK := ?_); intro w1 H _) | refine mSlice_mk ?_ | refine mInt_mk ?_ | refine mBool_mk ?_ | refine mTup_mk ?_ | refine mCons_mk ?_ | refine mNil_mk ?_ | refine mAgg_mk ?_ | refine mPtr_mk ?_ | refine mStr_mk ?_)
      refine br (fun _ => ?_) (fun h => absurd (by simpa using h) hc)
      repeat (first | refine nn ?_ | refine wI H (hK := ?_) | refine wP H (hK := ?_) | refine wM H (hK := ?_) | refine wSl H (hK := ?_) | refine wB H (hK := ?_) | refine wS H (hK := ?_) | refine wEq ?_ | refine wC H (hK := ?_) | (refine wLW H ?_; intro w1 H) | (refine wST H (hK := ?_); intro w1 H _) | refine mSlice_mk ?_ | refine mInt_mk ?_ | refine mBool_mk ?_ | refine mTup_mk ?_ | refine mCons_mk ?_ | refine mNil_mk ?_ | refine mAgg_mk ?_ | refine mPtr_mk ?_ | refine mStr_mk ?_)
      exact hno hc _ H.tail.tail.tail.tail
    · rw [if_pos hc] at happ
      have H := H.front (verO p (.slice ta tn tc) cur)
      repeat (first | refine nn ?_ | refine wI H (hK := ?_) | refine wP H (hK := ?_) | refine wM H (hK := ?_) | refine wSl H (hK := ?_) | refine wB H (hK := ?_) | refine wS H (hK := ?_) | refine wEq ?_ | refine wC H (hK := ?_) | (refine wLW H ?_; intro w1 H) | (refine wST H (hK := ?_); intro w1 H _) | refine mSlice_mk ?_ | refine mInt_mk ?_ | refine mBool_mk ?_ | refine mTup_mk ?_ | refine mCons_mk ?_ | refine mNil_mk ?_ | refine mAgg_mk ?_ | refine mPtr_mk ?_ | refine mStr_mk ?_)
      refine br (fun h => by simp at h) (fun _ => ?_)
      have hap := apply_len hcur x.e
      have H : St w0 F w1 (verO p (.slice ta' tn' tc') (applyP cur x.e).1 :: tabsO (.slice ta' tn' tc') (applyP cur x.e).1.l :: edO q (.slice x.ea x.en x.ec) (.slice x.da x.dn x.dc) x.e :: verO z (.slice none 0 0) zeroV :: tabsO (.slice ta tn tc) cur.l :: L) := H
      have H := (H.front (edO q (.slice x.ea x.en x.ec) (.slice x.da x.dn x.dc) x.e)).tail
      have H := (((H.front (tabsO (.slice ta tn tc) cur.l)).tail.front (verO z (.slice none 0 0) zeroV)).front (verO p (.slice ta' tn' tc') (applyP cur x.e).1))
      exact ⟨k - 1, by omega, i + 1, (applyP cur x.e).1, ta', tn', tc', by omega, by rw [hwi], hcur.apply _, by omega, happ, H⟩
  · have hi : i = es.length := by simp at h; omega
    subst hi
    have hd : (es.map (·.e)).drop es.length = [] := by rw [List.drop_of_length_le (by simp)]
    rw [hd] at happ
    rw [← happ] at hK
    repeat (first | refine nn ?_ | refine wI H (hK := ?_) | refine wP H (hK := ?_) | refine wM H (hK := ?_) | refine wSl H (hK := ?_) | refine wB H (hK := ?_) | refine wS H (hK := ?_) | refine wEq ?_ | refine wC H (hK := ?_) | (refine wLW H ?_; intro w1 H) | (refine wST H (hK := ?_); intro w1 H _) | refine mSlice_mk ?_ | refine mInt_mk ?_ | refine mBool_mk ?_ | refine mTup_mk ?_ | refine mCons_mk ?_ | refine mNil_mk ?_ | refine mAgg_mk ?_ | refine mPtr_mk ?_ | refine mStr_mk ?_)
    exact hK rfl _ _ _ _ H.tail.tail
end
end Go.Proofs.YtnhjcjnjpciifaaDoor
