/- WalSpans, walked: its loops; all of it. -/
import Derived.Test.YtnhjcjnjpciifaaDoorHXA
namespace Go.Proofs.YtnhjcjnjpciifaaDoor
open Go.Sh
attribute [local irreducible] rRun LDI LDB LDS LDP LDSl LDM LD Go.Sh.ST AL ALM LetW CallR CallV CallI NN IX SIX Br Req mInt mBool mStr mPtr mSlice mMap mAgg mTup mCons mNil mNth mPA LoopS
attribute [local irreducible] glacierlaw4_WalSpans_b0 glacierlaw4_WalSpans_b3
section
variable {w0 w : World} {F : List Nat} {L : List Own} {K : Value → World → Prop} {db bm p : Nat} {size born : Int} {l : Files} {o : Obj}
theorem spans_3 {la ia : Option Addr} {ln lc m in_ ic : Nat} {ps : List PartR} {s : Nat} {inn : List Nat} {G : Nat → List Bytes} {y : Nat → Nat} {RR : Value → World → Prop} (h0 : (tabO o).holds w) (hl : ReadsP w (.slice la ln lc) ps) (hpl : ps.length ≤ 60) (hms : m ≤ s)
    {w1 : World} (hsp : Spans (ps.map (·.bs)) ps.length s inn G) (hseg : SegsAt l wNm 0 s (fun k => framesB crc (G k)) y) (hy : ∀ k, k < s → y k = (framesB crc (G k)).length) (htl : total l ≤ 100000) (hll : l.length ≤ 1000)
    (H : St w [2] w1 [dO db bm 16777216 0 l, logO p db wNm s, sliceO 3 1 (.slice ia in_ ic) (nats inn), tabO o]) (fin : ∀ w' L, St w [2] w' L → List.Mem (tabO o) L → RR (.bool true) w') :
    glacierlaw4_WalSpans_b3 la ln lc (m : Int) (some ⟨db, 0, none⟩) (some ⟨p, 0, none⟩) ia in_ ic RR w1 := by
  unfold glacierlaw4_WalSpans_b3
  have hs60 : s ≤ 60 := by have := hsp.si; omega
  refine log_sync_walk (by omega) wNm_ok H (.head _) (.tail _ (.tail _ (.head _))) (hseg.here s (Nat.zero_le _) (Nat.le_refl _)) fun w2 l2 hl2 ht2 hn2 H => mInt_mk (brF rfl ?_)
  have hseg2 : SegsAt l2 wNm 0 s (fun k => framesB crc (G k)) (fun k => (framesB crc (G k)).length) := by
    refine (hseg.upd (by omega) (Nat.zero_le _) (Nat.le_refl _) hl2).congr (fun k h1 h2 => ?_) (fun k h1 h2 => ?_)
    · by_cases hk : k = s
      · subst hk; simp
      · simp [hk]
    · by_cases hk : k = s
      · subst hk; simp
      · simp only [hk, if_false]; exact hy k (by omega)
  refine log_truncate_walk hms (by omega) wNm_ok H (by omega) (.head _) (.tail _ (.tail _ (.head _))) (by omega) (hseg2.names (by omega)) fun w3 l3 hr hk3 ht3 hn3 H => mInt_mk (brF rfl ?_)
  have hseg3 : SegsAt l3 wNm m s (fun k => framesB crc (G k)) (fun k => (framesB crc (G k)).length) := by
    refine ⟨fun k h1 h2 => ?_, fun t ht => ?_⟩
    · rw [hr _ fun q hq he => by have := seg_inj (by omega) (by omega) he; omega]
      exact hseg2.here k (Nat.zero_le _) h2
    · by_cases hx : ∃ q, q < m ∧ t = seg wNm q
      · obtain ⟨q, hq, rfl⟩ := hx
        exact hk3 q hq
      · rw [hr t fun q hq he => hx ⟨q, hq, he⟩]
        refine hseg2.rest t fun k _ h2 he => ?_
        rcases Nat.lt_or_ge k m with h | h
        · exact hx ⟨k, h, he⟩
        · exact ht k h h2 he
  refine log_first_walk (f := m) (by omega) (by decide) H (.head _) (.tail _ (.tail _ (.head _))) (by omega) (hseg3.names (by omega)) (by rw [hseg3.here m (Nat.le_refl _) hms]; rfl) (fun k hk hs => ?_) fun w4 H => mInt_mk (brF (by simp) ?_)
  · by_cases hx : ∃ q, m ≤ q ∧ q ≤ s ∧ seg wNm k = seg wNm q
    · obtain ⟨q, h1, h2, he⟩ := hx
      have := seg_inj hk (by omega) he
      omega
    · rw [hseg3.rest _ fun q h1 h2 he => hx ⟨q, h1, h2, he⟩] at hs; cases hs
  have hin : in_ = ps.length := by
    have := (H.get (i := 2) rfl : SliceAt w4 3 1 (.slice ia in_ ic) _).len
    simpa [nats, hsp.len] using this
  refine wLoop (fun q t w' => ∃ n : Nat, q + n = ps.length ∧ t = (la, ln, lc, (m : Int), some ⟨db, 0, none⟩, ia, in_, ic, (n : Int)) ∧ (∀ j v, j < n → inn[j]? = some v → v < m) ∧ St w [2] w' [dO db bm 16777216 0 l3, logO p db wNm s, sliceO 3 1 (.slice ia in_ ic) (nats inn), tabO o])
    ⟨ps.length, 0, rfl, rfl, fun j v hj => by omega, H⟩ ?_
  clear H
  rintro q t w5 ⟨n, hq, rfl, hn, H⟩
  have done : n = inn.countP (fun q => decide (q < m)) → glacierlaw4_WalSpans_b0 la ln lc (m : Int) (some ⟨db, 0, none⟩) (n : Int) RR w5 := by
    intro hc
    rw [hc]
    exact spans_0 h0 hl hpl hms hsp hseg3 (by omega) (by omega) (((H.front (logO p db wNm s)).tail.front (sliceO 3 1 (.slice ia in_ ic) (nats inn))).tail) fin
  refine br (fun h => ?_) (fun h => ?_)
  · have hi : n < ps.length := by simp [hin] at h; omega
    obtain ⟨v, hv⟩ : ∃ v, inn[n]? = some v := ⟨_, List.getElem?_eq_getElem (by rw [hsp.len]; exact hi)⟩
    have hwi : IntKind.wrap .i64 ((n : Int) + 1) = ((n + 1 : Nat) : Int) := by rw [wrap_id (by omega) (by omega)]; rfl
    refine wIXr (H.get (i := 2) rfl : SliceAt w5 3 1 (.slice ia in_ ic) _).reads (i := n) (by simpa [nats, hsp.len] using hi) rfl fun ad had => ?_
    rw [nats, List.getElem?_map, hv] at had
    refine ldI had ?_
    refine br (fun h2 => ?_) (fun h2 => ?_)
    · have hvm : v < m := by simp at h2; omega
      refine ⟨q - 1, by omega, n + 1, by omega, by rw [hwi], fun j u hj hu => ?_, H⟩
      rcases Nat.lt_or_ge j n with h | h
      · exact hn j u h hu
      · have : j = n := by omega
        subst this
        rw [hv] at hu
        rw [← Option.some.inj hu]; exact hvm
    · have hvm : m ≤ v := by simp at h2; omega
      refine done (countP_split hn (fun j u hj hu => ?_) (by have := hsp.len; omega)).symm
      rcases Nat.lt_or_ge n j with h | h
      · obtain ⟨h3, e3⟩ := List.getElem?_eq_some_iff.1 hv
        obtain ⟨h4, e4⟩ := List.getElem?_eq_some_iff.1 hu
        have := List.pairwise_iff_getElem.1 hsp.srt n j h3 h4 h
        omega
      · have : j = n := by omega
        subst this
        rw [hv] at hu
        rw [← Option.some.inj hu]; exact hvm
  · have hi : ps.length ≤ n := by simp [hin] at h; omega
    refine done (countP_split hn (fun j u hj hu => ?_) (by have := hsp.len; omega)).symm
    have := (List.getElem?_eq_some_iff.1 hu).1
    have := hsp.len
    omega
set_option maxHeartbeats 1600000 in
theorem WalSpans_spec {la ta : Option Addr} {ln lc tn tc : Nat} {ps : List PartR} {ts : List Bool} {below : Int} (h0 : (tabO o).holds w) (hl : ReadsP w (.slice la ln lc) ps) (ht : Reads w 1 (.slice ta tn tc) (bools ts)) (htl : ts.length ≤ 9223372036854775807) :
    CallS Tryd.prog fn_glacierlaw4_WalSpans #[.slice la ln lc, .slice ta tn tc, .int .i64 below] w [tabO o] fun r _ A => r = .bool true ∧ A = [tabO o] := by
  refine CallS_intro (tab_has h0) fun H => ?_
  have hln : ln = ps.length := by simpa using hl.1.len
  have htn : tn = ts.length := by simpa [bools] using ht.len
  subst hln htn
  have H : St w [2] w [tabO o] := H
  have fin : ∀ (w' : World) (L : List Own), St w [2] w' L → List.Mem (tabO o) L → ∃ A', ((Value.bool true) = .bool true ∧ A' = [tabO o]) ∧ St w (fps [tabO o]) w' A' := by
    intro w' L H hm
    obtain ⟨M, hp⟩ := mem_perm hm
    exact ⟨_, ⟨rfl, rfl⟩, Sh.St.left (L := [tabO o]) (M := M) (H.perm hp)⟩
  refine glacierlaw4_WalSpans_sound _ _ _ _ _ _ _ _ _ ?_
  refine known_walk H (.head _) fun w1 H => mBool_mk (brF rfl ?_)
  refine br (fun _ => fin _ _ H (.head _)) (fun h60 => ?_)
  have h60 : ps.length ≤ 60 := by simp at h60; omega
  refine new_walk (by decide) H fun w2 db bm H => ?_
  repeat (first | apply mInt_mk | apply mCons_mk | (apply xC H; rfl; (focus (repeat (first | exact List.Mem.head _ | apply List.Mem.tail | assumption))); rfl) | apply mStr_mk | apply mNil_mk | apply mSlice_mk | (apply xI H; rfl; (focus (repeat (first | exact List.Mem.head _ | apply List.Mem.tail | assumption))); rfl) | (apply xST H; rfl; (focus (repeat (first | exact Upd.here _ | apply Upd.there))); (focus (repeat (first | exact SetAt.zero _ _ | apply SetAt.succ))); rfl; intro w1 H) | (apply xSl H; rfl; (focus (repeat (first | exact List.Mem.head _ | apply List.Mem.tail | assumption))); rfl) | (apply xP H; rfl; (focus (repeat (first | exact List.Mem.head _ | apply List.Mem.tail | assumption))); rfl) | (apply xS H; rfl; (focus (repeat (first | exact List.Mem.head _ | apply List.Mem.tail | assumption))); rfl) | apply nn | (apply wLW H; intro w1 H) | apply mTup_mk | apply mAgg_mk | apply mPtr_mk | apply mBool_mk | (apply xM H; rfl; (focus (repeat (first | exact List.Mem.head _ | apply List.Mem.tail | assumption))); rfl) | (apply xB H; rfl; (focus (repeat (first | exact List.Mem.head _ | apply List.Mem.tail | assumption))); rfl) | apply wEq)
  refine brF rfl (brF rfl ?_)
  refine Open_new_walk (nm := wNm) (f := 0) (by decide) (by decide) (by decide) wNm_ok (by decide) rfl (by decide) (by decide) H (.head _) fun w3 p l1 a n c' hl1 ht1 hn1 H => ?_
  rw [look_empty] at hl1
  have ht1 : total l1 = 0 := ht1
  have hn1 : l1.length ≤ 1 := hn1
  have hseg1 : SegsAt l1 wNm 0 0 (fun k => framesB crc ((fun _ => [] : Nat → List Bytes) k)) (fun _ => 0) := by
    refine ⟨fun k h1 h2 => ?_, fun t ht => ?_⟩
    · have : k = 0 := by omega
      subst this
      rw [hl1, upd_same]; rfl
    · rw [hl1, upd_ne _ _ (ht 0 (Nat.le_refl _) (Nat.le_refl _))]
  repeat (first | apply mInt_mk | apply mCons_mk | (apply xC H; rfl; (focus (repeat (first | exact List.Mem.head _ | apply List.Mem.tail | assumption))); rfl) | apply mStr_mk | apply mNil_mk | apply mSlice_mk | (apply xI H; rfl; (focus (repeat (first | exact List.Mem.head _ | apply List.Mem.tail | assumption))); rfl) | (apply xST H; rfl; (focus (repeat (first | exact Upd.here _ | apply Upd.there))); (focus (repeat (first | exact SetAt.zero _ _ | apply SetAt.succ))); rfl; intro w1 H) | (apply xSl H; rfl; (focus (repeat (first | exact List.Mem.head _ | apply List.Mem.tail | assumption))); rfl) | (apply xP H; rfl; (focus (repeat (first | exact List.Mem.head _ | apply List.Mem.tail | assumption))); rfl) | (apply xS H; rfl; (focus (repeat (first | exact List.Mem.head _ | apply List.Mem.tail | assumption))); rfl) | apply nn | (apply wLW H; intro w1 H) | apply mTup_mk | apply mAgg_mk | apply mPtr_mk | apply mBool_mk | (apply xM H; rfl; (focus (repeat (first | exact List.Mem.head _ | apply List.Mem.tail | assumption))); rfl) | (apply xB H; rfl; (focus (repeat (first | exact List.Mem.head _ | apply List.Mem.tail | assumption))); rfl) | apply wEq)
  refine brF rfl (brF rfl ?_)
  have H : St w [2] w3 [dO db bm 16777216 0 l1, logO p db wNm 0, tabO o] := (H.front (partsO (.slice a n c') [])).tail
  have H : St w [2] w3 [sliceO 3 1 (.slice none 0 0) (nats []), dO db bm 16777216 0 l1, logO p db wNm 0, tabO o] := H.nothing 3 1 none
  refine wLoop (fun k t w' => ∃ (i s : Nat) (li : Files) (inn : List Nat) (G : Nat → List Bytes) (y : Nat → Nat) (ia : Option Addr) (in_ ic : Nat), k + i = ps.length ∧ t = (la, ps.length, lc, ta, ts.length, tc, below, some ⟨db, 0, none⟩, some ⟨p, 0, none⟩, ia, in_, ic, (i : Int)) ∧
    Spans (ps.map (·.bs)) i s inn G ∧ SegsAt li wNm 0 s (fun k => framesB crc (G k)) y ∧ (∀ k, k < s → y k = (framesB crc (G k)).length) ∧ total li ≤ 1014 * i ∧ li.length ≤ 2 * i + 1 ∧
    St w [2] w' [sliceO 3 1 (.slice ia in_ ic) (nats inn), dO db bm 16777216 0 li, logO p db wNm s, tabO o]) ⟨ps.length, 0, 0, l1, [], fun _ => [], fun _ => 0, none, 0, 0, rfl, rfl, .zero _, hseg1, fun k hk => by omega, by omega, by omega, H⟩ ?_
  clear H
  rintro k t w4 ⟨i, s, li, inn, G, y, ia, in_, ic, hk, rfl, hsp, hseg, hy, htot, hlen, H⟩
  have H := H.front (dO db bm 16777216 0 li)
  have hs60 : s ≤ 60 := by have := hsp.si; omega
  refine br (fun h => ?_) (fun h => ?_)
  · have hi : i < ps.length := by simp at h; omega
    obtain ⟨q, hq⟩ : ∃ q, ps[i]? = some q := ⟨_, List.getElem?_eq_getElem hi⟩
    have hqm := List.mem_of_getElem? hq
    have hqb : (ps.map (·.bs))[i]? = some q.bs := by rw [List.getElem?_map, hq]; rfl
    have hwi : IntKind.wrap .i64 ((i : Int) + 1) = ((i + 1 : Nat) : Int) := by rw [wrap_id (by omega) (by omega)]; rfl
    have hqn : q.n = q.bs.length := by simpa using (hl.2 q hqm).len
    have hld := H.readPT h0 (.tail _ (.tail _ (.tail _ (.head _)))) hl
    have again : ∀ {K : Option Addr → Nat → Nat → Prop}, K q.a q.n q.c → IX la ps.length (i : Int) 1 fun a => LDSl w4 a K := by
      intro K hK
      refine wIXr hld.1 (i := i) (by simpa using hi) rfl fun ad had => ?_
      rw [List.getElem?_map, hq] at had
      exact ldSl (b := q.a) (l := q.n) (c := q.c) had hK
    refine again ?_
    refine br (fun h2 => fin _ _ H (.tail _ (.tail _ (.tail _ (.head _))))) (fun h2 => ?_)
    have hq1 : q.bs.length ≤ 1000 := by simp at h2; omega
    refine again ?_
    refine wAL H fun b w5 H => ?_
    have H := H.front (dO db bm 16777216 0 li)
    have hf1 : framesB crc ([q].map (·.bs)) = framesB crc [q.bs] := rfl
    have hf1l : (framesB crc [q.bs]).length ≤ 1014 := by
      have := numB_len q.bs.length 0 (by decide) (by simp; omega)
      simp [framesB, frameB_len]; omega
    refine log_append_walk (ps := [q]) (nm := wNm) (last := s) (by omega) wNm_ok (by omega) (by simp) (by simp [plen]; omega) (by simp; omega) H (.tail _ (.tail _ (.head _))) (.tail _ (.tail _ (.tail _ (.head _))))
      (fun w' H' => one_part (a := q.a) (n := q.n) (c := q.c) (H'.get (i := 1) rfl) (H'.readT h0 (.tail _ (.tail _ (.tail _ (.tail _ (.head _))))) (by decide) (hl.2 q hqm))) (fun hf => ?_) fun w6 l2 hl2 ht2 hn2 H => mInt_mk ?_
    · rw [hf1] at hf; omega
    rw [hf1] at hl2 ht2
    have hsp2 := hsp.add hqb hq1
    have hseg2 : SegsAt l2 wNm 0 s (fun k => framesB crc (updG G s (G s ++ [q.bs]) k)) y := by
      rw [bsOf_look, synOf_look, hseg.here s (Nat.zero_le _) (Nat.le_refl _)] at hl2
      refine (hseg.upd (by omega) (Nat.zero_le _) (Nat.le_refl _) hl2).congr (fun k h1 h2 => ?_) (fun k h1 h2 => ?_)
      · by_cases hk : k = s
        · subst hk; rw [updG_same, framesB_append]; simp
        · rw [updG_ne _ _ hk]; simp [hk]
      · by_cases hk : k = s
        · subst hk; simp
        · simp [hk]
    have hy2 : ∀ k, k < s → y k = (framesB crc (updG G s (G s ++ [q.bs]) k)).length := fun k hk => by rw [updG_ne _ _ (by omega)]; exact hy k hk
    refine brF rfl ?_
    refine log_segment_walk H (.tail _ (.tail _ (.tail _ (.head _)))) (mInt_mk ?_)
    refine al H fun b1 w7 hb1 _ H => ?_
    have H := H.front (sliceO 3 1 (.slice ia in_ ic) (nats inn))
    refine nat_snoc (by have := hsp.len; omega) H hb1 fun w8 ia in_ ic H => mSlice_mk ?_
    have H := (H.front (pt b1 (.cells #[.int .i64 (s : Int)] 3))).tail
    have H := (H.front (pt b (.cells #[.slice q.a q.n q.c] 41))).tail
    have nxt : ∃ k', k' < k ∧ ∃ (i' s : Nat) (li : Files) (inn : List Nat) (G : Nat → List Bytes) (y : Nat → Nat) (ia' : Option Addr) (in' ic' : Nat), k' + i' = ps.length ∧ (la, ps.length, lc, ta, ts.length, tc, below, (some ⟨db, 0, none⟩ : Option Addr), (some ⟨p, 0, none⟩ : Option Addr), ia, in_, ic, IntKind.wrap .i64 ((i : Int) + 1)) = (la, ps.length, lc, ta, ts.length, tc, below, some ⟨db, 0, none⟩, some ⟨p, 0, none⟩, ia', in', ic', (i' : Int)) ∧
        Spans (ps.map (·.bs)) i' s inn G ∧ SegsAt li wNm 0 s (fun k => framesB crc (G k)) y ∧ (∀ k, k < s → y k = (framesB crc (G k)).length) ∧ total li ≤ 1014 * i' ∧ li.length ≤ 2 * i' + 1 ∧
        St w [2] w8 [sliceO 3 1 (.slice ia' in' ic') (nats inn), dO db bm 16777216 0 li, logO p db wNm s, tabO o] :=
      ⟨k - 1, by omega, i + 1, s, l2, _, _, y, ia, in_, ic, by omega, by rw [hwi], hsp2, hseg2, hy2, by omega, by omega, H⟩
    refine br (fun h3 => ?_) (fun _ => nxt)
    have h3 : i < ts.length := by simp at h3; omega
    obtain ⟨tb, htb⟩ : ∃ tb, ts[i]? = some tb := ⟨_, List.getElem?_eq_getElem h3⟩
    refine wIXr (H.readT h0 (.tail _ (.tail _ (.tail _ (.head _)))) (by decide) ht) (i := i) (by simpa [bools] using h3) rfl fun ad had => ?_
    rw [bools, List.getElem?_map, htb] at had
    refine ldB had ?_
    refine br (fun htr => ?_) (fun _ => nxt)
    clear nxt
    have H := (H.front (logO p db wNm s)).front (dO db bm 16777216 0 l2)
    refine log_rotate_walk (by omega) wNm_ok (by omega) (by omega) H (.tail _ (.head _)) (hseg2.here s (Nat.zero_le _) (Nat.le_refl _)) (seg_none hseg2 (by omega)) fun w9 l3 hl3 ht3 hn3 H => mInt_mk (brF rfl ?_)
    have hseg3 := hseg2.next (Nat.zero_le _) (by omega) hl3
    have hsp3 := hsp2.turn (by have := hsp.si; omega)
    have H := (H.front (sliceO 3 1 (.slice ia in_ ic) (nats (inn ++ [s]))))
    refine ⟨k - 1, by omega, i + 1, s + 1, l3, _, _, (fun q_1 => if q_1 = s + 1 then 0 else if q_1 = s then (framesB crc (updG G s (G s ++ [q.bs]) s)).length else y q_1), ia, in_, ic, by omega, by rw [hwi], hsp3, hseg3.congr (fun k h1 h2 => ?_) (fun _ _ _ => rfl), fun k hk => ?_, by omega, by omega, H⟩
    · by_cases hk : k = s + 1
      · subst hk
        rw [hsp2.above _ (by omega)]; simp [framesB]
      · simp [hk]
    · by_cases hk2 : k = s
      · subst hk2; simp
      · simp only [show ¬ k = s + 1 by omega, hk2, if_false]
        exact hy2 k (by omega)
  · have hi : i = ps.length := by simp at h; omega
    subst hi
    refine log_segment_walk H (.tail _ (.tail _ (.head _))) (mInt_mk ?_)
    have hw1 : IntKind.wrap .i64 ((s : Int) + 1) = ((s + 1 : Nat) : Int) := by rw [wrap_id (by omega) (by omega)]; rfl
    rw [hw1]
    have H := (H.front (logO p db wNm s)).front (dO db bm 16777216 0 li)
    have go : ∀ m : Nat, m ≤ s → glacierlaw4_WalSpans_b3 la ps.length lc (m : Int) (some ⟨db, 0, none⟩) (some ⟨p, 0, none⟩) ia in_ ic (fun v w' => ∃ A', (v = .bool true ∧ A' = [tabO o]) ∧ St w (fps [tabO o]) w' A') w4 :=
      fun m hms => spans_3 h0 hl h60 hms hsp hseg hy (by omega) (by omega) H fin
    have ht1 := Int.tmod_lt_of_pos below (b := ((s + 1 : Nat) : Int)) (by omega)
    have ht2 := Int.lt_tmod_of_pos below (b := ((s + 1 : Nat) : Int)) (by omega)
    refine wReq (by omega) ?_
    generalize Int.tmod below ((s + 1 : Nat) : Int) = t at ht1 ht2 ⊢
    refine br (fun hneg => ?_) (fun hpos => ?_)
    · have hneg : t < 0 := by simpa using hneg
      have e : IntKind.wrap .i64 (0 - t) = ((t.natAbs : Nat) : Int) := by rw [wrap_id (by omega) (by omega)]; omega
      rw [e]
      exact go _ (by omega)
    · have hpos : 0 ≤ t := by simpa using hpos
      have e : t = ((t.natAbs : Nat) : Int) := by omega
      rw [e]
      exact go _ (by omega)
end
end Go.Proofs.YtnhjcjnjpciifaaDoor
