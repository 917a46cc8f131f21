/- WalTorn, walked: its loops; all of it. -/
import Derived.Test.YtnhjcjnjpciifaaDoorHWI
namespace Go.Proofs.YtnhjcjnjpciifaaDoor
open Go.Sh
attribute [local irreducible] rRun LDI LDB LDS LDP LDSl LDM LD Go.Sh.ST AL ALM LetW CallR CallV CallI NN IX SIX Br Req mInt mBool mStr mPtr mSlice mMap mAgg mTup mCons mNil mNth mPA LoopS
attribute [local irreducible] glacierlaw4_WalTorn_b0 glacierlaw4_WalTorn_b3
section
variable {w0 w : World} {F : List Nat} {L : List Own} {K : Value → World → Prop} {db bm p : Nat} {size born : Int} {l : Files} {o : Obj}
theorem torn_3 {la ma ea : Option Addr} {ln lc mn mc en ec : Nat} {ps : List PartR} {more : Bytes} {k : Nat} {RR : Value → World → Prop} (h0 : (tabO o).holds w) (hl : ReadsP w (.slice la ln lc) ps) (hm : Reads w 1 (.slice ma mn mc) (bvals more)) (hpl : ps.length ≤ 60) (hp1 : ∀ q ∈ ps, q.bs.length ≤ 1000) (hml : more.length ≤ 1000)
    {w1 : World} (hk : k ≤ (framesB crc (ps.map (·.bs))).length) (hone : OneFile l (seg wNm 5) (framesB crc (ps.map (·.bs)), 0))
    (H : St w [2] w1 [dO db bm 16777216 0 l, sliceO 3 1 (.slice ea en ec) (nats (endsOf (ps.map (·.bs)) ps.length)), tabO o]) (fin : ∀ w' L, St w [2] w' L → List.Mem (tabO o) L → RR (.bool true) w') :
    glacierlaw4_WalTorn_b3 la ln lc (k : Int) ma mn mc (some ⟨db, 0, none⟩) ea en ec RR w1 := by
  unfold glacierlaw4_WalTorn_b3
  refine wAL H fun b2 w2 H => ?_
  have H := H.front (dO db bm 16777216 0 l)
  have hx : Ext w2 [dO db bm 16777216 0 l] 1 (.slice (some ⟨b2, 0, none⟩) 1 1) (ints [(k : Int)]) := ext_pt (A := [_]) H (List.mem_cons_self ..) rfl (Nat.le_refl _) rfl
  have hnd := St.nodup H
  have hlen := hone.len hnd
  have hall : ∀ q ∈ ps, q.bs.length ≤ 60000000000 := fun q hq => by have := hp1 q hq; omega
  have hfl := framesB_len_le ps hall
  have hpl2 : plen ps ≤ 60000 := by
    have : ∀ (ps : List PartR), (∀ q ∈ ps, q.bs.length ≤ 1000) → plen ps ≤ 1000 * ps.length := by
      intro ps
      induction ps with
      | nil => intro _; simp [plen]
      | cons q t ih =>
        intro h
        have h1 := ih fun z hz => h z (List.mem_cons_of_mem _ hz)
        have h2 := h q (List.mem_cons_self ..)
        simp only [plen, List.map_cons, List.sum_cons, List.length_cons] at h1 ⊢
        omega
    have := this ps hp1
    omega
  simp only at hlen
  refine crash_walk H hx (by omega) (hone.whole (Nat.zero_le _)) (by omega) fun w3 l2 hc H => ?_
  have hone2 := hone.crash hnd hc
  have ecr : crashF (([(k : Int)] : List Int)[0]?) (framesB crc (ps.map (·.bs)), 0) = ((framesB crc (ps.map (·.bs))).take k, k) := by
    have : pickK (([(k : Int)] : List Int)[0]?) ((framesB crc (ps.map (·.bs))).length - 0) = k := by
      show (if 0 ≤ (k : Int) then ((k : Int) % (((framesB crc (ps.map (·.bs))).length - 0 : Nat) + 1 : Int)).toNat else 0) = k
      rw [if_pos (by omega), Int.emod_eq_of_lt (by omega) (by omega)]
      omega
    unfold crashF
    simp only [this]
    simp
  rw [ecr] at hone2
  repeat (first | apply mInt_mk | apply mCons_mk | (apply xC H; rfl; (focus (repeat (first | exact List.Mem.head _ | apply List.Mem.tail | assumption))); rfl) | apply mStr_mk | apply mNil_mk | apply mSlice_mk | (apply xI H; rfl; (focus (repeat (first | exact List.Mem.head _ | apply List.Mem.tail | assumption))); rfl) | (apply xST H; rfl; (focus (repeat (first | exact Upd.here _ | apply Upd.there))); (focus (repeat (first | exact SetAt.zero _ _ | apply SetAt.succ))); rfl; intro w1 H) | (apply xSl H; rfl; (focus (repeat (first | exact List.Mem.head _ | apply List.Mem.tail | assumption))); rfl) | (apply xP H; rfl; (focus (repeat (first | exact List.Mem.head _ | apply List.Mem.tail | assumption))); rfl) | (apply xS H; rfl; (focus (repeat (first | exact List.Mem.head _ | apply List.Mem.tail | assumption))); rfl) | apply nn | (apply wLW H; intro w1 H) | apply mTup_mk | apply mAgg_mk | apply mPtr_mk | apply mBool_mk | (apply xM H; rfl; (focus (repeat (first | exact List.Mem.head _ | apply List.Mem.tail | assumption))); rfl) | (apply xB H; rfl; (focus (repeat (first | exact List.Mem.head _ | apply List.Mem.tail | assumption))); rfl) | apply wEq)
  have H := (H.front (pt b2 (.cells #[.int .i64 (k : Int)] 3))).tail
  have hpm : (ps.map (·.bs)).length = ps.length := by simp
  refine wLoop (fun q t w' => ∃ n : Nat, q + n = ps.length ∧ t = (la, ln, lc, (k : Int), ma, mn, mc, some ⟨db, 0, none⟩, ea, en, ec, (n : Int)) ∧ n ≤ wholeF crc (ps.map (·.bs)) k ∧ St w [2] w' [dO db bm 16777216 0 l2, sliceO 3 1 (.slice ea en ec) (nats (endsOf (ps.map (·.bs)) ps.length)), tabO o]) ⟨ps.length, 0, rfl, rfl, Nat.zero_le _, H⟩ ?_
  clear H
  rintro q t w4 ⟨n, hq, rfl, hn, H⟩
  have hwl := wholeF_le (crc := crc) (ps.map (·.bs)) k
  have hen : en = ps.length := by
    have := (H.get (i := 1) rfl : SliceAt w4 3 1 (.slice ea en ec) _).len
    simpa [nats, endsOf] using this
  have done : n = wholeF crc (ps.map (·.bs)) k → glacierlaw4_WalTorn_b0 la ln lc ma mn mc (some ⟨db, 0, none⟩) (n : Int) RR w4 := by
    rintro rfl
    exact torn_0 h0 hl hm hpl hp1 hml hk rfl hone2 ((H.front (sliceO 3 1 (.slice ea en ec) (nats (endsOf (ps.map (·.bs)) ps.length)))).tail) fin
  refine br (fun h => ?_) (fun h => ?_)
  · have hi : n < ps.length := by simp [hen] at h; omega
    have hwi : IntKind.wrap .i64 ((n : Int) + 1) = ((n + 1 : Nat) : Int) := by rw [wrap_id (by omega) (by omega)]; rfl
    refine wIXr (H.get (i := 1) rfl : SliceAt w4 3 1 (.slice ea en ec) _).reads (i := n) (by simpa [nats, endsOf] using hi) rfl fun ad had => ?_
    have hget : (nats (endsOf (ps.map (·.bs)) ps.length))[n]? = some (.int .i64 ((framesB crc ((ps.map (·.bs)).take (n + 1))).length : Int)) := by
      simp [nats, endsOf, hi]
    rw [hget] at had
    refine ldI had ?_
    have hiff := wholeF_iff (ps := ps.map (·.bs)) (n := n + 1) (k := k) (by omega)
    refine br (fun h2 => ?_) (fun h2 => ?_)
    · have h2 : n + 1 ≤ wholeF crc (ps.map (·.bs)) k := hiff.2 (by simp at h2; omega)
      exact ⟨q - 1, by omega, n + 1, by omega, by rw [hwi], h2, H⟩
    · refine done ?_
      have h3 : ¬ n + 1 ≤ wholeF crc (ps.map (·.bs)) k := fun hc => by have := hiff.1 hc; simp at h2; omega
      omega
  · have hi : ps.length ≤ n := by simp [hen] at h; omega
    exact done (by omega)
set_option maxHeartbeats 800000 in
theorem WalTorn_spec {la ma : Option Addr} {ln lc mn mc : Nat} {ps : List PartR} {more : Bytes} {cut : Int} (h0 : (tabO o).holds w) (hl : ReadsP w (.slice la ln lc) ps) (hm : Reads w 1 (.slice ma mn mc) (bvals more)) :
    CallS Tryd.prog fn_glacierlaw4_WalTorn #[.slice la ln lc, .int .i64 cut, .slice ma mn mc] w [tabO o] fun r _ A => r = .bool true ∧ A = [tabO o] := by
  refine CallS_intro (tab_has h0) fun H => ?_
  have hln : ln = ps.length := by simpa using hl.1.len
  have hmn : mn = more.length := by simpa using hm.len
  subst hln hmn
  have H : St w [2] w [tabO o] := H
  have fin : ∀ (w' : World) (L : List Own), St w [2] w' L → List.Mem (tabO o) L → ∃ A', ((Value.bool true) = .bool true ∧ A' = [tabO o]) ∧ St w (fps [tabO o]) w' A' := by
    intro w' L H hm
    obtain ⟨M, hp⟩ := mem_perm hm
    exact ⟨_, ⟨rfl, rfl⟩, Sh.St.left (L := [tabO o]) (M := M) (H.perm hp)⟩
  refine glacierlaw4_WalTorn_sound _ _ _ _ _ _ _ _ _ ?_
  refine known_walk H (.head _) fun w1 H => mBool_mk (brF rfl ?_)
  refine br (fun _ => fin _ _ H (.head _)) (fun h60 => ?_)
  have h60 : ps.length ≤ 60 := by simp at h60; omega
  refine br (fun _ => fin _ _ H (.head _)) (fun hmo => ?_)
  have hmo : more.length ≤ 1000 := by simp at hmo; omega
  refine new_walk (by decide) H fun w2 db bm H => ?_
  repeat (first | apply mInt_mk | apply mCons_mk | (apply xC H; rfl; (focus (repeat (first | exact List.Mem.head _ | apply List.Mem.tail | assumption))); rfl) | apply mStr_mk | apply mNil_mk | apply mSlice_mk | (apply xI H; rfl; (focus (repeat (first | exact List.Mem.head _ | apply List.Mem.tail | assumption))); rfl) | (apply xST H; rfl; (focus (repeat (first | exact Upd.here _ | apply Upd.there))); (focus (repeat (first | exact SetAt.zero _ _ | apply SetAt.succ))); rfl; intro w1 H) | (apply xSl H; rfl; (focus (repeat (first | exact List.Mem.head _ | apply List.Mem.tail | assumption))); rfl) | (apply xP H; rfl; (focus (repeat (first | exact List.Mem.head _ | apply List.Mem.tail | assumption))); rfl) | (apply xS H; rfl; (focus (repeat (first | exact List.Mem.head _ | apply List.Mem.tail | assumption))); rfl) | apply nn | (apply wLW H; intro w1 H) | apply mTup_mk | apply mAgg_mk | apply mPtr_mk | apply mBool_mk | (apply xM H; rfl; (focus (repeat (first | exact List.Mem.head _ | apply List.Mem.tail | assumption))); rfl) | (apply xB H; rfl; (focus (repeat (first | exact List.Mem.head _ | apply List.Mem.tail | assumption))); rfl) | apply wEq)
  refine brF rfl (brF rfl ?_)
  refine Open_new_walk (nm := wNm) (f := 5) (by decide) (by decide) (by decide) wNm_ok (by decide) rfl (by decide) (by decide) H (.head _) fun w3 p l1 a n c' hl1 ht1 hn1 H => ?_
  rw [look_empty] at hl1
  have hl1 : OneFile l1 (seg wNm 5) ([], 0) := hl1
  repeat (first | apply mInt_mk | apply mCons_mk | (apply xC H; rfl; (focus (repeat (first | exact List.Mem.head _ | apply List.Mem.tail | assumption))); rfl) | apply mStr_mk | apply mNil_mk | apply mSlice_mk | (apply xI H; rfl; (focus (repeat (first | exact List.Mem.head _ | apply List.Mem.tail | assumption))); rfl) | (apply xST H; rfl; (focus (repeat (first | exact Upd.here _ | apply Upd.there))); (focus (repeat (first | exact SetAt.zero _ _ | apply SetAt.succ))); rfl; intro w1 H) | (apply xSl H; rfl; (focus (repeat (first | exact List.Mem.head _ | apply List.Mem.tail | assumption))); rfl) | (apply xP H; rfl; (focus (repeat (first | exact List.Mem.head _ | apply List.Mem.tail | assumption))); rfl) | (apply xS H; rfl; (focus (repeat (first | exact List.Mem.head _ | apply List.Mem.tail | assumption))); rfl) | apply nn | (apply wLW H; intro w1 H) | apply mTup_mk | apply mAgg_mk | apply mPtr_mk | apply mBool_mk | (apply xM H; rfl; (focus (repeat (first | exact List.Mem.head _ | apply List.Mem.tail | assumption))); rfl) | (apply xB H; rfl; (focus (repeat (first | exact List.Mem.head _ | apply List.Mem.tail | assumption))); rfl) | apply wEq)
  refine brF rfl (brF rfl ?_)
  have H : St w [2] w3 [dO db bm 16777216 0 l1, logO p db wNm 5, tabO o] := (H.front (partsO (.slice a n c') [])).tail
  have H : St w [2] w3 [sliceO 3 1 (.slice none 0 0) (nats (endsOf (ps.map (·.bs)) 0)), dO db bm 16777216 0 l1, logO p db wNm 5, tabO o] := H.nothing 3 1 none
  refine wLoop (fun k t w' => ∃ (i : Nat) (li : Files) (ea : Option Addr) (en ec : Nat), k + i = ps.length ∧ t = (la, ps.length, lc, cut, ma, more.length, mc, some ⟨db, 0, none⟩, some ⟨p, 0, none⟩, ea, en, ec, (i : Int)) ∧ (∀ q ∈ ps.take i, q.bs.length ≤ 1000) ∧ OneFile li (seg wNm 5) (framesB crc ((ps.take i).map (·.bs)), 0) ∧
    St w [2] w' [sliceO 3 1 (.slice ea en ec) (nats (endsOf (ps.map (·.bs)) i)), dO db bm 16777216 0 li, logO p db wNm 5, tabO o]) ⟨ps.length, 0, l1, none, 0, 0, rfl, rfl, fun q hq => (by cases hq), hl1, H⟩ ?_
  clear H
  rintro k t w4 ⟨i, li, ea, en, ec, hk, rfl, hsm, hone, H⟩
  have hil : i ≤ ps.length := by omega
  have htl : plen (ps.take i) ≤ 60000 := by
    have : ∀ (ps : List PartR), (∀ q ∈ ps, q.bs.length ≤ 1000) → plen ps ≤ 1000 * ps.length := by
      intro ps
      induction ps with
      | nil => intro _; simp [plen]
      | cons q t ih =>
        intro h
        have h1 := ih fun z hz => h z (List.mem_cons_of_mem _ hz)
        have h2 := h q (List.mem_cons_self ..)
        simp only [plen, List.map_cons, List.sum_cons, List.length_cons] at h1 ⊢
        omega
    have := this _ hsm
    simp only [List.length_take] at this
    omega
  have hfl := framesB_len_le (ps.take i) fun q hq => by have := hsm q hq; omega
  simp only [List.length_take] at hfl
  have H := H.front (dO db bm 16777216 0 li)
  have hlen := hone.len (St.nodup H)
  simp only at hlen
  refine br (fun h => ?_) (fun h => ?_)
  · have hi : i < ps.length := by simp at h; omega
    obtain ⟨q, hq⟩ : ∃ q, ps[i]? = some q := ⟨_, List.getElem?_eq_getElem hi⟩
    have hqm := List.mem_of_getElem? hq
    have hwi : IntKind.wrap .i64 ((i : Int) + 1) = ((i + 1 : Nat) : Int) := by rw [wrap_id (by omega) (by omega)]; rfl
    have hqn : q.n = q.bs.length := by simpa using (hl.2 q hqm).len
    have hld := H.readPT h0 (.tail _ (.tail _ (.tail _ (.head _)))) hl
    have again : ∀ {K : Option Addr → Nat → Nat → Prop}, K q.a q.n q.c → IX la ps.length (i : Int) 1 fun a => LDSl w4 a K := by
      intro K hK
      refine wIXr hld.1 (i := i) (by simpa using hi) rfl fun ad had => ?_
      rw [List.getElem?_map, hq] at had
      exact ldSl (b := q.a) (l := q.n) (c := q.c) had hK
    refine again ?_
    refine br (fun h2 => ?_) (fun h2 => ?_)
    · refine again ?_
      rw [h2]
      exact fin _ _ H (.tail _ (.tail _ (.tail _ (.head _))))
    · have hq1 : q.bs.length ≤ 1000 := by simp at h2; omega
      refine again ?_
      refine wAL H fun b w5 H => ?_
      have H := H.front (dO db bm 16777216 0 li)
      have hf1 : framesB crc ([q].map (·.bs)) = framesB crc [q.bs] := rfl
      have hf1l : (framesB crc [q.bs]).length ≤ 1014 := by
        have := numB_len q.bs.length 0 (by decide) (by simp; omega)
        simp [framesB, frameB_len]; omega
      refine log_append_walk (ps := [q]) (nm := wNm) (last := 5) (by decide) wNm_ok (by omega) (by simp) (by simp [plen]; omega) (by simp; omega) H (.tail _ (.tail _ (.head _))) (.tail _ (.tail _ (.tail _ (.head _))))
        (fun w' H' => one_part (a := q.a) (n := q.n) (c := q.c) (H'.get (i := 1) rfl) (H'.readT h0 (.tail _ (.tail _ (.tail _ (.tail _ (.head _))))) (by decide) (hl.2 q hqm))) (fun hf => ?_) fun w6 l2 hl2 ht2 hn2 H => mInt_mk ?_
      · rw [hf1] at hf; omega
      rw [hf1] at hl2 ht2
      have e1 : framesB crc ((ps.take (i + 1)).map (·.bs)) = framesB crc ((ps.take i).map (·.bs)) ++ framesB crc [q.bs] := by
        obtain ⟨h5, e5⟩ := List.getElem?_eq_some_iff.1 hq
        rw [← List.take_append_getElem h5, e5, List.map_append, framesB_append]; rfl
      have hone2 : OneFile l2 (seg wNm 5) (framesB crc ((ps.take (i + 1)).map (·.bs)), 0) := by
        refine hone.upd ?_
        rw [hl2, bsOf_look, synOf_look, hone.at, e1]; rfl
      refine brF rfl ?_
      refine Segment_walk (name := wNm) (n := 5) (by decide) (by decide) H (.tail _ (.tail _ (.tail _ (.tail _ (.head _))))) fun w7 H => mStr_mk ?_
      have hlen2 := hone2.len (St.nodup H)
      simp only at hlen2
      refine read_walk H (by omega) (fun hno => by rw [hone2.at] at hno; cases hno) fun x hx w8 va vn vc H => ?_
      rw [hone2.at] at hx
      cases hx
      repeat (first | apply mInt_mk | apply mCons_mk | (apply xC H; rfl; (focus (repeat (first | exact List.Mem.head _ | apply List.Mem.tail | assumption))); rfl) | apply mStr_mk | apply mNil_mk | apply mSlice_mk | (apply xI H; rfl; (focus (repeat (first | exact List.Mem.head _ | apply List.Mem.tail | assumption))); rfl) | (apply xST H; rfl; (focus (repeat (first | exact Upd.here _ | apply Upd.there))); (focus (repeat (first | exact SetAt.zero _ _ | apply SetAt.succ))); rfl; intro w1 H) | (apply xSl H; rfl; (focus (repeat (first | exact List.Mem.head _ | apply List.Mem.tail | assumption))); rfl) | (apply xP H; rfl; (focus (repeat (first | exact List.Mem.head _ | apply List.Mem.tail | assumption))); rfl) | (apply xS H; rfl; (focus (repeat (first | exact List.Mem.head _ | apply List.Mem.tail | assumption))); rfl) | apply nn | (apply wLW H; intro w1 H) | apply mTup_mk | apply mAgg_mk | apply mPtr_mk | apply mBool_mk | (apply xM H; rfl; (focus (repeat (first | exact List.Mem.head _ | apply List.Mem.tail | assumption))); rfl) | (apply xB H; rfl; (focus (repeat (first | exact List.Mem.head _ | apply List.Mem.tail | assumption))); rfl) | apply wEq)
      have hvn : vn = (framesB crc ((ps.take (i + 1)).map (·.bs))).length := by simpa using (H.get (i := 0) rfl : SliceAt w8 5 1 (.slice va vn vc) _).len
      subst hvn
      refine al H fun b1 w9 hb1 _ H => ?_
      have H := H.front (sliceO 3 1 (.slice ea en ec) (nats (endsOf (ps.map (·.bs)) i)))
      refine nat_snoc (by simp [endsOf]; omega) H hb1 fun w10 ea en ec H => mSlice_mk ?_
      have e2 : endsOf (ps.map (·.bs)) i ++ [(framesB crc ((ps.take (i + 1)).map (·.bs))).length] = endsOf (ps.map (·.bs)) (i + 1) := by rw [endsOf_succ, List.map_take]
      rw [e2] at H
      have H := ((H.front (dO db bm 16777216 0 l2)).front (sliceO 3 1 (.slice ea en ec) (nats (endsOf (ps.map (·.bs)) (i + 1)))))
      have H := (H.front (pt b1 (.cells #[.int .i64 ((framesB crc ((ps.take (i + 1)).map (·.bs))).length : Int)] 3))).tail
      have H := (H.front (sliceO 5 1 (.slice va (framesB crc ((ps.take (i + 1)).map (·.bs))).length vc) (bvals (framesB crc ((ps.take (i + 1)).map (·.bs)))))).tail
      have H := (H.front (pt b (.cells #[.slice q.a q.n q.c] 41))).tail
      refine ⟨k - 1, by omega, i + 1, l2, ea, en, ec, by omega, by rw [hwi], fun z hz => ?_, hone2, H⟩
      obtain ⟨h5, e5⟩ := List.getElem?_eq_some_iff.1 hq
      rw [← List.take_append_getElem h5, e5] at hz
      rcases List.mem_append.1 hz with hz | hz
      · exact hsm z hz
      · rw [List.mem_singleton.1 hz]; exact hq1
  · have hi : i = ps.length := by simp at h; omega
    subst hi
    rw [List.take_length] at hsm hone hfl hlen htl
    refine Segment_walk (name := wNm) (n := 5) (by decide) (by decide) H (.tail _ (.tail _ (.tail _ (.head _)))) fun w5 H => mStr_mk ?_
    refine read_walk H (by omega) (fun hno => by rw [hone.at] at hno; cases hno) fun x hx w6 va vn vc H => ?_
    rw [hone.at] at hx
    cases hx
    repeat (first | apply mInt_mk | apply mCons_mk | (apply xC H; rfl; (focus (repeat (first | exact List.Mem.head _ | apply List.Mem.tail | assumption))); rfl) | apply mStr_mk | apply mNil_mk | apply mSlice_mk | (apply xI H; rfl; (focus (repeat (first | exact List.Mem.head _ | apply List.Mem.tail | assumption))); rfl) | (apply xST H; rfl; (focus (repeat (first | exact Upd.here _ | apply Upd.there))); (focus (repeat (first | exact SetAt.zero _ _ | apply SetAt.succ))); rfl; intro w1 H) | (apply xSl H; rfl; (focus (repeat (first | exact List.Mem.head _ | apply List.Mem.tail | assumption))); rfl) | (apply xP H; rfl; (focus (repeat (first | exact List.Mem.head _ | apply List.Mem.tail | assumption))); rfl) | (apply xS H; rfl; (focus (repeat (first | exact List.Mem.head _ | apply List.Mem.tail | assumption))); rfl) | apply nn | (apply wLW H; intro w1 H) | apply mTup_mk | apply mAgg_mk | apply mPtr_mk | apply mBool_mk | (apply xM H; rfl; (focus (repeat (first | exact List.Mem.head _ | apply List.Mem.tail | assumption))); rfl) | (apply xB H; rfl; (focus (repeat (first | exact List.Mem.head _ | apply List.Mem.tail | assumption))); rfl) | apply wEq)
    have hvn : vn = (framesB crc (ps.map (·.bs))).length := by simpa using (H.get (i := 0) rfl : SliceAt w6 5 1 (.slice va vn vc) _).len
    subst hvn
    have hw1 : IntKind.wrap .i64 (((framesB crc (ps.map (·.bs))).length : Int) + 1) = (((framesB crc (ps.map (·.bs))).length + 1 : Nat) : Int) := by rw [wrap_id (by omega) (by omega)]; rfl
    rw [hw1]
    have H := (H.tail.front (sliceO 3 1 (.slice ea en ec) (nats (endsOf (ps.map (·.bs)) ps.length)))).front (dO db bm 16777216 0 li)
    have H : St w [2] w6 [dO db bm 16777216 0 li, sliceO 3 1 (.slice ea en ec) (nats (endsOf (ps.map (·.bs)) ps.length)), tabO o] := (H.front (logO p db wNm 5)).tail
    have go : ∀ m : Nat, m ≤ (framesB crc (ps.map (·.bs))).length → glacierlaw4_WalTorn_b3 la ps.length lc (m : Int) ma more.length mc (some ⟨db, 0, none⟩) ea en ec (fun v w' => ∃ A', (v = .bool true ∧ A' = [tabO o]) ∧ St w (fps [tabO o]) w' A') w6 :=
      fun m hmk => torn_3 h0 hl hm h60 hsm hmo hmk hone H fin
    have ht1 := Int.tmod_lt_of_pos cut (b := (((framesB crc (ps.map (·.bs))).length + 1 : Nat) : Int)) (by omega)
    have ht2 := Int.lt_tmod_of_pos cut (b := (((framesB crc (ps.map (·.bs))).length + 1 : Nat) : Int)) (by omega)
    refine wReq (by omega) ?_
    generalize Int.tmod cut (((framesB crc (ps.map (·.bs))).length + 1 : Nat) : Int) = t at ht1 ht2 ⊢
    refine br (fun hneg => ?_) (fun hpos => ?_)
    · have hneg : t < 0 := by simpa using hneg
      have e : IntKind.wrap .i64 (0 - t) = ((t.natAbs : Nat) : Int) := by rw [wrap_id (by omega) (by omega)]; omega
      rw [e]
      exact go _ (by omega)
    · have hpos : 0 ≤ t := by simpa using hpos
      have e : t = ((t.natAbs : Nat) : Int) := by omega
      rw [e]
      exact go _ (by omega)
end
end Go.Proofs.YtnhjcjnjpciifaaDoor
