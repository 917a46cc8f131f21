/- A disk with one file; crashes; the chapter's example; WalTorn. -/
import Derived.Test.YtnhjcjnjpciifaaDoorHWG
namespace Go.Proofs.YtnhjcjnjpciifaaDoor
open Go.Sh
theorem crash_look {picks : List Int} {l l' : Files} (h : Crashed picks (sortB (keysOf l)) (sortB (keysOf l)).length l l') (s : ByteArray) : ∃ p, look l' s = (look l s).map (crashF p) := by
  by_cases hs : s ∈ sortB (keysOf l)
  · obtain ⟨j, hj⟩ := List.mem_iff_getElem?.1 hs
    exact ⟨_, h.done j s (List.getElem?_eq_some_iff.1 hj).1 hj⟩
  · refine ⟨none, ?_⟩
    have h2 : look l s = none := by
      cases hg : look l s with
      | none => rfl
      | some x => exact absurd ((sortB_permOf _).mem_iff.2 (keys_look.2 (by rw [hg]; rfl))) hs
    rw [h.rest s fun j _ hj => hs (List.mem_of_getElem? hj), h2]
    rfl
/-- A disk with one file. -/
def OneFile (l : Files) (s : ByteArray) (x : List UInt8 × Nat) : Prop := look l = upd (fun _ => none) s (some x)
theorem OneFile.keys {l : Files} {s : ByteArray} {x : List UInt8 × Nat} (h : OneFile l s x) (hn : (keysOf l).Nodup) : keysOf l = [s] := by
  have hm : ∀ t, t ∈ keysOf l ↔ t = s := by
    intro t
    rw [keys_look, h]
    by_cases ht : t = s
    · subst ht; simp
    · rw [upd_ne _ _ ht]; simp [ht]
  have h1 : s ∈ keysOf l := (hm s).2 rfl
  cases hk : keysOf l with
  | nil => rw [hk] at h1; cases h1
  | cons a t =>
    rw [hk] at hm hn
    have ha : a = s := (hm a).1 (List.mem_cons_self ..)
    subst ha
    cases t with
    | nil => rfl
    | cons b t =>
      have hb : b = a := (hm b).1 (by simp)
      subst hb
      simp at hn
theorem OneFile.crash {picks : List Int} {l l' : Files} {s : ByteArray} {x : List UInt8 × Nat} (h : OneFile l s x) (hn : (keysOf l).Nodup) (hc : Crashed picks (sortB (keysOf l)) (sortB (keysOf l)).length l l') : OneFile l' s (crashF picks[0]? x) := by
  have hk : sortB (keysOf l) = [s] := by rw [h.keys hn]; exact sorted_sortB (by simp)
  rw [hk] at hc
  funext t
  by_cases ht : t = s
  · subst ht
    rw [hc.done 0 t (by simp) rfl, h, upd_same, upd_same]
    rfl
  · rw [hc.rest t (fun j hj he => ?_), h, upd_ne _ _ ht, upd_ne _ _ ht]
    have : j = 0 := by simp at hj; omega
    subst this
    exact ht (Option.some.inj he).symm
theorem OneFile.log {l : Files} {nm : List UInt8} {k : Nat} {x : List UInt8 × Nat} (h : OneFile l (seg nm k) x) (hk : k < 999999) : LogAt l nm k k (fun _ => x.1) := by
  refine ⟨Nat.le_refl _, hk, fun q h1 h2 => ⟨x.2, ?_⟩, fun q hq hs => ?_, ?_, fun q h1 h2 => by omega, fun t ht hp => ⟨k, by omega, ?_⟩⟩
  · have : q = k := by omega
    subst this
    rw [h, upd_same]
  · rw [h] at hs
    by_cases he : seg nm q = seg nm k
    · have := seg_inj hq (by omega) he; omega
    · rw [upd_ne _ _ he] at hs; cases hs
  · rw [h, upd_ne _ _ (Ne.symm (seg_tmp nm k))]
  · rw [keys_look, h] at ht
    by_cases he : t = seg nm k
    · exact he
    · rw [upd_ne _ _ he] at ht; cases ht
theorem OneFile.opened {l l' : Files} {nm : List UInt8} {k : Nat} {x : List UInt8 × Nat} (h : OneFile l (seg nm k) x) (ho : Opened l l' nm k k (fun _ => x.1)) : OneFile l' (seg nm k) (kept x.1, (kept x.1).length) := by
  funext t
  by_cases ht : t = seg nm k
  · subst ht; rw [upd_same]; exact ho.segs k (Nat.le_refl _) (Nat.le_refl _)
  · rw [upd_ne _ _ ht, ho.rest t fun q h1 h2 he => ht (by rw [he]; congr 1; omega), h, upd_ne _ _ ht]
theorem OneFile.upd {l l' : Files} {s : ByteArray} {x y : List UInt8 × Nat} (h : OneFile l s x) (e : look l' = Proofs.YtnhjcjnjpciifaaDoor.upd (look l) s (some y)) : OneFile l' s y := by
  rw [OneFile, e, h, upd_upd]
theorem OneFile.at {l : Files} {s : ByteArray} {x : List UInt8 × Nat} (h : OneFile l s x) : look l s = some x := by rw [h, upd_same]
theorem OneFile.whole {l : Files} {s : ByteArray} {x : List UInt8 × Nat} (h : OneFile l s x) (hx : x.2 ≤ x.1.length) : whole l := by
  refine whole_of fun t y hy => ?_
  rw [h] at hy
  by_cases ht : t = s
  · subst ht; rw [upd_same] at hy; cases hy; exact hx
  · rw [upd_ne _ _ ht] at hy; cases hy
theorem loads_one (c : Nat → Bytes) (k : Nat) : loads c k (k + 1) = (rdF (c k)).1 := by
  rw [loads_snoc c (Nat.le_refl _), loads_nil]; rfl
def wNm : List UInt8 := [119]
def logNm : List UInt8 := [108, 111, 103]
theorem wNm_ok : nmOk wNm := ⟨by decide, by decide⟩
theorem logNm_ok : nmOk logNm := ⟨by decide, by decide⟩
theorem look_empty : look ([] : Files) = fun _ => none := rfl
attribute [local irreducible] rRun LDI LDB LDS LDP LDSl LDM LD Go.Sh.ST AL ALM LetW CallR CallV CallI NN IX SIX Br Req mInt mBool mStr mPtr mSlice mMap mAgg mTup mCons mNil mNth mPA LoopS
section
variable {w0 w : World} {F : List Nat} {L : List Own} {K : Value → World → Prop} {db bm : Nat} {size born : Int} {l : Files} {o : Obj}
theorem parts_none {a : Option Addr} {n c : Nat} (H : St w0 F w L) (hm : List.Mem (partsO (.slice a n c) []) L) : n = 0 := by
  have := (parts_reads (H.has.all _ hm : (partsO (.slice a n c) []).holds w)).1.len
  simpa using this
theorem byte_part {b b1 : Nat} {x : UInt8} {fz : Nat × Nat} (hb : w.heap[b]? = some (.cells #[bval x] 5 fz)) (hb1 : w.heap[b1]? = some (.cells #[.slice (some ⟨b, 0, none⟩) 1 1] 41)) : ReadsP w (.slice (some ⟨b1, 0, none⟩) 1 1) [⟨some ⟨b, 0, none⟩, 1, 1, [x]⟩] := by
  refine one_part hb1 ⟨_, _, _, rfl, rfl, Nat.le_refl _, .inr ⟨_, rfl, fun j hj => ?_⟩⟩
  have : j = 0 := by simp at hj; omega
  subst this
  rw [Addr.add_mk, Nat.zero_add, cell_blk hb]
  rfl
theorem frame1_len (x : UInt8) : (frameB crc [x]).length = 6 := by
  rw [frameB_len]
  show (numB 1).length + 4 + 1 = 6
  rw [numB_small (by decide)]
  rfl
set_option maxHeartbeats 1600000 in
theorem known_walk (H : St w0 F w L) (ht : List.Mem (tabO o) L) (hK : ∀ w', St w0 F w' L → K (.bool true) w') : CallR Tryd.prog fn_glacierlaw4_known #[] w K := by
  refine glacierlaw4_known_sound _ _ ?_
  unfold glacierlaw4_known_b0
  refine new_walk (by decide) H fun w1 db bm H => ?_
  repeat (first | apply mInt_mk | apply mCons_mk | (apply xC H; rfl; (focus (repeat (first | exact List.Mem.head _ | apply List.Mem.tail | assumption))); rfl) | apply mStr_mk | apply mNil_mk | apply mSlice_mk | (apply xI H; rfl; (focus (repeat (first | exact List.Mem.head _ | apply List.Mem.tail | assumption))); rfl) | (apply xST H; rfl; (focus (repeat (first | exact Upd.here _ | apply Upd.there))); (focus (repeat (first | exact SetAt.zero _ _ | apply SetAt.succ))); rfl; intro w1 H) | (apply xSl H; rfl; (focus (repeat (first | exact List.Mem.head _ | apply List.Mem.tail | assumption))); rfl) | (apply xP H; rfl; (focus (repeat (first | exact List.Mem.head _ | apply List.Mem.tail | assumption))); rfl) | (apply xS H; rfl; (focus (repeat (first | exact List.Mem.head _ | apply List.Mem.tail | assumption))); rfl) | apply nn | (apply wLW H; intro w1 H) | apply mTup_mk | apply mAgg_mk | apply mPtr_mk | apply mBool_mk | (apply xM H; rfl; (focus (repeat (first | exact List.Mem.head _ | apply List.Mem.tail | assumption))); rfl) | (apply xB H; rfl; (focus (repeat (first | exact List.Mem.head _ | apply List.Mem.tail | assumption))); rfl) | apply wEq)
  refine brF rfl (brF rfl ?_)
  refine Open_new_walk (nm := logNm) (f := 0) (by decide) (by decide) (by decide) logNm_ok (by decide) rfl (by decide) (by decide) H ht fun w2 p l1 a n c' hl1 ht1 hn1 H => ?_
  rw [look_empty] at hl1
  have hz := parts_none H (.tail _ (.tail _ (.head _)))
  subst hz
  repeat (first | apply mInt_mk | apply mCons_mk | (apply xC H; rfl; (focus (repeat (first | exact List.Mem.head _ | apply List.Mem.tail | assumption))); rfl) | apply mStr_mk | apply mNil_mk | apply mSlice_mk | (apply xI H; rfl; (focus (repeat (first | exact List.Mem.head _ | apply List.Mem.tail | assumption))); rfl) | (apply xST H; rfl; (focus (repeat (first | exact Upd.here _ | apply Upd.there))); (focus (repeat (first | exact SetAt.zero _ _ | apply SetAt.succ))); rfl; intro w1 H) | (apply xSl H; rfl; (focus (repeat (first | exact List.Mem.head _ | apply List.Mem.tail | assumption))); rfl) | (apply xP H; rfl; (focus (repeat (first | exact List.Mem.head _ | apply List.Mem.tail | assumption))); rfl) | (apply xS H; rfl; (focus (repeat (first | exact List.Mem.head _ | apply List.Mem.tail | assumption))); rfl) | apply nn | (apply wLW H; intro w1 H) | apply mTup_mk | apply mAgg_mk | apply mPtr_mk | apply mBool_mk | (apply xM H; rfl; (focus (repeat (first | exact List.Mem.head _ | apply List.Mem.tail | assumption))); rfl) | (apply xB H; rfl; (focus (repeat (first | exact List.Mem.head _ | apply List.Mem.tail | assumption))); rfl) | apply wEq)
  refine brF rfl (brF rfl (brF rfl ?_))
  have hl1 : OneFile l1 (seg logNm 0) ([], 0) := hl1
  have hn1 : l1.length ≤ 1 := hn1
  refine wALconv Tryd.underlying41 Tryd.underlying5 H fun b w3 H => mSlice_mk ?_
  refine wAL H fun b1 w4 H => ?_
  have H := H.front (dO db bm 1000 0 l1)
  refine log_append_walk (ps := [⟨some ⟨b, 0, none⟩, 1, 1, [97]⟩]) (nm := logNm) (last := 0) (by decide) logNm_ok (by rw [ht1]; decide) (by simp) (by simp [plen]) (by simp) H (.tail _ (.tail _ (.head _))) (.tail _ (.tail _ (.tail _ (.tail _ ht))))
    (fun w' H' => byte_part (fz := (1, 2)) (H'.get (i := 2) rfl) (H'.get (i := 1) rfl)) (fun hf => ?_) fun w5 l2 hl2 ht2 hn2 H => mInt_mk ?_
  · rw [ht1] at hf
    simp [framesB, frame1_len, total] at hf
  have e1 : framesB crc ([(⟨some ⟨b, 0, none⟩, 1, 1, [97]⟩ : PartR)].map (·.bs)) = framesB crc [[97]] := rfl
  rw [e1] at hl2 ht2
  have hl2 : OneFile l2 (seg logNm 0) (framesB crc [[97]], 0) := by
    refine hl1.upd ?_
    rw [hl2, bsOf_look, synOf_look, hl1.at]; rfl
  have H := ((H.front (pt b1 (.cells #[.slice (some ⟨b, 0, none⟩) 1 1] 41))).tail.front (pt b (.cells #[.int .u8 97] 5 (1, 2)))).tail
  refine log_sync_walk (by decide) logNm_ok H (.head _) (.tail _ (.tail _ ht)) hl2.at fun w6 l3 hl3 ht3 hn3 H => mInt_mk ?_
  have hl3 : OneFile l3 (seg logNm 0) (framesB crc [[97]], (framesB crc [[97]]).length) := hl2.upd hl3
  refine wALconv Tryd.underlying41 Tryd.underlying5 H fun b2 w7 H => mSlice_mk ?_
  refine wAL H fun b3 w8 H => ?_
  have H := H.front (dO db bm 1000 0 l3)
  have hlen1 : (framesB crc [[97]]).length = 6 := by simp [framesB, frame1_len]
  have ht3 : total l3 = 6 := by rw [ht3, ht2, ht1, hlen1]; rfl
  refine log_append_walk (ps := [⟨some ⟨b2, 0, none⟩, 1, 1, [98]⟩]) (nm := logNm) (last := 0) (by decide) logNm_ok (by omega) (by simp) (by simp [plen]) (by simp) H (.tail _ (.tail _ (.head _))) (.tail _ (.tail _ (.tail _ (.tail _ ht))))
    (fun w' H' => byte_part (fz := (1, 2)) (H'.get (i := 2) rfl) (H'.get (i := 1) rfl)) (fun hf => ?_) fun w9 l4 hl4 ht4 hn4 H => mInt_mk ?_
  · rw [ht3] at hf
    simp [framesB, frame1_len] at hf
  have e2 : framesB crc ([(⟨some ⟨b2, 0, none⟩, 1, 1, [98]⟩ : PartR)].map (·.bs)) = framesB crc [[98]] := rfl
  rw [e2] at hl4 ht4
  have hlen2 : (framesB crc [[98]]).length = 6 := by simp [framesB, frame1_len]
  have hlen3 : (framesB crc [[97], [98]]).length = 12 := by simp [framesB, frame1_len]
  have hl4 : OneFile l4 (seg logNm 0) (framesB crc [[97], [98]], 6) := by
    refine hl3.upd ?_
    rw [hl4, bsOf_look, synOf_look, hl3.at]
    simp [framesB, frame1_len]
  have H := ((H.front (pt b3 (.cells #[.slice (some ⟨b2, 0, none⟩) 1 1] 41))).tail.front (pt b2 (.cells #[.int .u8 98] 5 (1, 2)))).tail
  refine wAL H fun b4 w10 H => ?_
  have H := H.front (dO db bm 1000 0 l4)
  have hx : Ext w10 [dO db bm 1000 0 l4] 1 (.slice (some ⟨b4, 0, none⟩) 1 1) (ints [3]) := ext_pt (A := [_]) H (List.mem_cons_self ..) rfl (Nat.le_refl _) rfl
  have hnd := St.nodup H
  refine crash_walk H hx (by omega) (hl4.whole (by rw [hlen3]; decide)) (by omega) fun w11 l5 hc H => ?_
  repeat (first | apply mInt_mk | apply mCons_mk | (apply xC H; rfl; (focus (repeat (first | exact List.Mem.head _ | apply List.Mem.tail | assumption))); rfl) | apply mStr_mk | apply mNil_mk | apply mSlice_mk | (apply xI H; rfl; (focus (repeat (first | exact List.Mem.head _ | apply List.Mem.tail | assumption))); rfl) | (apply xST H; rfl; (focus (repeat (first | exact Upd.here _ | apply Upd.there))); (focus (repeat (first | exact SetAt.zero _ _ | apply SetAt.succ))); rfl; intro w1 H) | (apply xSl H; rfl; (focus (repeat (first | exact List.Mem.head _ | apply List.Mem.tail | assumption))); rfl) | (apply xP H; rfl; (focus (repeat (first | exact List.Mem.head _ | apply List.Mem.tail | assumption))); rfl) | (apply xS H; rfl; (focus (repeat (first | exact List.Mem.head _ | apply List.Mem.tail | assumption))); rfl) | apply nn | (apply wLW H; intro w1 H) | apply mTup_mk | apply mAgg_mk | apply mPtr_mk | apply mBool_mk | (apply xM H; rfl; (focus (repeat (first | exact List.Mem.head _ | apply List.Mem.tail | assumption))); rfl) | (apply xB H; rfl; (focus (repeat (first | exact List.Mem.head _ | apply List.Mem.tail | assumption))); rfl) | apply wEq)
  have hl5 := hl4.crash hnd hc
  have ecr : crashF (([3] : List Int)[0]?) (framesB crc [[97], [98]], 6) = ((framesB crc [[97], [98]]).take 9, 9) := by
    have : pickK (([3] : List Int)[0]?) ((framesB crc [[97], [98]]).length - 6) = 3 := by rw [hlen3]; decide
    unfold crashF
    simp only [this]
  rw [ecr] at hl5
  have hps : ∀ q ∈ ([[97], [98]] : List Bytes), q.length ≤ 67108864 := by simp
  have hwf : wholeF crc [[97], [98]] 9 = 1 := by
    simp only [wholeF, frame1_len]; decide
  have hkp : kept ((framesB crc [[97], [98]]).take 9) = framesB crc [[97]] := by rw [kept_take hps (by rw [hlen3]; decide), hwf]; rfl
  have hld : loads (fun _ => (framesB crc [[97], [98]]).take 9) 0 (0 + 1) = [[97]] := by rw [loads_one, rdF_take hps (by rw [hlen3]; decide), hwf]; rfl
  have ht5 : total l5 ≤ 12 := by
    have := hc.less
    omega
  have hn5 : l5.length ≤ 10 := by
    have h1 := congrArg List.length hc.keys
    simp [keysOf] at h1
    have h0 : ([] : Files).length = 0 := rfl
    omega
  have H := (H.front (pt b4 (.cells #[.int .i64 3] 3))).tail
  refine Open_walk (nm := logNm) (f := 0) (s := 0) (by decide) (by decide) (by decide) logNm_ok (hl5.log (by decide)) (fun _ => by simp; omega) (by rw [hld]; decide) (by omega) (by omega) (by rw [hkp, hlen1]; omega) H (.tail _ (.tail _ ht)) fun w12 p2 l6 qs qa qn qc hqs hop H => ?_
  rw [hld] at hqs
  obtain ⟨q, rfl⟩ : ∃ q, qs = [q] := by
    cases qs with
    | nil => cases hqs
    | cons q t => cases t with
      | nil => exact ⟨q, rfl⟩
      | cons _ _ => simp at hqs
  have hqb : q.bs = [97] := by simpa using hqs
  have hrd := parts_reads (H.get (i := 2) rfl : (partsO (.slice qa qn qc) [q]).holds w12)
  have hqn : qn = 1 := by simpa using hrd.1.len
  subst hqn
  repeat (first | apply mInt_mk | apply mCons_mk | (apply xC H; rfl; (focus (repeat (first | exact List.Mem.head _ | apply List.Mem.tail | assumption))); rfl) | apply mStr_mk | apply mNil_mk | apply mSlice_mk | (apply xI H; rfl; (focus (repeat (first | exact List.Mem.head _ | apply List.Mem.tail | assumption))); rfl) | (apply xST H; rfl; (focus (repeat (first | exact Upd.here _ | apply Upd.there))); (focus (repeat (first | exact SetAt.zero _ _ | apply SetAt.succ))); rfl; intro w1 H) | (apply xSl H; rfl; (focus (repeat (first | exact List.Mem.head _ | apply List.Mem.tail | assumption))); rfl) | (apply xP H; rfl; (focus (repeat (first | exact List.Mem.head _ | apply List.Mem.tail | assumption))); rfl) | (apply xS H; rfl; (focus (repeat (first | exact List.Mem.head _ | apply List.Mem.tail | assumption))); rfl) | apply nn | (apply wLW H; intro w1 H) | apply mTup_mk | apply mAgg_mk | apply mPtr_mk | apply mBool_mk | (apply xM H; rfl; (focus (repeat (first | exact List.Mem.head _ | apply List.Mem.tail | assumption))); rfl) | (apply xB H; rfl; (focus (repeat (first | exact List.Mem.head _ | apply List.Mem.tail | assumption))); rfl) | apply wEq)
  refine brT (by decide) (brT (by decide) ?_)
  refine wIXr hrd.1 (i := 0) (by simp) rfl fun ad had => ?_
  refine ldSl (b := q.a) (l := q.n) (c := q.c) had ?_
  refine wConvS (hrd.2 q (by simp)) Tryd.underlying41 Tryd.underlying5 Tryd.underlying9 (mStr_mk ?_)
  have e1 : (⟨q.bs.toArray⟩ : ByteArray).toList = [97] := by rw [hqb]; exact bstr_toList [97]
  have e2 : (⟨#[97]⟩ : ByteArray).toList = [97] := bstr_toList [97]
  rw [e1, e2]
  refine brT (by decide) ?_
  refine Segment_walk (name := logNm) (n := 7) (by decide) (by decide) H (.tail _ (.tail _ (.tail _ (.tail _ (.tail _ ht))))) fun w13 H => mStr_mk ?_
  have e3 : (seg logNm 7).toList = segL logNm 7 := bstr_toList _
  have e4 : (⟨#[108, 111, 103, 45, 48, 48, 48, 48, 48, 55]⟩ : ByteArray).toList = segL logNm 7 := bstr_toList _
  rw [e3, e4, beq_self_eq_true]
  exact hK w13 H.tail.tail.tail.tail.tail
end
end Go.Proofs.YtnhjcjnjpciifaaDoor
