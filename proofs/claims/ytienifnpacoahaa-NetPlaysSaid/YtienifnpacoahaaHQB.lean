/- The reference's net in memory: lay, Send, Double, Deliver, Clear. -/
import Derived.Test.YtienifnpacoahaaHQ
namespace Go.Proofs.Ytienifnpacoahaa
open Go.Sh
attribute [local irreducible] rRun LDI LDB LDS LDP LDSl LDM LD Go.Sh.ST AL ALM LetW CallR CallV CallI NN IX SIX Br Req mInt mBool mStr mPtr mSlice mMap mAgg mTup mCons mNil mNth mPA LoopS

section
variable {w0 w : World} {F : List Nat} {L M : List Own} {rb : Nat} {nd bd tm : Int} {R : RefR}
theorem own_one (m : RMsg) (h : SliceAt w 5 1 m.v (bvals m.bs)) : ∀ u ∈ m.cells, u.oneCell' = true := by
  intro u hu
  obtain ⟨a, n, c, hv, _⟩ := h
  simp [RMsg.cells] at hu
  rcases hu with rfl | rfl | rfl
  · rfl
  · rfl
  · rw [hv]; rfl
def goesR (nd bd : Int) (l : List RMsg) (f t : Int) : Prop := (0 ≤ f ∧ f < nd) ∧ (0 ≤ t ∧ t < nd) ∧ (cnt l f t : Int) < bd
/-- lay. -/
theorem lay_walk {f t : Int} {ba : Option Addr} {bn bc : Nat} {bs : List UInt8} {K : Value → World → Prop} (H : St w0 F w (refO rb nd bd tm R :: L)) (hl : R.l.length ≤ 1000000)
    (hb : Reads w 1 (.slice ba bn bc) (bvals bs)) (hbs : bs.length ≤ 1000000)
    (h0 : ¬ goesR nd bd R.l f t → ∀ w', St w0 F w' (refO rb nd bd tm R :: L) → K (.bool false) w')
    (hK : goesR nd bd R.l f t → ∀ w' R' v, R'.l = R.l ++ [⟨f, t, v, bs⟩] → St w0 F w' (refO rb nd bd tm R' :: L) → K (.bool true) w') :
    CallR Try.prog fn_glacierref3_Net_lay #[.pointer (some ⟨rb, 0, none⟩), .agg #[.int .i64 f, .int .i64 t, .slice ba bn bc]] w K := by
  refine glacierref3_Net_lay_sound _ _ _ _ _ _ _ _ ?_
  have H := H.refOpen
  refine al H fun q w1 _ hf1 H => ?_
  refine lw H fun w2 hw2 H => ?_
  have hb : Reads w2 1 (.slice ba bn bc) (bvals bs) := hb.of fun x hx => by rw [hw2]; exact hf1.block x (hb.lt (by decide) x hx) (by simp)
  have H : St w0 F w2 (refP rb nd bd tm R :: refS R :: refM R.l :: pt q (.cells #[.int .i64 f, .int .i64 t, .slice ba bn bc] 31) :: L) := ((H.front (refM R.l)).front (refS R)).front (refP rb nd bd tm R)
  have hno : ¬ goesR nd bd R.l f t → K (.bool false) w2 := fun h => h0 h w2 (H.refClose.front (pt q (.cells #[.int .i64 f, .int .i64 t, .slice ba bn bc] 31))).tail
  have hcl := cnt_le R.l f t
  refine wI H (hK := ?_)
  refine br (fun h => hno (fun hg => by have := hg.1.1; simp at h; omega)) (fun h1 => ?_)
  refine wI H (hK := nn ?_)
  refine wI H (j := 0) (hK := ?_)
  refine br (fun h => hno (fun hg => by have := hg.1.2; simp at h; omega)) (fun h2 => ?_)
  refine wI H (hK := ?_)
  refine br (fun h => hno (fun hg => by have := hg.2.1.1; simp at h; omega)) (fun h3 => ?_)
  refine wI H (hK := nn ?_)
  refine wI H (j := 0) (hK := ?_)
  refine br (fun h => hno (fun hg => by have := hg.2.1.2; simp at h; omega)) (fun h4 => ?_)
  refine wI H (hK := wI H (hK := nn ?_))
  refine wI H (j := 1) (hK := ?_)
  refine Count_walk H hl (mInt_mk ⟨H.at (j := 1) rfl (.head _) rfl, ?_⟩)
  refine br (fun h => hno (fun hg => by have := hg.2.2; simp at h; omega)) (fun h5 => ?_)
  have hg : goesR nd bd R.l f t := by
    simp at h1 h2 h3 h4 h5
    exact ⟨⟨h1, h2⟩, ⟨h3, h4⟩, h5⟩
  refine al H fun b w3 _ hf3 H => ?_
  have hb : Reads w3 1 (.slice ba bn bc) (bvals bs) := hb.of fun x hx => hf3.block x (hb.lt (by decide) x hx) (by simp)
  have H := (H.tail.nothing 5 1 (some ⟨b, 0, none⟩))
  refine wSl H (hK := ?_)
  obtain ⟨n1, hn1, hsrc⟩ := hb.src (P := Try.prog) (tx := 22) elem_bytes.under (bvals_one bs)
  refine append_own (t := 22) (n := n1) elem_bytes (i := 0) H rfl hsrc (by simp; omega) (by decide) fun v' w4 H _ _ => ?_
  obtain ⟨va, vn, vc, rfl, _⟩ := slice_of (H.get (i := 0) rfl : SliceAt _ _ _ _ _)
  rw [List.nil_append] at H
  have H : St w0 F w4 (sliceO 5 1 (.slice va vn vc) (bvals bs) :: pt rb (.cells #[.int .i64 nd, .int .i64 bd, .int .i64 tm, .slice R.a R.n R.c] 61) :: refS R :: refM R.l :: pt q (.cells #[.int .i64 f, .int .i64 t, .slice ba bn bc] 31) :: L) := H
  repeat (first | refine nn ?_ | refine wI H (hK := ?_) | refine wP H (hK := ?_) | refine wM H (hK := ?_) | refine wSl H (hK := ?_) | refine wB H (hK := ?_) | refine wS H (hK := ?_) | refine wEq ?_ | refine wC H (hK := ?_) | (refine wLW H ?_; intro w1 H) | (refine wST H (hK := ?_); intro w1 H _) | refine mSlice_mk ?_ | refine mInt_mk ?_ | refine mBool_mk ?_ | refine mTup_mk ?_ | refine mCons_mk ?_ | refine mNil_mk ?_ | refine mAgg_mk ?_ | refine mPtr_mk ?_ | refine mStr_mk ?_)
  refine wAL H fun b1 w5 H => ?_
  refine wC H (b := rb) (j := 3) (hK := ?_)
  have hsrc : Reads w5 3 (.slice (some ⟨b1, 0, none⟩) 1 1) (RMsg.cells ⟨f, t, .slice va vn vc, bs⟩) := by
    refine ⟨_, _, _, rfl, rfl, Nat.le_refl _, .inr ⟨_, rfl, fun j hj => ?_⟩⟩
    rw [Addr.add_mk, Nat.zero_add, cell_blk (H.blk (i := 0) rfl)]
    have hj : j = 0 ∨ j = 1 ∨ j = 2 := by
      have : j < 3 := hj
      omega
    rcases hj with rfl | rfl | rfl <;> rfl
  obtain ⟨n2, hn2, hs⟩ := hsrc.src (P := Try.prog) (tx := 59) elem_msg.under (by intro u hu; simp [RMsg.cells] at hu; rcases hu with rfl | rfl | rfl <;> rfl)
  have hlen : (R.l.flatMap RMsg.cells).length = R.l.length * 3 := flat_length cells_len R.l
  refine append_own (t := 59) (n := n2) elem_msg (i := 3) H rfl hs (by rw [hlen, cells_len]; omega) (by decide) fun v' w6 H _ _ => ?_
  obtain ⟨xa, xn, xc, rfl, _⟩ := slice_of (H.get (i := 3) rfl : SliceAt _ _ _ _ _)
  refine mSlice_mk (nn ?_)
  have e : R.l.flatMap RMsg.cells ++ RMsg.cells ⟨f, t, .slice va vn vc, bs⟩ = (R.l ++ [RMsg.mk f t (.slice va vn vc) bs]).flatMap RMsg.cells := by simp
  rw [e] at H
  have H : St w0 F w6 (pt b1 (.cells #[.int .i64 f, .int .i64 t, .slice va vn vc] 31) :: sliceO 5 1 (.slice va vn vc) (bvals bs) :: pt rb (.cells #[.int .i64 nd, .int .i64 bd, .int .i64 tm, .slice R.a R.n R.c] 61) ::
    sliceO 31 3 (.slice xa xn xc) ((R.l ++ [RMsg.mk f t (.slice va vn vc) bs]).flatMap RMsg.cells) :: refM R.l :: pt q (.cells #[.int .i64 f, .int .i64 t, .slice va vn vc] 31) :: L) := H
  repeat (first | refine nn ?_ | refine wI H (hK := ?_) | refine wP H (hK := ?_) | refine wM H (hK := ?_) | refine wSl H (hK := ?_) | refine wB H (hK := ?_) | refine wS H (hK := ?_) | refine wEq ?_ | refine wC H (hK := ?_) | (refine wLW H ?_; intro w1 H) | (refine wST H (hK := ?_); intro w1 H _) | refine mSlice_mk ?_ | refine mInt_mk ?_ | refine mBool_mk ?_ | refine mTup_mk ?_ | refine mCons_mk ?_ | refine mNil_mk ?_ | refine mAgg_mk ?_ | refine mPtr_mk ?_ | refine mStr_mk ?_)
  have H := ((H.tail.front (refM R.l)).front (sliceO 5 1 (.slice va vn vc) (bvals bs)))
  have H := St.into (M := (R.l ++ [RMsg.mk f t (.slice va vn vc) bs]).map RMsg.own) H (by
    rw [List.map_append]
    exact List.perm_append_comm (l₁ := R.l.map RMsg.own) (l₂ := [RMsg.own (RMsg.mk f t (.slice va vn vc) bs)]))
  have H := ((H.front (sliceO 31 3 (.slice xa xn xc) ((R.l ++ [RMsg.mk f t (.slice va vn vc) bs]).flatMap RMsg.cells))).front (pt rb (.cells #[.int .i64 nd, .int .i64 bd, .int .i64 tm, .slice xa xn xc] 61)))
  have H := St.refClose (R := ⟨xa, xn, xc, R.l ++ [RMsg.mk f t (.slice va vn vc) bs]⟩) H
  have H := (H.front (pt q (.cells #[.int .i64 f, .int .i64 t, .slice va vn vc] 31))).tail
  exact hK hg _ _ (.slice va vn vc) rfl H

/-- Sending, on the reference's messages. -/
inductive SentR (nd bd f : Int) (bs : List UInt8) (l : List RMsg) : List Int → List RMsg → Nat → Prop
  | nil : SentR nd bd f bs l [] l 0
  | lay {ts : List Int} {l1 : List RMsg} {c : Nat} {t : Int} (v : Value) : SentR nd bd f bs l ts l1 c → goesR nd bd l1 f t → SentR nd bd f bs l (ts ++ [t]) (l1 ++ [⟨f, t, v, bs⟩]) (c + 1)
  | skip {ts : List Int} {l1 : List RMsg} {c : Nat} {t : Int} : SentR nd bd f bs l ts l1 c → ¬ goesR nd bd l1 f t → SentR nd bd f bs l (ts ++ [t]) l1 c
theorem SentR.le {nd bd f : Int} {bs : List UInt8} {l l1 : List RMsg} {ts : List Int} {c : Nat} (h : SentR nd bd f bs l ts l1 c) : c ≤ ts.length ∧ l1.length = l.length + c := by
  induction h with
  | nil => exact ⟨Nat.le_refl _, rfl⟩
  | lay _ _ _ ih => simp; omega
  | skip _ _ ih => simp; omega

theorem rSend_spec {f : Int} {b tb : Option Addr} {bn bc tn tc : Nat} {bs : List UInt8} {tos : List Int} (hA : Has w [refO rb nd bd tm R])
    (hb : Ext w [refO rb nd bd tm R] 1 (.slice b bn bc) (bvals bs)) (hbs : bs.length ≤ 1000000) (ht : Ext w [refO rb nd bd tm R] 1 (.slice tb tn tc) (ints tos)) (htn : tos.length ≤ 1000) (hl : R.l.length ≤ 900000) :
    CallS Try.prog fn_glacierref3_Net_Send #[.pointer (some ⟨rb, 0, none⟩), .int .i64 f, .slice b bn bc, .slice tb tn tc] w [refO rb nd bd tm R] fun r _ A =>
      ∃ R' c, SentR nd bd f bs R.l tos R'.l c ∧ r = .int .i64 c ∧ A = [refO rb nd bd tm R'] := by
  have htl : tn = tos.length := by have := ht.1.len; simpa [ints] using this
  subst htl
  refine CallS_intro hA fun H => glacierref3_Net_Send_sound _ _ _ _ _ _ _ _ _ _ ?_
  refine wLoop (fun k s w' => ∃ (i c : Nat) (R' : RefR), k + i = tos.length ∧ s = (some ⟨rb, 0, none⟩, f, b, bn, bc, tb, tos.length, tc, (c : Int), (i : Int)) ∧ SentR nd bd f bs R.l (tos.take i) R'.l c ∧
    St w (fps [refO rb nd bd tm R]) w' [refO rb nd bd tm R']) ?_ ?_
  · exact ⟨tos.length, 0, 0, R, by omega, rfl, by simpa using SentR.nil, H⟩
  rintro k s w1 ⟨i, c, R', hk, rfl, hs, H⟩
  have hle := hs.le
  have htk : (tos.take i).length ≤ tos.length := (List.take_sublist i tos).length_le
  refine br (fun h => ?_) (fun h => ?_)
  · have hi : i < tos.length := by simp at h; omega
    obtain ⟨t, hti⟩ : ∃ t, tos[i]? = some t := ⟨_, List.getElem?_eq_getElem hi⟩
    have htk2 : tos.take (i + 1) = tos.take i ++ [t] := by
      obtain ⟨hi', he⟩ := List.getElem?_eq_some_iff.1 hti
      rw [← List.take_append_getElem hi', he]
    have hw1 : IntKind.wrap .i64 ((i : Int) + 1) = ((i + 1 : Nat) : Int) := by rw [wrap_id (by omega) (by omega)]; rfl
    have hw2 : IntKind.wrap .i64 ((c : Int) + 1) = ((c + 1 : Nat) : Int) := by rw [wrap_id (by omega) (by omega)]; rfl
    refine wIXr (ht.reads (by decide) H.fr) (i := i) (by simpa [ints] using hi) rfl fun ad had => ?_
    refine ldI (had.trans (show (ints tos)[i]? = some (.int .i64 t) by simp [ints, hti])) ?_
    refine lay_walk H (by omega) (hb.reads (by decide) H.fr) hbs (fun hg w' H => ?_) (fun hg w' R2 v hR2 H => ?_)
    · refine mBool_mk (br (fun h => by cases h) (fun _ => ?_))
      refine ⟨k - 1, by omega, i + 1, c, R', by omega, by rw [hw1], by rw [htk2]; exact hs.skip hg, H⟩
    · refine mBool_mk (br (fun _ => ?_) (fun h => by cases h))
      refine ⟨k - 1, by omega, i + 1, c + 1, R2, by omega, by rw [hw1, hw2], by rw [htk2, hR2]; exact hs.lay v hg, H⟩
  · have hi : tos.length ≤ i := by simp at h; omega
    rw [List.take_of_length_le hi] at hs
    exact ⟨_, ⟨R', c, hs, rfl, rfl⟩, H⟩

theorem rDouble_spec {f t p : Int} (hA : Has w [refO rb nd bd tm R]) (hl : R.l.length ≤ 900000) (hbs : ∀ m ∈ R.l, m.bs.length ≤ 1000000) :
    CallS Try.prog fn_glacierref3_Net_Double #[.pointer (some ⟨rb, 0, none⟩), .int .i64 f, .int .i64 t, .int .i64 p] w [refO rb nd bd tm R] fun r _ A =>
      (pickR R.l f t p = none ∧ r = .bool false ∧ A = [refO rb nd bd tm R]) ∨
      (∃ i m, pickR R.l f t p = some i ∧ R.l[i]? = some m ∧ ((¬ goesR nd bd R.l m.f m.t ∧ r = .bool false ∧ A = [refO rb nd bd tm R]) ∨
        (goesR nd bd R.l m.f m.t ∧ r = .bool true ∧ ∃ R' v, R'.l = R.l ++ [⟨m.f, m.t, v, m.bs⟩] ∧ A = [refO rb nd bd tm R']))) := by
  refine CallS_intro hA fun H => glacierref3_Net_Double_sound _ _ _ _ _ _ ?_
  have Ho := H.refOpen
  refine meant_walk2 Ho (by omega) (fun hn => mInt_mk ?_) (fun i hp hi => mInt_mk ?_)
  · refine br (fun h => absurd h (by decide)) (fun _ => ⟨_, .inl ⟨hn, rfl, rfl⟩, H⟩)
  · refine br (fun _ => ?_) (fun h => by simp at h)
    obtain ⟨m, hm⟩ : ∃ m, R.l[i]? = some m := ⟨_, List.getElem?_eq_getElem hi⟩
    refine nn ?_
    refine wSl Ho (j := 3) (hK := ?_)
    refine wIXm Ho hm rfl fun ad c0 c1 c2 => ?_
    have hms := msg_slice Ho (List.mem_of_getElem? hm)
    obtain ⟨va, vn, vc, hv, _⟩ := slice_of hms
    rw [hv] at hms c2
    refine ldI c0 (ldI c1 (ldSl c2 ?_))
    refine lay_walk H (by omega) hms.reads (hbs m (List.mem_of_getElem? hm)) (fun hg w' H => mBool_mk ?_) (fun hg w' R' v hR' H => mBool_mk ?_)
    · exact ⟨_, .inr ⟨i, m, hp, hm, .inl ⟨hg, rfl, rfl⟩⟩, H⟩
    · exact ⟨_, .inr ⟨i, m, hp, hm, .inr ⟨hg, rfl, R', v, hR', rfl⟩⟩, H⟩
end
end Go.Proofs.Ytienifnpacoahaa
