/- step. -/
import Derived.Test.YtienifnpacoahaaHRC
namespace Go.Proofs.Ytienifnpacoahaa
open Go.Sh
attribute [local irreducible] rRun LDI LDB LDS LDP LDSl LDM LD Go.Sh.ST AL ALM LetW CallR CallV CallI NN IX SIX Br Req mInt mBool mStr mPtr mSlice mMap mAgg mTup mCons mNil mNth mPA LoopS

theorem Ext.sub {w w' : World} {A B : List Own} {sz : Nat} {v : Value} {cs : List Value} (hsz : 0 < sz) (h : Ext w A sz v cs) (hf : Fr (fps A) w w') (hB : ∀ b ∈ fps B, b ∈ fps A) : Ext w' B sz v cs :=
  ⟨h.reads hsz hf, fun b hb hc => h.2 b hb (hB b hc)⟩
theorem rows_le : ∀ {l : Bags}, RowsOk l → l.length ≤ total l
  | [], _ => Nat.zero_le _
  | e :: l, h => by
    have h1 := rows_le (l := l) fun x hx => h x (List.mem_cons_of_mem _ hx)
    have h2 : 0 < e.2.2.length := List.length_pos_iff.2 (h e (List.mem_cons_self ..))
    unfold total at h1 ⊢
    simp
    omega

section
variable {w0 w : World} {F : List Nat} {L M : List Own} {rb nb bm : Nat} {nd bd tm : Int} {R : RefR} {l : Bags}
def stepQ (nb bm rb : Nat) (nd bd tm : Int) (n0 : Nat) : Value → World → List Own → Prop := fun r _ A =>
  r = .bool true ∧ ∃ l' R' tm', Same nd bd l' R'.l ∧ R'.l.length ≤ n0 + 101 ∧ tm ≤ tm' ∧ tm' ≤ tm + 1 ∧ A = [netO nb bm nd bd tm' l', refO rb nd bd tm' R']

set_option maxHeartbeats 4000000 in
theorem step_spec {x : ActR} (hA : Has w [netO nb bm nd bd tm l, refO rb nd bd tm R]) (hs : Same nd bd l R.l) (hbd : 1 ≤ bd ∧ bd ≤ 65536) (hrl : R.l.length ≤ 800000) (htm : 0 ≤ tm ∧ tm ≤ 1000000)
    (ht : Ext w [netO nb bm nd bd tm l, refO rb nd bd tm R] 1 (.slice x.ta x.tn x.tc) (ints x.tos)) (hb : Ext w [netO nb bm nd bd tm l, refO rb nd bd tm R] 1 (.slice x.ba x.bn x.bc) (bvals x.bs)) (htl : x.tos.length ≤ 100) (hbl : x.bs.length ≤ 1000) :
    CallS Try.prog fn_glacierlaw3_step #[.pointer (some ⟨nb, 0, none⟩), .pointer (some ⟨rb, 0, none⟩), .agg #[.int .i64 x.op, .int .i64 x.f, .int .i64 x.t, .int .i64 x.p, .slice x.ta x.tn x.tc, .slice x.ba x.bn x.bc]] w [netO nb bm nd bd tm l, refO rb nd bd tm R] (stepQ nb bm rb nd bd tm R.l.length) := by
  refine CallS_intro hA fun H => glacierlaw3_step_sound _ _ _ _ _ _ _ _ _ _ _ _ _ _ ?_
  have hkn : (l.map (·.1)).Nodup := by
    have Hn := H.netOpen
    exact bags_nodup (Hn.has.all (bagsM bm l) (by simp))
  have hcap : ∀ f t, (row l (f, t)).2.length ≤ 65536 := fun f t => by
    rw [hs.len]
    have := hs.ref.cap f t
    omega
  have hsmall : ∀ f t, ∀ m ∈ (row l (f, t)).2, m.2.length ≤ 1000000 := fun f t m hm => by
    have h1 : m.2 ∈ cts l (f, t) := List.mem_map.2 ⟨m, hm, rfl⟩
    rw [hs.bags] at h1
    obtain ⟨r, hr, he⟩ := List.mem_map.1 h1
    have := hs.ref.small r (List.mem_filter.1 hr).1
    rw [← he]
    omega
  have hR9 : R.l.length ≤ 900000 := by omega
  have subN : ∀ b ∈ fps [netO nb bm nd bd tm l], b ∈ fps [netO nb bm nd bd tm l, refO rb nd bd tm R] := fun b hb => by simp at hb ⊢; exact .inl hb
  have subR : ∀ b ∈ fps [refO rb nd bd tm R], b ∈ fps [netO nb bm nd bd tm l, refO rb nd bd tm R] := fun b hb => by simp at hb ⊢; exact .inr hb
  refine wAL H fun q w1 H => ?_
  have H : St w (fps [netO nb bm nd bd tm l, refO rb nd bd tm R]) w1 [pt q (.cells #[.int .i64 x.op, .int .i64 x.f, .int .i64 x.t, .int .i64 x.p, .slice x.ta x.tn x.tc, .slice x.ba x.bn x.bc] 39), netO nb bm nd bd tm l, refO rb nd bd tm R] := H
  refine wI H (j := 0) (hK := ?_)
  have fin : ∀ w' l' R' tm', Same nd bd l' R'.l → R'.l.length ≤ R.l.length + 101 → tm ≤ tm' → tm' ≤ tm + 1 → St w (fps [netO nb bm nd bd tm l, refO rb nd bd tm R]) w' [netO nb bm nd bd tm' l', refO rb nd bd tm' R'] →
      ∃ A', stepQ nb bm rb nd bd tm R.l.length (.bool true) w' A' ∧ St w (fps [netO nb bm nd bd tm l, refO rb nd bd tm R]) w' A' := fun w' l' R' tm' h1 h2 h3 h4 H => ⟨_, ⟨rfl, l', R', tm', h1, h2, h3, h4, rfl⟩, H⟩
  refine br (fun _ => ?_) (fun _ => ?_)
  · -- Send
    repeat (first | refine nn ?_ | refine wI H (hK := ?_) | refine wP H (hK := ?_) | refine wM H (hK := ?_) | refine wSl H (hK := ?_) | refine wB H (hK := ?_) | refine wS H (hK := ?_) | refine wEq ?_ | refine wC H (hK := ?_) | (refine wLW H ?_; intro w1 H) | (refine wST H (hK := ?_); intro w1 H _) | refine mSlice_mk ?_ | refine mInt_mk ?_ | refine mBool_mk ?_ | refine mTup_mk ?_ | refine mCons_mk ?_ | refine mNil_mk ?_ | refine mAgg_mk ?_ | refine mPtr_mk ?_ | refine mStr_mk ?_)
    refine wCall H (fun hA => Send_spec (bs := x.bs) (tos := x.tos) hA (by omega) (Ext.sub (by decide) hb H.fr subN) (by omega) (Ext.sub (by decide) ht H.fr subN) (by omega)) (hK := ?_)
    rintro r w2 A' ⟨l', c, hsent, rfl, rfl⟩ _ H
    have H : St w (fps [netO nb bm nd bd tm l, refO rb nd bd tm R]) w2 [netO nb bm nd bd tm l', pt q (.cells #[.int .i64 x.op, .int .i64 x.f, .int .i64 x.t, .int .i64 x.p, .slice x.ta x.tn x.tc, .slice x.ba x.bn x.bc] 39), refO rb nd bd tm R] := H
    refine mInt_mk ?_
    refine wC H (b := q) (j := 4) (hK := ?_)
    refine wC H (b := q) (j := 5) (hK := ?_)
    refine wC H (b := q) (j := 1) (hK := ?_)
    refine wCall H (fun hA => rSend_spec (bs := x.bs) (tos := x.tos) hA (Ext.sub (by decide) hb H.fr subR) (by omega) (Ext.sub (by decide) ht H.fr subR) (by omega) (by omega)) (hK := ?_)
    rintro r w3 A' ⟨R', c', hsentR, rfl, rfl⟩ _ H
    obtain ⟨hs', hcc⟩ := hs.send hsent hsentR hbl
    have hle := hsentR.le
    refine mInt_mk ?_
    subst hcc
    have H : St w (fps [netO nb bm nd bd tm l, refO rb nd bd tm R]) w3 [refO rb nd bd tm R', netO nb bm nd bd tm l', pt q (.cells #[.int .i64 x.op, .int .i64 x.f, .int .i64 x.t, .int .i64 x.p, .slice x.ta x.tn x.tc, .slice x.ba x.bn x.bc] 39)] := H
    have := fin w3 l' R' tm hs' (by omega) (Int.le_refl _) (by omega) ((H.front (netO nb bm nd bd tm l')).left (L := [_, _]))
    simpa using this
  refine br (fun _ => ?_) (fun _ => ?_)
  · -- Deliver
    repeat (first | refine nn ?_ | refine wI H (hK := ?_) | refine wP H (hK := ?_) | refine wM H (hK := ?_) | refine wSl H (hK := ?_) | refine wB H (hK := ?_) | refine wS H (hK := ?_) | refine wEq ?_ | refine wC H (hK := ?_) | (refine wLW H ?_; intro w1 H) | (refine wST H (hK := ?_); intro w1 H _) | refine mSlice_mk ?_ | refine mInt_mk ?_ | refine mBool_mk ?_ | refine mTup_mk ?_ | refine mCons_mk ?_ | refine mNil_mk ?_ | refine mAgg_mk ?_ | refine mPtr_mk ?_ | refine mStr_mk ?_)
    refine wCall H (fun hA => Deliver_spec (l := l) hA (hcap x.f x.t)) (hK := ?_)
    rintro r w2 A' (⟨hnil, rfl, rfl⟩ | ⟨hne, m', v, hm', rfl, rfl⟩) _ H
    · repeat (first | refine nn ?_ | refine wI H (hK := ?_) | refine wP H (hK := ?_) | refine wM H (hK := ?_) | refine wSl H (hK := ?_) | refine wB H (hK := ?_) | refine wS H (hK := ?_) | refine wEq ?_ | refine wC H (hK := ?_) | (refine wLW H ?_; intro w1 H) | (refine wST H (hK := ?_); intro w1 H _) | refine mSlice_mk ?_ | refine mInt_mk ?_ | refine mBool_mk ?_ | refine mTup_mk ?_ | refine mCons_mk ?_ | refine mNil_mk ?_ | refine mAgg_mk ?_ | refine mPtr_mk ?_ | refine mStr_mk ?_)
      refine wAL H fun a w3 H => ?_
      have H : St w (fps [netO nb bm nd bd tm l, refO rb nd bd tm R]) w3 [pt a (.cells #[.int .i64 0, .int .i64 0, .slice none 0 0] 31), netO nb bm nd bd tm l, pt q (.cells #[.int .i64 x.op, .int .i64 x.f, .int .i64 x.t, .int .i64 x.p, .slice x.ta x.tn x.tc, .slice x.ba x.bn x.bc] 39), refO rb nd bd tm R] := H
      repeat (first | refine nn ?_ | refine wI H (hK := ?_) | refine wP H (hK := ?_) | refine wM H (hK := ?_) | refine wSl H (hK := ?_) | refine wB H (hK := ?_) | refine wS H (hK := ?_) | refine wEq ?_ | refine wC H (hK := ?_) | (refine wLW H ?_; intro w1 H) | (refine wST H (hK := ?_); intro w1 H _) | refine mSlice_mk ?_ | refine mInt_mk ?_ | refine mBool_mk ?_ | refine mTup_mk ?_ | refine mCons_mk ?_ | refine mNil_mk ?_ | refine mAgg_mk ?_ | refine mPtr_mk ?_ | refine mStr_mk ?_)
      refine wCall H (fun hA => rDeliver_spec hA hR9) (hK := ?_)
      rintro r w4 A' (⟨_, rfl, rfl⟩ | ⟨i, m, hp, _⟩) _ H
      · repeat (first | refine nn ?_ | refine wI H (hK := ?_) | refine wP H (hK := ?_) | refine wM H (hK := ?_) | refine wSl H (hK := ?_) | refine wB H (hK := ?_) | refine wS H (hK := ?_) | refine wEq ?_ | refine wC H (hK := ?_) | (refine wLW H ?_; intro w1 H) | (refine wST H (hK := ?_); intro w1 H _) | refine mSlice_mk ?_ | refine mInt_mk ?_ | refine mBool_mk ?_ | refine mTup_mk ?_ | refine mCons_mk ?_ | refine mNil_mk ?_ | refine mAgg_mk ?_ | refine mPtr_mk ?_ | refine mStr_mk ?_)
        refine wAL H fun b w5 H => ?_
        have H : St w (fps [netO nb bm nd bd tm l, refO rb nd bd tm R]) w5 [pt b (.cells #[.int .i64 0, .int .i64 0, .slice none 0 0] 31), refO rb nd bd tm R, pt a (.cells #[.int .i64 0, .int .i64 0, .slice none 0 0] 31), netO nb bm nd bd tm l, pt q (.cells #[.int .i64 x.op, .int .i64 x.f, .int .i64 x.t, .int .i64 x.p, .slice x.ta x.tn x.tc, .slice x.ba x.bn x.bc] 39)] := H
        repeat (first | refine nn ?_ | refine wI H (hK := ?_) | refine wP H (hK := ?_) | refine wM H (hK := ?_) | refine wSl H (hK := ?_) | refine wB H (hK := ?_) | refine wS H (hK := ?_) | refine wEq ?_ | refine wC H (hK := ?_) | (refine wLW H ?_; intro w1 H) | (refine wST H (hK := ?_); intro w1 H _) | refine mSlice_mk ?_ | refine mInt_mk ?_ | refine mBool_mk ?_ | refine mTup_mk ?_ | refine mCons_mk ?_ | refine mNil_mk ?_ | refine mAgg_mk ?_ | refine mPtr_mk ?_ | refine mStr_mk ?_)
        refine br (fun _ => ?_) (fun h => by cases h)
        refine wI H (b := a) (j := 0) (hK := wI H (b := a) (j := 1) (hK := wSl H (b := a) (j := 2) (hK := ?_)))
        refine wI H (b := b) (j := 0) (hK := wI H (b := b) (j := 1) (hK := wSl H (b := b) (j := 2) (hK := ?_)))
        refine same_walk (bs := []) H ⟨_, _, _, rfl, rfl, Nat.le_refl _, .inl rfl⟩ ⟨_, _, _, rfl, rfl, Nat.le_refl _, .inl rfl⟩ fun w6 H => mBool_mk ?_
        exact fin w6 l R tm hs (by omega) (Int.le_refl _) (by omega) (((H.front (refO rb nd bd tm R)).front (netO nb bm nd bd tm l)).left (L := [_, _]))
      · rw [(hs.none_iff x.f x.t x.p).2 hnil] at hp; cases hp
    · obtain ⟨pa, pn, pc, hmv, _⟩ := slice_of (H.has.all (msgO m') (by simp) : SliceAt w2 5 1 m'.1 (bvals m'.2))
      rw [hmv]
      repeat (first | refine nn ?_ | refine wI H (hK := ?_) | refine wP H (hK := ?_) | refine wM H (hK := ?_) | refine wSl H (hK := ?_) | refine wB H (hK := ?_) | refine wS H (hK := ?_) | refine wEq ?_ | refine wC H (hK := ?_) | (refine wLW H ?_; intro w1 H) | (refine wST H (hK := ?_); intro w1 H _) | refine mSlice_mk ?_ | refine mInt_mk ?_ | refine mBool_mk ?_ | refine mTup_mk ?_ | refine mCons_mk ?_ | refine mNil_mk ?_ | refine mAgg_mk ?_ | refine mPtr_mk ?_ | refine mStr_mk ?_)
      refine wAL H fun a w3 H => ?_
      have H : St w (fps [netO nb bm nd bd tm l, refO rb nd bd tm R]) w3 [pt a (.cells #[.int .i64 0, .int .i64 0, .slice none 0 0] 31), netO nb bm nd bd tm (outB l (x.f, x.t) (pickI x.p (row l (x.f, x.t)).2.length) v), msgO m', pt q (.cells #[.int .i64 x.op, .int .i64 x.f, .int .i64 x.t, .int .i64 x.p, .slice x.ta x.tn x.tc, .slice x.ba x.bn x.bc] 39), refO rb nd bd tm R] := H
      repeat (first | refine nn ?_ | refine wI H (hK := ?_) | refine wP H (hK := ?_) | refine wM H (hK := ?_) | refine wSl H (hK := ?_) | refine wB H (hK := ?_) | refine wS H (hK := ?_) | refine wEq ?_ | refine wC H (hK := ?_) | (refine wLW H ?_; intro w1 H) | (refine wST H (hK := ?_); intro w1 H _) | refine mSlice_mk ?_ | refine mInt_mk ?_ | refine mBool_mk ?_ | refine mTup_mk ?_ | refine mCons_mk ?_ | refine mNil_mk ?_ | refine mAgg_mk ?_ | refine mPtr_mk ?_ | refine mStr_mk ?_)
      refine wCall H (fun hA => rDeliver_spec hA hR9) (hK := ?_)
      rintro r w4 A' (⟨hp, _⟩ | ⟨i, m, hp, hm, rfl, R', hR', rfl⟩) _ H
      · exact absurd ((hs.none_iff x.f x.t x.p).1 hp) hne
      · obtain ⟨hs', hmf, hmt, hmb⟩ := hs.out hkn hp hm hm' v
        obtain ⟨ca, cn, cc, hcv, _⟩ := slice_of (H.has.all m.own (by simp) : SliceAt w4 5 1 m.v (bvals m.bs))
        rw [hcv, hmf, hmt]
        repeat (first | refine nn ?_ | refine wI H (hK := ?_) | refine wP H (hK := ?_) | refine wM H (hK := ?_) | refine wSl H (hK := ?_) | refine wB H (hK := ?_) | refine wS H (hK := ?_) | refine wEq ?_ | refine wC H (hK := ?_) | (refine wLW H ?_; intro w1 H) | (refine wST H (hK := ?_); intro w1 H _) | refine mSlice_mk ?_ | refine mInt_mk ?_ | refine mBool_mk ?_ | refine mTup_mk ?_ | refine mCons_mk ?_ | refine mNil_mk ?_ | refine mAgg_mk ?_ | refine mPtr_mk ?_ | refine mStr_mk ?_)
        refine wAL H fun b w5 H => ?_
        have H : St w (fps [netO nb bm nd bd tm l, refO rb nd bd tm R]) w5 [pt b (.cells #[.int .i64 0, .int .i64 0, .slice none 0 0] 31), refO rb nd bd tm R', m.own, pt a (.cells #[.int .i64 x.f, .int .i64 x.t, .slice pa pn pc] 31), netO nb bm nd bd tm (outB l (x.f, x.t) (pickI x.p (row l (x.f, x.t)).2.length) v), msgO m', pt q (.cells #[.int .i64 x.op, .int .i64 x.f, .int .i64 x.t, .int .i64 x.p, .slice x.ta x.tn x.tc, .slice x.ba x.bn x.bc] 39)] := H
        repeat (first | refine nn ?_ | refine wI H (hK := ?_) | refine wP H (hK := ?_) | refine wM H (hK := ?_) | refine wSl H (hK := ?_) | refine wB H (hK := ?_) | refine wS H (hK := ?_) | refine wEq ?_ | refine wC H (hK := ?_) | (refine wLW H ?_; intro w1 H) | (refine wST H (hK := ?_); intro w1 H _) | refine mSlice_mk ?_ | refine mInt_mk ?_ | refine mBool_mk ?_ | refine mTup_mk ?_ | refine mCons_mk ?_ | refine mNil_mk ?_ | refine mAgg_mk ?_ | refine mPtr_mk ?_ | refine mStr_mk ?_)
        refine br (fun _ => ?_) (fun h => by cases h)
        refine wI H (b := a) (j := 0) (hK := wI H (b := a) (j := 1) (hK := wSl H (b := a) (j := 2) (hK := ?_)))
        refine wI H (b := b) (j := 0) (hK := wI H (b := b) (j := 1) (hK := wSl H (b := b) (j := 2) (hK := ?_)))
        have r1 : SliceAt _ 5 1 m'.1 (bvals m'.2) := H.has.all (msgO m') (by simp)
        have r2 : SliceAt _ 5 1 m.v (bvals m.bs) := H.has.all m.own (by simp)
        rw [hmv, hmb] at r1
        rw [hcv] at r2
        refine same_walk (bs := m.bs) H r1.reads r2.reads fun w6 H => mBool_mk ?_
        refine fin w6 _ R' tm (by rw [hR']; exact hs') ?_ (Int.le_refl _) (by omega) (((H.front (refO rb nd bd tm R')).front (netO nb bm nd bd tm (outB l (x.f, x.t) (pickI x.p (row l (x.f, x.t)).2.length) v))).left (L := [_, _]))
        rw [hR']
        have := (List.eraseIdx_sublist R.l i).length_le
        omega
  refine br (fun _ => ?_) (fun _ => ?_)
  · -- Drop
    repeat (first | refine nn ?_ | refine wI H (hK := ?_) | refine wP H (hK := ?_) | refine wM H (hK := ?_) | refine wSl H (hK := ?_) | refine wB H (hK := ?_) | refine wS H (hK := ?_) | refine wEq ?_ | refine wC H (hK := ?_) | (refine wLW H ?_; intro w1 H) | (refine wST H (hK := ?_); intro w1 H _) | refine mSlice_mk ?_ | refine mInt_mk ?_ | refine mBool_mk ?_ | refine mTup_mk ?_ | refine mCons_mk ?_ | refine mNil_mk ?_ | refine mAgg_mk ?_ | refine mPtr_mk ?_ | refine mStr_mk ?_)
    refine wCall H (fun hA => rDeliver_spec hA hR9) (hK := ?_)
    rintro r w2 A' (⟨hp, rfl, rfl⟩ | ⟨i, m, hp, hm, rfl, R', hR', rfl⟩) _ H
    · repeat (first | refine nn ?_ | refine wI H (hK := ?_) | refine wP H (hK := ?_) | refine wM H (hK := ?_) | refine wSl H (hK := ?_) | refine wB H (hK := ?_) | refine wS H (hK := ?_) | refine wEq ?_ | refine wC H (hK := ?_) | (refine wLW H ?_; intro w1 H) | (refine wST H (hK := ?_); intro w1 H _) | refine mSlice_mk ?_ | refine mInt_mk ?_ | refine mBool_mk ?_ | refine mTup_mk ?_ | refine mCons_mk ?_ | refine mNil_mk ?_ | refine mAgg_mk ?_ | refine mPtr_mk ?_ | refine mStr_mk ?_)
      refine wAL H fun a w3 H => ?_
      have H : St w (fps [netO nb bm nd bd tm l, refO rb nd bd tm R]) w3 [pt a (.cells #[.int .i64 0, .int .i64 0, .slice none 0 0] 31), refO rb nd bd tm R, pt q (.cells #[.int .i64 x.op, .int .i64 x.f, .int .i64 x.t, .int .i64 x.p, .slice x.ta x.tn x.tc, .slice x.ba x.bn x.bc] 39), netO nb bm nd bd tm l] := H
      repeat (first | refine nn ?_ | refine wI H (hK := ?_) | refine wP H (hK := ?_) | refine wM H (hK := ?_) | refine wSl H (hK := ?_) | refine wB H (hK := ?_) | refine wS H (hK := ?_) | refine wEq ?_ | refine wC H (hK := ?_) | (refine wLW H ?_; intro w1 H) | (refine wST H (hK := ?_); intro w1 H _) | refine mSlice_mk ?_ | refine mInt_mk ?_ | refine mBool_mk ?_ | refine mTup_mk ?_ | refine mCons_mk ?_ | refine mNil_mk ?_ | refine mAgg_mk ?_ | refine mPtr_mk ?_ | refine mStr_mk ?_)
      refine wCall H (fun hA => Drop_spec (l := l) hA (hcap x.f x.t)) (hK := ?_)
      rintro r w4 A' (⟨_, rfl, rfl⟩ | ⟨hne, _⟩) _ H
      · refine mBool_mk ?_
        exact fin w4 l R tm hs (by omega) (Int.le_refl _) (by omega) (((H.front (refO rb nd bd tm R)).front (netO nb bm nd bd tm l)).left (L := [_, _]))
      · exact absurd ((hs.none_iff x.f x.t x.p).1 hp) hne
    · obtain ⟨ca, cn, cc, hcv, _⟩ := slice_of (H.has.all m.own (by simp) : SliceAt w2 5 1 m.v (bvals m.bs))
      rw [hcv]
      repeat (first | refine nn ?_ | refine wI H (hK := ?_) | refine wP H (hK := ?_) | refine wM H (hK := ?_) | refine wSl H (hK := ?_) | refine wB H (hK := ?_) | refine wS H (hK := ?_) | refine wEq ?_ | refine wC H (hK := ?_) | (refine wLW H ?_; intro w1 H) | (refine wST H (hK := ?_); intro w1 H _) | refine mSlice_mk ?_ | refine mInt_mk ?_ | refine mBool_mk ?_ | refine mTup_mk ?_ | refine mCons_mk ?_ | refine mNil_mk ?_ | refine mAgg_mk ?_ | refine mPtr_mk ?_ | refine mStr_mk ?_)
      refine wAL H fun a w3 H => ?_
      have H : St w (fps [netO nb bm nd bd tm l, refO rb nd bd tm R]) w3 [pt a (.cells #[.int .i64 0, .int .i64 0, .slice none 0 0] 31), refO rb nd bd tm R', m.own, pt q (.cells #[.int .i64 x.op, .int .i64 x.f, .int .i64 x.t, .int .i64 x.p, .slice x.ta x.tn x.tc, .slice x.ba x.bn x.bc] 39), netO nb bm nd bd tm l] := H
      repeat (first | refine nn ?_ | refine wI H (hK := ?_) | refine wP H (hK := ?_) | refine wM H (hK := ?_) | refine wSl H (hK := ?_) | refine wB H (hK := ?_) | refine wS H (hK := ?_) | refine wEq ?_ | refine wC H (hK := ?_) | (refine wLW H ?_; intro w1 H) | (refine wST H (hK := ?_); intro w1 H _) | refine mSlice_mk ?_ | refine mInt_mk ?_ | refine mBool_mk ?_ | refine mTup_mk ?_ | refine mCons_mk ?_ | refine mNil_mk ?_ | refine mAgg_mk ?_ | refine mPtr_mk ?_ | refine mStr_mk ?_)
      refine wCall H (fun hA => Drop_spec (l := l) hA (hcap x.f x.t)) (hK := ?_)
      rintro r w4 A' (⟨hnil, _⟩ | ⟨hne, v, rfl, rfl⟩) _ H
      · rw [(hs.none_iff x.f x.t x.p).2 hnil] at hp; cases hp
      · obtain ⟨m', hm'⟩ : ∃ m', (row l (x.f, x.t)).2[pickI x.p (row l (x.f, x.t)).2.length]? = some m' := ⟨_, List.getElem?_eq_getElem (pickI_lt (List.length_pos_iff.2 hne))⟩
        obtain ⟨hs', _⟩ := hs.out hkn hp hm hm' v
        refine mBool_mk ?_
        refine fin w4 _ R' tm (by rw [hR']; exact hs') ?_ (Int.le_refl _) (by omega) (((H.front (refO rb nd bd tm R')).front (netO nb bm nd bd tm (outB l (x.f, x.t) (pickI x.p (row l (x.f, x.t)).2.length) v))).left (L := [_, _]))
        rw [hR']
        have := (List.eraseIdx_sublist R.l i).length_le
        omega
  refine br (fun _ => ?_) (fun _ => ?_)
  · -- Double
    repeat (first | refine nn ?_ | refine wI H (hK := ?_) | refine wP H (hK := ?_) | refine wM H (hK := ?_) | refine wSl H (hK := ?_) | refine wB H (hK := ?_) | refine wS H (hK := ?_) | refine wEq ?_ | refine wC H (hK := ?_) | (refine wLW H ?_; intro w1 H) | (refine wST H (hK := ?_); intro w1 H _) | refine mSlice_mk ?_ | refine mInt_mk ?_ | refine mBool_mk ?_ | refine mTup_mk ?_ | refine mCons_mk ?_ | refine mNil_mk ?_ | refine mAgg_mk ?_ | refine mPtr_mk ?_ | refine mStr_mk ?_)
    refine wCall H (fun hA => Double_spec (l := l) (p := x.p) hA (hcap x.f x.t) (hsmall x.f x.t)) (hK := ?_)
    have hrbs : ∀ m ∈ R.l, m.bs.length ≤ 1000000 := fun m hm => by have := hs.ref.small m hm; omega
    have hlen := hs.len x.f x.t
    have hcap1 := hs.ref.cap x.f x.t
    rintro r w2 A' (⟨hno, rfl, rfl⟩ | ⟨hne, hnb, m', v, mv, hm', rfl, rfl⟩) _ H
    · refine mBool_mk ?_
      have H : St w (fps [netO nb bm nd bd tm l, refO rb nd bd tm R]) w2 [netO nb bm nd bd tm l, pt q (.cells #[.int .i64 x.op, .int .i64 x.f, .int .i64 x.t, .int .i64 x.p, .slice x.ta x.tn x.tc, .slice x.ba x.bn x.bc] 39), refO rb nd bd tm R] := H
      refine wC H (b := q) (j := 3) (hK := ?_)
      refine wC H (b := q) (j := 2) (hK := ?_)
      refine wC H (b := q) (j := 1) (hK := ?_)
      refine wCall H (fun hA => rDouble_spec (p := x.p) hA hR9 hrbs) (hK := ?_)
      rintro r w3 A' (⟨hp, rfl, rfl⟩ | ⟨i, m, hp, hm, ⟨hg, rfl, rfl⟩ | ⟨hg, _⟩⟩) _ H
      · refine mBool_mk (wEq ?_)
        exact fin w3 l R tm hs (by omega) (Int.le_refl _) (by omega) ((H.front (netO nb bm nd bd tm l)).left (L := [_, _]) |>.perm (List.Perm.refl _))
      · refine mBool_mk (wEq ?_)
        exact fin w3 l R tm hs (by omega) (Int.le_refl _) (by omega) ((H.front (netO nb bm nd bd tm l)).left (L := [_, _]))
      · exfalso
        obtain ⟨m2, h1, h2, _⟩ := nth_spec (pickR_some hp)
        rw [hm] at h1
        cases h1
        obtain ⟨hf, ht'⟩ := isK_iff.1 h2
        rw [hf, ht'] at hg
        rcases hno with hno | hno
        · rw [(hs.none_iff x.f x.t x.p).2 hno] at hp; cases hp
        · have := hg.2.2
          rw [hlen] at hno
          omega
    · refine mBool_mk ?_
      have H : St w (fps [netO nb bm nd bd tm l, refO rb nd bd tm R]) w2 [netO nb bm nd bd tm (aput l (x.f, x.t) (v, (row l (x.f, x.t)).2 ++ [(mv, m'.2)])), pt q (.cells #[.int .i64 x.op, .int .i64 x.f, .int .i64 x.t, .int .i64 x.p, .slice x.ta x.tn x.tc, .slice x.ba x.bn x.bc] 39), refO rb nd bd tm R] := H
      refine wC H (b := q) (j := 3) (hK := ?_)
      refine wC H (b := q) (j := 2) (hK := ?_)
      refine wC H (b := q) (j := 1) (hK := ?_)
      refine wCall H (fun hA => rDouble_spec (p := x.p) hA hR9 hrbs) (hK := ?_)
      rintro r w3 A' (⟨hp, _⟩ | ⟨i, m, hp, hm, ⟨hg, _⟩ | ⟨hg, rfl, R', v', hR', rfl⟩⟩) _ H
      · exact absurd ((hs.none_iff x.f x.t x.p).1 hp) hne
      · exfalso
        obtain ⟨m2, h1, h2, _⟩ := nth_spec (pickR_some hp)
        rw [hm] at h1
        cases h1
        obtain ⟨hf, ht'⟩ := isK_iff.1 h2
        obtain ⟨h3, h4⟩ := hs.ref.inn m (List.mem_of_getElem? hm)
        refine hg ⟨h3, h4, ?_⟩
        rw [hf, ht', ← hlen]
        rw [← hlen] at hcap1
        omega
      · obtain ⟨_, hmf, hmt, hmb⟩ := hs.out hkn hp hm hm' (.slice none 0 0)
        rw [hmf, hmt] at hg hR'
        have hs' := hs.double (v := v) (m' := mv) (v' := v') hg (hs.ref.small m (List.mem_of_getElem? hm))
        refine mBool_mk (wEq ?_)
        rw [hmb] at H
        refine fin w3 _ R' tm (by rw [hR']; exact hs') ?_ (Int.le_refl _) (by omega) ((H.front (netO nb bm nd bd tm (aput l (x.f, x.t) (v, (row l (x.f, x.t)).2 ++ [(mv, m.bs)])))).left (L := [_, _]))
        rw [hR']
        simp
  refine br (fun _ => ?_) (fun _ => ?_)
  · -- Clear
    repeat (first | refine nn ?_ | refine wI H (hK := ?_) | refine wP H (hK := ?_) | refine wM H (hK := ?_) | refine wSl H (hK := ?_) | refine wB H (hK := ?_) | refine wS H (hK := ?_) | refine wEq ?_ | refine wC H (hK := ?_) | (refine wLW H ?_; intro w1 H) | (refine wST H (hK := ?_); intro w1 H _) | refine mSlice_mk ?_ | refine mInt_mk ?_ | refine mBool_mk ?_ | refine mTup_mk ?_ | refine mCons_mk ?_ | refine mNil_mk ?_ | refine mAgg_mk ?_ | refine mPtr_mk ?_ | refine mStr_mk ?_)
    refine wCall H (fun hA => Clear_spec hA) (hK := ?_)
    rintro r w2 A' ⟨rfl, rfl⟩ _ H
    have H : St w (fps [netO nb bm nd bd tm l, refO rb nd bd tm R]) w2 [netO nb bm nd bd tm (cleared x.f l), pt q (.cells #[.int .i64 x.op, .int .i64 x.f, .int .i64 x.t, .int .i64 x.p, .slice x.ta x.tn x.tc, .slice x.ba x.bn x.bc] 39), refO rb nd bd tm R] := H
    repeat (first | refine nn ?_ | refine wI H (hK := ?_) | refine wP H (hK := ?_) | refine wM H (hK := ?_) | refine wSl H (hK := ?_) | refine wB H (hK := ?_) | refine wS H (hK := ?_) | refine wEq ?_ | refine wC H (hK := ?_) | (refine wLW H ?_; intro w1 H) | (refine wST H (hK := ?_); intro w1 H _) | refine mSlice_mk ?_ | refine mInt_mk ?_ | refine mBool_mk ?_ | refine mTup_mk ?_ | refine mCons_mk ?_ | refine mNil_mk ?_ | refine mAgg_mk ?_ | refine mPtr_mk ?_ | refine mStr_mk ?_)
    refine wCall H (fun hA => rClear_spec hA hR9) (hK := ?_)
    rintro r w3 A' ⟨rfl, R', hR', rfl⟩ _ H
    refine mTup_mk (mNil_mk ?_)
    refine fin w3 _ R' tm (by rw [hR']; exact hs.clear) ?_ (Int.le_refl _) (by omega) ((H.front (netO nb bm nd bd tm (cleared x.f l))).left (L := [_, _]))
    rw [hR']
    have := List.length_filter_le (keepR x.f) R.l
    omega
  refine br (fun _ => ?_) (fun _ => ?_)
  · -- Tick
    have Ho := (H.front (refO rb nd bd tm R)).refOpen
    have Ho : St w (fps [netO nb bm nd bd tm l, refO rb nd bd tm R]) w1 [pt rb (.cells #[.int .i64 nd, .int .i64 bd, .int .i64 tm, .slice R.a R.n R.c] 61), refS R, refM R.l, pt q (.cells #[.int .i64 x.op, .int .i64 x.f, .int .i64 x.t, .int .i64 x.p, .slice x.ta x.tn x.tc, .slice x.ba x.bn x.bc] 39), netO nb bm nd bd tm l] := Ho
    refine nn ?_
    refine wI Ho (j := 2) (hK := nn ?_)
    have hw : IntKind.wrap .i64 (tm + 1) = tm + 1 := wrap_id (by omega) (by omega)
    rw [hw]
    refine wST Ho (j := 2) (hK := ?_)
    intro w2 Ho _
    refine wLW Ho ?_
    intro w3 Ho
    refine nn ?_
    refine wI Ho (j := 2) (hK := ?_)
    refine wCall Ho (fun hA => Tick_spec (now := tm) hA (by omega)) (hK := ?_)
    rintro r w4 A' ⟨rfl, rfl⟩ _ Ho
    refine mInt_mk ?_
    have Ho : St w (fps [netO nb bm nd bd tm l, refO rb nd bd tm R]) w4 [netO nb bm nd bd (tm + 1) l, pt rb (.cells #[.int .i64 nd, .int .i64 bd, .int .i64 (tm + 1), .slice R.a R.n R.c] 61), refS R, refM R.l, pt q (.cells #[.int .i64 x.op, .int .i64 x.f, .int .i64 x.t, .int .i64 x.p, .slice x.ta x.tn x.tc, .slice x.ba x.bn x.bc] 39)] := Ho
    refine wC Ho (b := rb) (j := 2) (hK := ?_)
    have Ho := ((Ho.front (refM R.l)).front (refS R)).front (pt rb (.cells #[.int .i64 nd, .int .i64 bd, .int .i64 (tm + 1), .slice R.a R.n R.c] 61))
    have Ho := (St.refClose (R := R) (tm := tm + 1) Ho).front (netO nb bm nd bd (tm + 1) l)
    have := fin w4 l R (tm + 1) hs (by omega) (by omega) (Int.le_refl _) (Ho.left (L := [_, _]))
    simpa using this
  · exact fin w1 l R tm hs (by omega) (Int.le_refl _) (by omega) H.tail
end
end Go.Proofs.Ytienifnpacoahaa
