/- NetOften: what it walks. -/
import Derived.Test.YtienifnpacoahaaHL
namespace Go.Proofs.Ytienifnpacoahaa
open Go.Sh
attribute [local irreducible] rRun LDI LDB LDS LDP LDSl LDM LD Go.Sh.ST AL ALM LetW CallR CallV CallI NN IX SIX Br Req mInt mBool mStr mPtr mSlice mMap mAgg mTup mCons mNil mNth mPA LoopS

/-- What holds of the bags all the time: short, of one byte each. -/
def Inv (l : Bags) : Prop := ∀ e ∈ l, e.2.2.length ≤ 30 ∧ ∀ m ∈ e.2.2, m.2.length = 1
theorem mem_aput {β : Type} {l : List ((Int × Int) × β)} {k : Int × Int} {x : β} : ∀ e ∈ aput l k x, e ∈ l ∨ e = (k, x) := by
  induction l with
  | nil => intro e he; simp [aput] at he; exact .inr he
  | cons y t ih =>
    obtain ⟨a, u⟩ := y
    intro e he
    simp only [aput] at he
    split at he
    · rename_i hk
      rcases List.mem_cons.1 he with rfl | he
      · exact .inr (by rw [hk])
      · exact .inl (List.mem_cons_of_mem _ he)
    · rcases List.mem_cons.1 he with rfl | he
      · exact .inl (List.mem_cons_self ..)
      · rcases ih e he with h | h
        · exact .inl (List.mem_cons_of_mem _ h)
        · exact .inr h
theorem mem_adel {β : Type} {l : List ((Int × Int) × β)} {k : Int × Int} : ∀ e ∈ adel l k, e ∈ l := by
  induction l with
  | nil => intro e he; simp [adel] at he
  | cons y t ih =>
    obtain ⟨a, u⟩ := y
    intro e he
    simp only [adel] at he
    split at he
    · exact List.mem_cons_of_mem _ he
    · rcases List.mem_cons.1 he with rfl | he
      · exact List.mem_cons_self ..
      · exact List.mem_cons_of_mem _ (ih e he)
theorem mem_aget {β : Type} {l : List ((Int × Int) × β)} {k : Int × Int} {x : β} (h : aget l k = some x) : (k, x) ∈ l := by
  induction l with
  | nil => cases h
  | cons y t ih =>
    obtain ⟨a, u⟩ := y
    simp only [aget] at h
    split at h
    · rename_i hk; cases h; subst hk; exact List.mem_cons_self ..
    · exact List.mem_cons_of_mem _ (ih h)
theorem Inv.row {l : Bags} (h : Inv l) (k : Int × Int) : (Proofs.Ytienifnpacoahaa.row l k).2.length ≤ 30 ∧ ∀ m ∈ (Proofs.Ytienifnpacoahaa.row l k).2, m.2.length = 1 := by
  unfold Proofs.Ytienifnpacoahaa.row
  cases hg : aget l k with
  | none => exact ⟨by simp, fun m hm => by simp at hm⟩
  | some r => exact h _ (mem_aget hg)
theorem Inv.put {l : Bags} (h : Inv l) {k : Int × Int} {x : Row} (h1 : x.2.length ≤ 30) (h2 : ∀ m ∈ x.2, m.2.length = 1) : Inv (aput l k x) := fun e he => by
  rcases mem_aput e he with he | rfl
  · exact h e he
  · exact ⟨h1, h2⟩
theorem Inv.out {l : Bags} (h : Inv l) (k : Int × Int) (i : Nat) (v : Value) : Inv (outB l k i v) := by
  unfold outB
  split
  · exact fun e he => h e (mem_adel e he)
  · have hr := h.row k
    refine h.put (Nat.le_trans (List.length_eraseIdx_le _ _) hr.1) (fun m hm => hr.2 m (List.mem_of_mem_eraseIdx hm))
theorem Inv.push {l : Bags} (h : Inv l) {k : Int × Int} (v m : Value) {bs : List UInt8} (hl : (Proofs.Ytienifnpacoahaa.row l k).2.length < 30) (hb : bs.length = 1) : Inv (aput l k (v, (Proofs.Ytienifnpacoahaa.row l k).2 ++ [(m, bs)])) := by
  refine h.put (by simp; omega) (fun x hx => ?_)
  rcases List.mem_append.1 hx with hx | hx
  · exact (h.row k).2 x hx
  · rw [List.mem_singleton.1 hx]; exact hb
theorem Sent.inv {f : Int} {bs : List UInt8} {l l' : Bags} {ts : List Int} {c : Nat} (hb : bs.length = 1) (hs : Sent 4 30 f bs l ts l' c) (h : Inv l) : Inv l' := by
  induction hs with
  | nil => exact h
  | lay v m _ hg ih => exact ih.push v m (by have := hg.2.2; omega) hb
  | skip _ _ ih => exact ih
theorem wrap_u8 (x : Int) : ∃ u : UInt8, IntKind.wrap .u8 x = (u.toNat : Int) := by
  refine ⟨UInt8.ofNat (IntKind.wrap .u8 x).toNat, ?_⟩
  have h : IntKind.wrap .u8 x = x % 256 := by simp [IntKind.wrap, IntKind.bits, IntKind.signed]
  rw [h, UInt8.toNat_ofNat']
  omega

section
variable {w0 w : World} {F : List Nat} {L R : List Own}
theorem ext_arg {A B : List Own} {v : Value} {cs : List Value} (H : St w0 [] w (A ++ B)) (hr : Reads w0 1 v cs) : Ext w A 1 v cs :=
  ⟨Reads.stays hr H.fr, fun b hb ha => by
    rcases H.own b (by rw [fps_append]; exact List.mem_append_left _ ha) with h | h
    · cases h
    · have := hr.lt (by decide) b hb
      omega⟩

theorem often_next {nb bm n c : Nat} {lx : Option Addr} {l : Bags} {i inn outn : Nat} {K0 : ((Option Addr) × Nat × Nat × (Option Addr) × Int × Int × Int) → World → Prop} {K : Value → World → Prop}
    (H : St w0 F w [netO nb bm 4 30 0 l]) (hin : inn = outn + total l) (hb : inn ≤ 1000000) (hi : i ≤ 1000000)
    (hK : ∀ w', St w0 F w' [netO nb bm 4 30 0 l] → K0 (lx, n, c, some ⟨nb, 0, none⟩, (inn : Int), (outn : Int), ((i + 1 : Nat) : Int)) w') :
    glacierlaw3_NetOften_b1 lx n c (some ⟨nb, 0, none⟩) (inn : Int) (outn : Int) (i : Int) K0 K w := by
  refine wCall H (fun hA => All_spec (l := l) hA (by omega)) (hK := ?_)
  rintro r w1 A' ⟨rfl, rfl⟩ _ H
  repeat (first | refine nn ?_ | refine wI H (hK := ?_) | refine wP H (hK := ?_) | refine wM H (hK := ?_) | refine wSl H (hK := ?_) | refine wB H (hK := ?_) | refine wS H (hK := ?_) | refine wEq ?_ | refine wC H (hK := ?_) | (refine wLW H ?_; intro w1 H) | (refine wST H (hK := ?_); intro w1 H _) | refine mSlice_mk ?_ | refine mInt_mk ?_ | refine mBool_mk ?_ | refine mTup_mk ?_ | refine mCons_mk ?_ | refine mNil_mk ?_ | refine mAgg_mk ?_ | refine mPtr_mk ?_ | refine mStr_mk ?_)
  have hw : IntKind.wrap .i64 ((inn : Int) - (outn : Int)) = (total l : Int) := by rw [wrap_id (by omega) (by omega)]; omega
  rw [hw]
  refine br (fun h => by simp at h) (fun _ => ?_)
  have hw2 : IntKind.wrap .i64 ((i : Int) + 1) = ((i + 1 : Nat) : Int) := by rw [wrap_id (by omega) (by omega)]; rfl
  show K0 _ _
  rw [hw2]
  exact hK _ (H.left (L := [_]))

set_option maxHeartbeats 2000000 in
theorem NetOften_spec {b : Option Addr} {n c : Nat} {l : List ActR} (hb : ActsAt w (.slice b n c) l) (hlen : l.length ≤ 9223372036854775807) :
    CallS Try.prog fn_glacierlaw3_NetOften #[.slice b n c] w [] fun r _ A => r = .bool true ∧ A = [] := by
  have hn : n = l.length := by
    obtain ⟨⟨_, _, _, he, h1, _⟩, _⟩ := hb
    cases he
    exact h1
  subst hn
  refine CallS_intro (.nil w) fun H => glacierlaw3_NetOften_sound _ _ _ _ _ ?_
  refine wCall H (fun _ => known_spec w) (hK := ?_)
  rintro r w1 A' ⟨rfl, rfl⟩ _ H
  repeat (first | refine nn ?_ | refine wI H (hK := ?_) | refine wP H (hK := ?_) | refine wM H (hK := ?_) | refine wSl H (hK := ?_) | refine wB H (hK := ?_) | refine wS H (hK := ?_) | refine wEq ?_ | refine wC H (hK := ?_) | (refine wLW H ?_; intro w1 H) | (refine wST H (hK := ?_); intro w1 H _) | refine mSlice_mk ?_ | refine mInt_mk ?_ | refine mBool_mk ?_ | refine mTup_mk ?_ | refine mCons_mk ?_ | refine mNil_mk ?_ | refine mAgg_mk ?_ | refine mPtr_mk ?_ | refine mStr_mk ?_)
  refine br (fun h => by simp at h) (fun _ => ?_)
  refine wCall H (fun _ => few_spec (hb.stays H.fr) hlen) (hK := ?_)
  rintro r w1 A' ⟨rfl, q, rfl, hq⟩ _ H
  repeat (first | refine nn ?_ | refine wI H (hK := ?_) | refine wP H (hK := ?_) | refine wM H (hK := ?_) | refine wSl H (hK := ?_) | refine wB H (hK := ?_) | refine wS H (hK := ?_) | refine wEq ?_ | refine wC H (hK := ?_) | (refine wLW H ?_; intro w1 H) | (refine wST H (hK := ?_); intro w1 H _) | refine mSlice_mk ?_ | refine mInt_mk ?_ | refine mBool_mk ?_ | refine mTup_mk ?_ | refine mCons_mk ?_ | refine mNil_mk ?_ | refine mAgg_mk ?_ | refine mPtr_mk ?_ | refine mStr_mk ?_)
  refine br (fun _ => ⟨_, ⟨rfl, rfl⟩, Sh.St.left (L := []) H⟩) (fun hqt => ?_)
  obtain ⟨h500, hsm⟩ := hq (by simpa using hqt)
  refine wCall H (fun _ => New_spec 4 30 w1) (hK := ?_)
  rintro r w1 A' ⟨hr, _⟩ _ H
  obtain ⟨nb, bm, rfl, rfl⟩ := hr (by decide)
  repeat (first | refine nn ?_ | refine wI H (hK := ?_) | refine wP H (hK := ?_) | refine wM H (hK := ?_) | refine wSl H (hK := ?_) | refine wB H (hK := ?_) | refine wS H (hK := ?_) | refine wEq ?_ | refine wC H (hK := ?_) | (refine wLW H ?_; intro w1 H) | (refine wST H (hK := ?_); intro w1 H _) | refine mSlice_mk ?_ | refine mInt_mk ?_ | refine mBool_mk ?_ | refine mTup_mk ?_ | refine mCons_mk ?_ | refine mNil_mk ?_ | refine mAgg_mk ?_ | refine mPtr_mk ?_ | refine mStr_mk ?_)
  refine br (fun h => by simp at h) (fun _ => ?_)
  refine br (fun h => by simp at h) (fun _ => ?_)
  refine wLoop (fun k s w' => ∃ (i inn outn : Nat) (g : Bags), k + i = l.length ∧ s = (b, l.length, c, some ⟨nb, 0, none⟩, (inn : Int), (outn : Int), (i : Int)) ∧
    inn = outn + total g ∧ inn ≤ i * 101 ∧ Inv g ∧ St w (fps []) w' [netO nb bm 4 30 0 g]) ?_ ?_
  · exact ⟨l.length, 0, 0, 0, [], by omega, rfl, rfl, by omega, fun e he => by (cases he), H.left (L := [_])⟩
  rintro k s w1 ⟨i, inn, outn, g, hk, rfl, hin, hbd, hinv, H⟩
  refine br (fun h => ?_) (fun _ => ⟨_, ⟨rfl, rfl⟩, H.right (L := [_])⟩)
  have hi : i < l.length := by simp at h; omega
  obtain ⟨x, hx⟩ : ∃ x, l[i]? = some x := ⟨_, List.getElem?_eq_getElem hi⟩
  have hsx := hsm x (List.mem_of_getElem? hx)
  have fin : ∀ {inn' outn' : Nat} {g' : Bags} {w' : World} {L : List Own} (H : St w (fps []) w' ([netO nb bm 4 30 0 g'] ++ L)), inn' = outn' + total g' → inn' ≤ (i + 1) * 101 → Inv g' →
      glacierlaw3_NetOften_b1 b l.length c (some ⟨nb, 0, none⟩) (inn' : Int) (outn' : Int) (i : Int) (fun s' w' => ∃ k', k' < k ∧ ∃ (i inn outn : Nat) (g : Bags), k' + i = l.length ∧ s' = (b, l.length, c, some ⟨nb, 0, none⟩, (inn : Int), (outn : Int), (i : Int)) ∧
        inn = outn + total g ∧ inn ≤ i * 101 ∧ Inv g ∧ St w (fps []) w' [netO nb bm 4 30 0 g]) (fun v w' => ∃ A', (v = .bool true ∧ A' = []) ∧ St w (fps []) w' A') w' := by
    intro inn' outn' g' w' L H h1 h2 h3
    exact often_next H.left h1 (by omega) (by omega) fun w2 H => ⟨k - 1, by omega, i + 1, inn', outn', g', by omega, rfl, h1, h2, h3, H⟩
  have hto := (hb.2 x (List.mem_of_getElem? hx)).1
  refine wIXa (hb.stays H.fr) hx rfl fun ad ha => ?_
  refine ldI (ha 0 _ rfl) (ldI (ha 1 _ rfl) (ldI (ha 2 _ rfl) (ldI (ha 3 _ rfl) (ldSl (ha 4 _ rfl) (ldSl (ha 5 _ rfl) ?_)))))
  clear ha
  refine wAL H fun q w1 H => ?_
  repeat (first | refine nn ?_ | refine wI H (hK := ?_) | refine wP H (hK := ?_) | refine wM H (hK := ?_) | refine wSl H (hK := ?_) | refine wB H (hK := ?_) | refine wS H (hK := ?_) | refine wEq ?_ | refine wC H (hK := ?_) | (refine wLW H ?_; intro w1 H) | (refine wST H (hK := ?_); intro w1 H _) | refine mSlice_mk ?_ | refine mInt_mk ?_ | refine mBool_mk ?_ | refine mTup_mk ?_ | refine mCons_mk ?_ | refine mNil_mk ?_ | refine mAgg_mk ?_ | refine mPtr_mk ?_ | refine mStr_mk ?_)
  have hrow := hinv.row (x.f, x.t)
  have hwo : IntKind.wrap .i64 ((outn : Int) + 1) = ((outn + 1 : Nat) : Int) := by rw [wrap_id (by omega) (by omega)]; rfl
  have hwi : IntKind.wrap .i64 ((inn : Int) + 1) = ((inn + 1 : Nat) : Int) := by rw [wrap_id (by omega) (by omega)]; rfl
  refine br (fun _ => ?_) (fun _ => br (fun _ => ?_) (fun _ => br (fun _ => ?_) (fun _ => br (fun _ => ?_) (fun _ => ?_))))
  · repeat (first | refine nn ?_ | refine wI H (hK := ?_) | refine wP H (hK := ?_) | refine wM H (hK := ?_) | refine wSl H (hK := ?_) | refine wB H (hK := ?_) | refine wS H (hK := ?_) | refine wEq ?_ | refine wC H (hK := ?_) | (refine wLW H ?_; intro w1 H) | (refine wST H (hK := ?_); intro w1 H _) | refine mSlice_mk ?_ | refine mInt_mk ?_ | refine mBool_mk ?_ | refine mTup_mk ?_ | refine mCons_mk ?_ | refine mNil_mk ?_ | refine mAgg_mk ?_ | refine mPtr_mk ?_ | refine mStr_mk ?_)
    refine wAL H fun b1 w1 H => ?_
    repeat (first | refine nn ?_ | refine wI H (hK := ?_) | refine wP H (hK := ?_) | refine wM H (hK := ?_) | refine wSl H (hK := ?_) | refine wB H (hK := ?_) | refine wS H (hK := ?_) | refine wEq ?_ | refine wC H (hK := ?_) | (refine wLW H ?_; intro w1 H) | (refine wST H (hK := ?_); intro w1 H _) | refine mSlice_mk ?_ | refine mInt_mk ?_ | refine mBool_mk ?_ | refine mTup_mk ?_ | refine mCons_mk ?_ | refine mNil_mk ?_ | refine mAgg_mk ?_ | refine mPtr_mk ?_ | refine mStr_mk ?_)
    obtain ⟨u, hu⟩ := wrap_u8 (i : Int)
    simp only at H
    rw [hu] at H
    have H := H.front (netO nb bm 4 30 0 g)
    refine wCall H (fun hA => Send_spec (bs := [u]) (tos := x.tos) hA (by decide) (ext_pt (A := [_]) H (by simp; exact .inl rfl) rfl (by decide) rfl) (by simp) (ext_arg (A := [_]) H hto) (by omega)) (hK := ?_)
    rintro r w1 A' ⟨l', cnt, hsent, rfl, rfl⟩ _ H
    have hle := hsent.le
    repeat (first | refine nn ?_ | refine wI H (hK := ?_) | refine wP H (hK := ?_) | refine wM H (hK := ?_) | refine wSl H (hK := ?_) | refine wB H (hK := ?_) | refine wS H (hK := ?_) | refine wEq ?_ | refine wC H (hK := ?_) | (refine wLW H ?_; intro w1 H) | (refine wST H (hK := ?_); intro w1 H _) | refine mSlice_mk ?_ | refine mInt_mk ?_ | refine mBool_mk ?_ | refine mTup_mk ?_ | refine mCons_mk ?_ | refine mNil_mk ?_ | refine mAgg_mk ?_ | refine mPtr_mk ?_ | refine mStr_mk ?_)
    have hw : IntKind.wrap .i64 ((inn : Int) + (cnt : Int)) = ((inn + cnt : Nat) : Int) := by rw [wrap_id (by omega) (by omega)]; rfl
    rw [hw]
    exact fin H (by have := hsent.total; omega) (by omega) (hsent.inv rfl hinv)
  · repeat (first | refine nn ?_ | refine wI H (hK := ?_) | refine wP H (hK := ?_) | refine wM H (hK := ?_) | refine wSl H (hK := ?_) | refine wB H (hK := ?_) | refine wS H (hK := ?_) | refine wEq ?_ | refine wC H (hK := ?_) | (refine wLW H ?_; intro w1 H) | (refine wST H (hK := ?_); intro w1 H _) | refine mSlice_mk ?_ | refine mInt_mk ?_ | refine mBool_mk ?_ | refine mTup_mk ?_ | refine mCons_mk ?_ | refine mNil_mk ?_ | refine mAgg_mk ?_ | refine mPtr_mk ?_ | refine mStr_mk ?_)
    have H := H.front (netO nb bm 4 30 0 g)
    refine wCall H (fun hA => Deliver_spec (l := g) hA (by omega)) (hK := ?_)
    rintro r w1 A' (⟨_, rfl, rfl⟩ | ⟨hne, m, v, hm, rfl, rfl⟩) _ H
    · repeat (first | refine nn ?_ | refine wI H (hK := ?_) | refine wP H (hK := ?_) | refine wM H (hK := ?_) | refine wSl H (hK := ?_) | refine wB H (hK := ?_) | refine wS H (hK := ?_) | refine wEq ?_ | refine wC H (hK := ?_) | (refine wLW H ?_; intro w1 H) | (refine wST H (hK := ?_); intro w1 H _) | refine mSlice_mk ?_ | refine mInt_mk ?_ | refine mBool_mk ?_ | refine mTup_mk ?_ | refine mCons_mk ?_ | refine mNil_mk ?_ | refine mAgg_mk ?_ | refine mPtr_mk ?_ | refine mStr_mk ?_)
      refine wAL H fun q2 w1 H => ?_
      repeat (first | refine nn ?_ | refine wI H (hK := ?_) | refine wP H (hK := ?_) | refine wM H (hK := ?_) | refine wSl H (hK := ?_) | refine wB H (hK := ?_) | refine wS H (hK := ?_) | refine wEq ?_ | refine wC H (hK := ?_) | (refine wLW H ?_; intro w1 H) | (refine wST H (hK := ?_); intro w1 H _) | refine mSlice_mk ?_ | refine mInt_mk ?_ | refine mBool_mk ?_ | refine mTup_mk ?_ | refine mCons_mk ?_ | refine mNil_mk ?_ | refine mAgg_mk ?_ | refine mPtr_mk ?_ | refine mStr_mk ?_)
      refine br (fun h => by cases h) (fun _ => ?_)
      exact fin (H.front (netO nb bm 4 30 0 g)) hin (by omega) hinv
    · have hpos : 0 < (row g (x.f, x.t)).2.length := List.length_pos_iff.2 hne
      have htot := total_out (l := g) (k := (x.f, x.t)) v (pickI_lt (p := x.p) hpos)
      have hinv2 := hinv.out (x.f, x.t) (pickI x.p (row g (x.f, x.t)).2.length) v
      obtain ⟨u, hu⟩ := List.length_eq_one_iff.1 (hrow.2 m (List.mem_of_getElem? hm))
      generalize outB g (x.f, x.t) (pickI x.p (row g (x.f, x.t)).2.length) v = g2 at H htot hinv2
      obtain ⟨pa, pn, pc, hmv, hpn, _⟩ := slice_of (H.has.all (msgO m) (by simp) : SliceAt w1 5 1 m.1 (bvals m.2))
      have hmo : msgO m = sliceO 5 1 (.slice pa pn pc) (bvals [u]) := by unfold msgO; rw [hmv, hu]
      rw [hmo] at H
      rw [hu] at hpn
      have hpn1 : pn = 1 := by simpa using hpn
      subst hpn1
      rw [hmv]
      repeat (first | refine nn ?_ | refine wI H (hK := ?_) | refine wP H (hK := ?_) | refine wM H (hK := ?_) | refine wSl H (hK := ?_) | refine wB H (hK := ?_) | refine wS H (hK := ?_) | refine wEq ?_ | refine wC H (hK := ?_) | (refine wLW H ?_; intro w1 H) | (refine wST H (hK := ?_); intro w1 H _) | refine mSlice_mk ?_ | refine mInt_mk ?_ | refine mBool_mk ?_ | refine mTup_mk ?_ | refine mCons_mk ?_ | refine mNil_mk ?_ | refine mAgg_mk ?_ | refine mPtr_mk ?_ | refine mStr_mk ?_)
      refine wAL H fun q2 w1 H => ?_
      repeat (first | refine nn ?_ | refine wI H (hK := ?_) | refine wP H (hK := ?_) | refine wM H (hK := ?_) | refine wSl H (hK := ?_) | refine wB H (hK := ?_) | refine wS H (hK := ?_) | refine wEq ?_ | refine wC H (hK := ?_) | (refine wLW H ?_; intro w1 H) | (refine wST H (hK := ?_); intro w1 H _) | refine mSlice_mk ?_ | refine mInt_mk ?_ | refine mBool_mk ?_ | refine mTup_mk ?_ | refine mCons_mk ?_ | refine mNil_mk ?_ | refine mAgg_mk ?_ | refine mPtr_mk ?_ | refine mStr_mk ?_)
      refine br (fun _ => ?_) (fun h => by cases h)
      repeat (first | refine nn ?_ | refine wI H (hK := ?_) | refine wP H (hK := ?_) | refine wM H (hK := ?_) | refine wSl H (hK := ?_) | refine wB H (hK := ?_) | refine wS H (hK := ?_) | refine wEq ?_ | refine wC H (hK := ?_) | (refine wLW H ?_; intro w1 H) | (refine wST H (hK := ?_); intro w1 H _) | refine mSlice_mk ?_ | refine mInt_mk ?_ | refine mBool_mk ?_ | refine mTup_mk ?_ | refine mCons_mk ?_ | refine mNil_mk ?_ | refine mAgg_mk ?_ | refine mPtr_mk ?_ | refine mStr_mk ?_)
      refine br (fun h => by simp at h) (fun _ => ?_)
      repeat (first | refine nn ?_ | refine wI H (hK := ?_) | refine wP H (hK := ?_) | refine wM H (hK := ?_) | refine wSl H (hK := ?_) | refine wB H (hK := ?_) | refine wS H (hK := ?_) | refine wEq ?_ | refine wC H (hK := ?_) | (refine wLW H ?_; intro w1 H) | (refine wST H (hK := ?_); intro w1 H _) | refine mSlice_mk ?_ | refine mInt_mk ?_ | refine mBool_mk ?_ | refine mTup_mk ?_ | refine mCons_mk ?_ | refine mNil_mk ?_ | refine mAgg_mk ?_ | refine mPtr_mk ?_ | refine mStr_mk ?_)
      refine br (fun h => by simp at h) (fun _ => ?_)
      repeat (first | refine nn ?_ | refine wI H (hK := ?_) | refine wP H (hK := ?_) | refine wM H (hK := ?_) | refine wSl H (hK := ?_) | refine wB H (hK := ?_) | refine wS H (hK := ?_) | refine wEq ?_ | refine wC H (hK := ?_) | (refine wLW H ?_; intro w1 H) | (refine wST H (hK := ?_); intro w1 H _) | refine mSlice_mk ?_ | refine mInt_mk ?_ | refine mBool_mk ?_ | refine mTup_mk ?_ | refine mCons_mk ?_ | refine mNil_mk ?_ | refine mAgg_mk ?_ | refine mPtr_mk ?_ | refine mStr_mk ?_)
      refine br (fun h => by simp at h) (fun _ => ?_)
      repeat (first | refine nn ?_ | refine wI H (hK := ?_) | refine wP H (hK := ?_) | refine wM H (hK := ?_) | refine wSl H (hK := ?_) | refine wB H (hK := ?_) | refine wS H (hK := ?_) | refine wEq ?_ | refine wC H (hK := ?_) | (refine wLW H ?_; intro w1 H) | (refine wST H (hK := ?_); intro w1 H _) | refine mSlice_mk ?_ | refine mInt_mk ?_ | refine mBool_mk ?_ | refine mTup_mk ?_ | refine mCons_mk ?_ | refine mNil_mk ?_ | refine mAgg_mk ?_ | refine mPtr_mk ?_ | refine mStr_mk ?_)
      refine wIX (i := 0) (H.has.all (sliceO 5 1 (.slice pa 1 pc) (bvals [u])) (by simp)) (by simp) rfl fun ad had => ?_
      refine ldI (x := (u.toNat : Int)) had ?_
      have hu2 := u.toNat_lt
      refine br (fun h => by rw [wrap_id (by omega) (by omega)] at h; simp at h; omega) (fun _ => ?_)
      rw [hwo]
      exact fin (H.front (netO nb bm 4 30 0 g2)) (by omega) (by omega) hinv2
  · repeat (first | refine nn ?_ | refine wI H (hK := ?_) | refine wP H (hK := ?_) | refine wM H (hK := ?_) | refine wSl H (hK := ?_) | refine wB H (hK := ?_) | refine wS H (hK := ?_) | refine wEq ?_ | refine wC H (hK := ?_) | (refine wLW H ?_; intro w1 H) | (refine wST H (hK := ?_); intro w1 H _) | refine mSlice_mk ?_ | refine mInt_mk ?_ | refine mBool_mk ?_ | refine mTup_mk ?_ | refine mCons_mk ?_ | refine mNil_mk ?_ | refine mAgg_mk ?_ | refine mPtr_mk ?_ | refine mStr_mk ?_)
    have H := H.front (netO nb bm 4 30 0 g)
    refine wCall H (fun hA => Drop_spec (l := g) hA (by omega)) (hK := ?_)
    rintro r w1 A' (⟨_, rfl, rfl⟩ | ⟨hne, v, rfl, rfl⟩) _ H
    · repeat (first | refine nn ?_ | refine wI H (hK := ?_) | refine wP H (hK := ?_) | refine wM H (hK := ?_) | refine wSl H (hK := ?_) | refine wB H (hK := ?_) | refine wS H (hK := ?_) | refine wEq ?_ | refine wC H (hK := ?_) | (refine wLW H ?_; intro w1 H) | (refine wST H (hK := ?_); intro w1 H _) | refine mSlice_mk ?_ | refine mInt_mk ?_ | refine mBool_mk ?_ | refine mTup_mk ?_ | refine mCons_mk ?_ | refine mNil_mk ?_ | refine mAgg_mk ?_ | refine mPtr_mk ?_ | refine mStr_mk ?_)
      refine br (fun h => by cases h) (fun _ => ?_)
      exact fin H hin (by omega) hinv
    · have hpos : 0 < (row g (x.f, x.t)).2.length := List.length_pos_iff.2 hne
      have htot := total_out (l := g) (k := (x.f, x.t)) v (pickI_lt (p := x.p) hpos)
      repeat (first | refine nn ?_ | refine wI H (hK := ?_) | refine wP H (hK := ?_) | refine wM H (hK := ?_) | refine wSl H (hK := ?_) | refine wB H (hK := ?_) | refine wS H (hK := ?_) | refine wEq ?_ | refine wC H (hK := ?_) | (refine wLW H ?_; intro w1 H) | (refine wST H (hK := ?_); intro w1 H _) | refine mSlice_mk ?_ | refine mInt_mk ?_ | refine mBool_mk ?_ | refine mTup_mk ?_ | refine mCons_mk ?_ | refine mNil_mk ?_ | refine mAgg_mk ?_ | refine mPtr_mk ?_ | refine mStr_mk ?_)
      refine br (fun _ => ?_) (fun h => by cases h)
      rw [hwo]
      exact fin H (by omega) (by omega) (hinv.out _ _ _)
  · repeat (first | refine nn ?_ | refine wI H (hK := ?_) | refine wP H (hK := ?_) | refine wM H (hK := ?_) | refine wSl H (hK := ?_) | refine wB H (hK := ?_) | refine wS H (hK := ?_) | refine wEq ?_ | refine wC H (hK := ?_) | (refine wLW H ?_; intro w1 H) | (refine wST H (hK := ?_); intro w1 H _) | refine mSlice_mk ?_ | refine mInt_mk ?_ | refine mBool_mk ?_ | refine mTup_mk ?_ | refine mCons_mk ?_ | refine mNil_mk ?_ | refine mAgg_mk ?_ | refine mPtr_mk ?_ | refine mStr_mk ?_)
    have H := H.front (netO nb bm 4 30 0 g)
    refine wCall H (fun hA => Double_spec (l := g) hA (by omega) (fun m hm => by have := hrow.2 m hm; omega)) (hK := ?_)
    rintro r w1 A' (⟨_, rfl, rfl⟩ | ⟨hne, hne2, m, v, m', hm, rfl, rfl⟩) _ H
    · repeat (first | refine nn ?_ | refine wI H (hK := ?_) | refine wP H (hK := ?_) | refine wM H (hK := ?_) | refine wSl H (hK := ?_) | refine wB H (hK := ?_) | refine wS H (hK := ?_) | refine wEq ?_ | refine wC H (hK := ?_) | (refine wLW H ?_; intro w1 H) | (refine wST H (hK := ?_); intro w1 H _) | refine mSlice_mk ?_ | refine mInt_mk ?_ | refine mBool_mk ?_ | refine mTup_mk ?_ | refine mCons_mk ?_ | refine mNil_mk ?_ | refine mAgg_mk ?_ | refine mPtr_mk ?_ | refine mStr_mk ?_)
      refine br (fun h => by cases h) (fun _ => ?_)
      exact fin H hin (by omega) hinv
    · have htot := total_aput g (x.f, x.t) (v, (row g (x.f, x.t)).2 ++ [(m', m.2)])
      simp only [List.length_append, List.length_cons, List.length_nil] at htot
      repeat (first | refine nn ?_ | refine wI H (hK := ?_) | refine wP H (hK := ?_) | refine wM H (hK := ?_) | refine wSl H (hK := ?_) | refine wB H (hK := ?_) | refine wS H (hK := ?_) | refine wEq ?_ | refine wC H (hK := ?_) | (refine wLW H ?_; intro w1 H) | (refine wST H (hK := ?_); intro w1 H _) | refine mSlice_mk ?_ | refine mInt_mk ?_ | refine mBool_mk ?_ | refine mTup_mk ?_ | refine mCons_mk ?_ | refine mNil_mk ?_ | refine mAgg_mk ?_ | refine mPtr_mk ?_ | refine mStr_mk ?_)
      refine br (fun _ => ?_) (fun h => by cases h)
      rw [hwi]
      exact fin H (by omega) (by omega) (hinv.push v m' (by omega) (hrow.2 m (List.mem_of_getElem? hm)))
  · exact fin (H.front (netO nb bm 4 30 0 g)) hin (by omega) hinv
end
end Go.Proofs.Ytienifnpacoahaa
