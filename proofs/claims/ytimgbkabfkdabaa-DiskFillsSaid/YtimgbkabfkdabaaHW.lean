/- DiskFills: what it walks. -/
import Derived.Test.YtimgbkabfkdabaaHV
namespace Go.Proofs.Ytimgbkabfkdabaa
open Go.Sh
attribute [local irreducible] rRun LDI LDB LDS LDP LDSl LDM LD Go.Sh.ST AL ALM LetW CallR CallV CallI NN IX SIX Br Req mInt mBool mStr mPtr mSlice mMap mAgg mTup mCons mNil mNth mPA LoopS

section
variable {w0 w : World} {F : List Nat} {L R : List Own}
theorem byte_zero (n : Nat) : List.replicate n (Value.int .u8 0) = bvals (List.replicate n 0) := by simp [bvals, bval]
theorem wMakeB {l : Int} {K : Value → World → Prop} (H : St w0 F w L) (h0 : 0 ≤ l) (hb : l ≤ 1000000000000)
    (hK : ∀ b w', St w0 F w' (sliceO 5 1 (.slice (some ⟨b, 0, none⟩) l.toNat l.toNat) (bvals (List.replicate l.toNat 0)) :: L) → K (.slice (some ⟨b, 0, none⟩) l.toNat l.toNat) w') : rRun Try.prog (Instr.makeSlice 30 (.int .i64 l) (.int .i64 l)) w K :=
  wMake (E := 5) (bytes := 1) (z := .int .u8 0) Try.underlying30 (by kernel_rfl) (by kernel_rfl) rfl H h0 (Int.le_refl _) (by omega) (by omega) fun b w' H => hK b w' (by rw [← byte_zero]; exact H)

theorem fills_next {size : Int} {parts : Option Addr} {pn pc : Nat} {db bm i : Nat} {left : Int} {l : Files} {K0 : (Int × (Option Addr) × Nat × Nat × (Option Addr) × Int × Int) → World → Prop} {R : Value → World → Prop}
    (hsz : 1 ≤ size ∧ size ≤ 65536) (hi : i < 1000) (hl : 0 ≤ left ∧ left ≤ size) (ht : (total l : Int) = size - left)
    (H : St w0 F w [diskO db bm size (size - left) 0 l])
    (hK : ∀ w' left' l', 0 ≤ left' → left' ≤ size → (total l' : Int) = size - left' → St w0 F w' [diskO db bm size (size - left') 0 l'] → K0 (size, parts, pn, pc, some ⟨db, 0, none⟩, left', ((i + 1 : Nat) : Int)) w') :
    glacierlaw2_DiskFills_b1 size parts pn pc (some ⟨db, 0, none⟩) left (i : Int) K0 R w := by
  have hw1 : IntKind.wrap .i64 ((i : Int) + 1) = ((i + 1 : Nat) : Int) := by rw [wrap_id (by omega) (by omega)]; rfl
  have hw2 : IntKind.wrap .i64 (size - left) = size - left := wrap_id (by omega) (by omega)
  have fin : ∀ w', St w0 F w' [diskO db bm size (size - left) 0 l] → K0 (size, parts, pn, pc, some ⟨db, 0, none⟩, left, IntKind.wrap .i64 ((i : Int) + 1)) w' := fun w' H => by rw [hw1]; exact hK w' left l hl.1 hl.2 ht H
  refine wCall H (fun hA => Used_spec hA) (hK := ?_)
  rintro r w1 A' ⟨rfl, rfl⟩ _ H
  repeat (first | refine nn ?_ | refine wI H (hK := ?_) | refine wP H (hK := ?_) | refine wM H (hK := ?_) | refine wSl H (hK := ?_) | refine wB H (hK := ?_) | refine wS H (hK := ?_) | refine wEq ?_ | refine wC H (hK := ?_) | (refine wLW H ?_; intro w1 H) | (refine wST H (hK := ?_); intro w1 H _) | refine mSlice_mk ?_ | refine mInt_mk ?_ | refine mBool_mk ?_ | refine mTup_mk ?_ | refine mCons_mk ?_ | refine mNil_mk ?_ | refine mAgg_mk ?_ | refine mPtr_mk ?_ | refine mStr_mk ?_)
  refine br (fun h => by rw [hw2] at h; simp at h) (fun _ => ?_)
  refine wReq (by decide) ?_
  refine br (fun _ => ?_) (fun _ => fin _ H)
  have hbl : ∀ f, aget l ⟨#[97]⟩ = some f → f.bs.length ≤ 65536 := fun f hf => by have := total_adel hf; omega
  refine wCall H (fun hA => Read_spec (s := ⟨#[97]⟩) hA (fun f hf => by have := hbl f hf; omega)) (hK := ?_)
  rintro r w1 A' (⟨hg, rfl, rfl⟩ | ⟨f, xa, xn, xc, hg, rfl, rfl⟩) _ H
  · repeat (first | refine nn ?_ | refine wI H (hK := ?_) | refine wP H (hK := ?_) | refine wM H (hK := ?_) | refine wSl H (hK := ?_) | refine wB H (hK := ?_) | refine wS H (hK := ?_) | refine wEq ?_ | refine wC H (hK := ?_) | (refine wLW H ?_; intro w1 H) | (refine wST H (hK := ?_); intro w1 H _) | refine mSlice_mk ?_ | refine mInt_mk ?_ | refine mBool_mk ?_ | refine mTup_mk ?_ | refine mCons_mk ?_ | refine mNil_mk ?_ | refine mAgg_mk ?_ | refine mPtr_mk ?_ | refine mStr_mk ?_)
    exact br (fun _ => fin _ H) (fun h => absurd h (by decide))
  · have hxn : xn = f.bs.length := by
      obtain ⟨_, _, _, he, h1, _⟩ := (H.get (i := 0) rfl : SliceAt _ _ _ _ _)
      cases he
      simpa using h1
    subst hxn
    repeat (first | refine nn ?_ | refine wI H (hK := ?_) | refine wP H (hK := ?_) | refine wM H (hK := ?_) | refine wSl H (hK := ?_) | refine wB H (hK := ?_) | refine wS H (hK := ?_) | refine wEq ?_ | refine wC H (hK := ?_) | (refine wLW H ?_; intro w1 H) | (refine wST H (hK := ?_); intro w1 H _) | refine mSlice_mk ?_ | refine mInt_mk ?_ | refine mBool_mk ?_ | refine mTup_mk ?_ | refine mCons_mk ?_ | refine mNil_mk ?_ | refine mAgg_mk ?_ | refine mPtr_mk ?_ | refine mStr_mk ?_)
    refine br (fun h => absurd h (by decide)) (fun _ => ?_)
    refine wAL H fun b2 w1 H => ?_
    have H := H.front (diskO db bm size (size - left) 0 l)
    have hta := total_adel hg
    have hfb := hbl f hg
    refine wCall H (fun hA => Delete_spec (ns := [⟨#[97]⟩]) hA (ext_pt (A := [_]) H (by simp; exact .inl rfl) rfl (Nat.le_refl _) rfl) (by simp) (fun i f s hs hf => ?_)) (hK := ?_)
    · have hi0 : i = 0 := by
        have := (List.getElem?_eq_some_iff.1 hs).1
        simp at this; exact this
      subst hi0
      have hs : s = ⟨#[97]⟩ := (Option.some.inj hs).symm
      subst hs
      have hf : aget l ⟨#[97]⟩ = some f := hf
      have := hbl f hf
      simp only [List.take_zero, List.foldl_nil]
      omega
    rintro r w1 A' (⟨hc, _⟩ | ⟨_, rfl, rfl⟩) _ H
    · simp [allIn, hg] at hc
    have e : List.foldl delOne (size - left, l) [⟨#[97]⟩] = (size - left - f.bs.length, adel l ⟨#[97]⟩) := by
      simp only [List.foldl_cons, List.foldl_nil, delOne, hg]
    rw [e] at H
    repeat (first | refine nn ?_ | refine wI H (hK := ?_) | refine wP H (hK := ?_) | refine wM H (hK := ?_) | refine wSl H (hK := ?_) | refine wB H (hK := ?_) | refine wS H (hK := ?_) | refine wEq ?_ | refine wC H (hK := ?_) | (refine wLW H ?_; intro w1 H) | (refine wST H (hK := ?_); intro w1 H _) | refine mSlice_mk ?_ | refine mInt_mk ?_ | refine mBool_mk ?_ | refine mTup_mk ?_ | refine mCons_mk ?_ | refine mNil_mk ?_ | refine mAgg_mk ?_ | refine mPtr_mk ?_ | refine mStr_mk ?_)
    refine br (fun h => absurd h (by decide)) (fun _ => ?_)
    have hw3 : IntKind.wrap .i64 (left + (f.bs.length : Int)) = left + (f.bs.length : Int) := wrap_id (by omega) (by omega)
    have e2 : size - left - (f.bs.length : Int) = size - (left + (f.bs.length : Int)) := by omega
    unfold glacierlaw2_DiskFills_b0
    rw [hw1, hw3]
    refine hK _ _ (adel l ⟨#[97]⟩) (by omega) (by omega) (by omega) ?_
    rw [← e2]
    exact H.left (L := [_])
theorem fills_put {size : Int} {parts : Option Addr} {pn pc : Nat} {db bm i : Nat} {left n : Int} {l : Files} {K0 : (Int × (Option Addr) × Nat × Nat × (Option Addr) × Int × Int) → World → Prop} {R : Value → World → Prop}
    (hsz : 1 ≤ size ∧ size ≤ 65536) (hi : i < 1000) (hl : 0 ≤ left ∧ left ≤ size) (ht : (total l : Int) = size - left) (hn : 0 ≤ n ∧ n ≤ size + 1)
    (H : St w0 F w [diskO db bm size (size - left) 0 l])
    (hK : ∀ w' left' l', 0 ≤ left' → left' ≤ size → (total l' : Int) = size - left' → St w0 F w' [diskO db bm size (size - left') 0 l'] → K0 (size, parts, pn, pc, some ⟨db, 0, none⟩, left', ((i + 1 : Nat) : Int)) w') :
    glacierlaw2_DiskFills_b2 size parts pn pc (some ⟨db, 0, none⟩) left (i : Int) n K0 R w := by
  refine wAL H fun b w1 H => ?_
  refine wReq (by decide) ?_
  have hmod : Int.tmod (i : Int) 3 = ((i % 3 : Nat) : Int) := by rw [Int.tmod_eq_emod_of_nonneg (by omega)]; rfl
  rw [hmod]
  obtain ⟨s, hs, hok⟩ : ∃ s, (strs [⟨#[97]⟩, ⟨#[98]⟩, ⟨#[99]⟩])[i % 3]? = some (.string s) ∧ nameOk s = true := by
    have h3 : i % 3 = 0 ∨ i % 3 = 1 ∨ i % 3 = 2 := by omega
    rcases h3 with h | h | h <;> rw [h]
    · exact ⟨⟨#[97]⟩, rfl, by decide⟩
    · exact ⟨⟨#[98]⟩, rfl, by decide⟩
    · exact ⟨⟨#[99]⟩, rfl, by decide⟩
  refine wIXr (m := 3) (i := i % 3) (cs := strs [⟨#[97]⟩, ⟨#[98]⟩, ⟨#[99]⟩]) (ext_pt (A := []) (B := _ :: _) H (by simp; exact .inl rfl) rfl (Nat.le_refl _) rfl).1 (by simp [strs]; omega) rfl fun ad had => ?_
  refine ldS (had.trans hs) ?_
  refine wMakeB H hn.1 (by omega) fun b1 w1 H => ?_
  repeat (first | refine nn ?_ | refine wI H (hK := ?_) | refine wP H (hK := ?_) | refine wM H (hK := ?_) | refine wSl H (hK := ?_) | refine wB H (hK := ?_) | refine wS H (hK := ?_) | refine wEq ?_ | refine wC H (hK := ?_) | (refine wLW H ?_; intro w1 H) | (refine wST H (hK := ?_); intro w1 H _) | refine mSlice_mk ?_ | refine mInt_mk ?_ | refine mBool_mk ?_ | refine mTup_mk ?_ | refine mCons_mk ?_ | refine mNil_mk ?_ | refine mAgg_mk ?_ | refine mPtr_mk ?_ | refine mStr_mk ?_)
  refine wAL H fun b2 w1 H => ?_
  have H := H.front (diskO db bm size (size - left) 0 l)
  have hbl : (bsOf l s).length ≤ 65536 := by
    unfold bsOf
    cases hg : aget l s with
    | none => simp
    | some f => have := total_adel hg; simp only [Option.map_some, Option.getD_some]; omega
  have hpl : plen [⟨some ⟨b1, 0, none⟩, n.toNat, n.toNat, List.replicate n.toNat 0⟩] = n.toNat := by simp [plen]
  have hpb : pbs [⟨some ⟨b1, 0, none⟩, n.toNat, n.toNat, List.replicate n.toNat 0⟩] = List.replicate n.toNat 0 := by simp [pbs]
  have hnn : (n.toNat : Int) = n := by omega
  refine wCall H (fun hA => Append_spec (ps := [⟨some ⟨b1, 0, none⟩, n.toNat, n.toNat, List.replicate n.toNat 0⟩]) hA (ext_part (A := [_]) H (by simp; exact .inl rfl) rfl (Sh.St.ext (A := [_]) H (by simp; exact .inr (.inl rfl))) rfl) (by rw [hpl]; omega) (by simp) (by omega) (by omega)) (hK := ?_)
  rintro r w1 A' (⟨hc, _⟩ | ⟨_, hc, rfl, rfl⟩ | ⟨_, hc, rfl, f, hf, _, rfl⟩) _ H
  · rw [hok] at hc; cases hc
  · rw [hpl, hnn] at hc
    repeat (first | refine nn ?_ | refine wI H (hK := ?_) | refine wP H (hK := ?_) | refine wM H (hK := ?_) | refine wSl H (hK := ?_) | refine wB H (hK := ?_) | refine wS H (hK := ?_) | refine wEq ?_ | refine wC H (hK := ?_) | (refine wLW H ?_; intro w1 H) | (refine wST H (hK := ?_); intro w1 H _) | refine mSlice_mk ?_ | refine mInt_mk ?_ | refine mBool_mk ?_ | refine mTup_mk ?_ | refine mCons_mk ?_ | refine mNil_mk ?_ | refine mAgg_mk ?_ | refine mPtr_mk ?_ | refine mStr_mk ?_)
    have e1 : decide (n > left) = true := by simp; omega
    have e2 : decide (n ≤ left) = false := by simp; omega
    rw [e1, e2]
    refine br (fun h => absurd h (by decide)) (fun _ => ?_)
    refine br (fun h => by cases h) (fun _ => ?_)
    refine br (fun h => by cases h) (fun _ => ?_)
    exact fills_next hsz hi hl ht (H.left (L := [_])) hK
  · rw [hpl, hnn] at hc
    repeat (first | refine nn ?_ | refine wI H (hK := ?_) | refine wP H (hK := ?_) | refine wM H (hK := ?_) | refine wSl H (hK := ?_) | refine wB H (hK := ?_) | refine wS H (hK := ?_) | refine wEq ?_ | refine wC H (hK := ?_) | (refine wLW H ?_; intro w1 H) | (refine wST H (hK := ?_); intro w1 H _) | refine mSlice_mk ?_ | refine mInt_mk ?_ | refine mBool_mk ?_ | refine mTup_mk ?_ | refine mCons_mk ?_ | refine mNil_mk ?_ | refine mAgg_mk ?_ | refine mPtr_mk ?_ | refine mStr_mk ?_)
    have e1 : decide (n > left) = false := by simp; omega
    have e2 : decide (n ≤ left) = true := by simp; omega
    rw [e1, e2]
    refine br (fun h => absurd h (by decide)) (fun _ => ?_)
    refine br (fun _ => ?_) (fun h => by cases h)
    refine br (fun h => absurd h (by decide)) (fun _ => ?_)
    refine br (fun _ => ?_) (fun h => by cases h)
    have hw : IntKind.wrap .i64 (left - n) = left - n := wrap_id (by omega) (by omega)
    rw [hw]
    have hta := total_append hf
    rw [hpb, List.length_replicate] at hta
    have e3 : size - left + (plen [⟨some ⟨b1, 0, none⟩, n.toNat, n.toNat, List.replicate n.toNat 0⟩] : Int) = size - (left - n) := by rw [hpl, hnn]; omega
    rw [e3] at H
    exact fills_next hsz hi (by omega) (by omega) (H.left (L := [_])) hK

theorem DiskFills_spec {size : Int} {b : Option Addr} {n c : Nat} {zs : List Int} (hb : Reads w 1 (.slice b n c) (ints zs)) (hrs : -9223372036854775808 ≤ size ∧ size < 9223372036854775808) :
    CallS Try.prog fn_glacierlaw2_DiskFills #[.int .i64 size, .slice b n c] w [] fun r _ A => r = .bool true ∧ A = [] := by
  have hn : n = zs.length := by
    obtain ⟨_, _, _, he, h1, _⟩ := hb
    cases he
    simpa [ints] using h1
  subst hn
  have hbr : ∀ {w' : World} {L : List Own}, St w (fps []) w' L → Reads w' 1 (.slice b zs.length c) (ints zs) := fun H => hb.of fun x hx => H.fr.block x (hb.lt (by decide) x hx) (by simp)
  refine CallS_intro (.nil w) fun H => glacierlaw2_DiskFills_sound _ _ _ _ _ _ ?_
  refine wCall H (fun _ => known_spec w) (hK := ?_)
  rintro r w1 A' ⟨rfl, rfl⟩ _ H
  repeat (first | refine nn ?_ | refine wI H (hK := ?_) | refine wP H (hK := ?_) | refine wM H (hK := ?_) | refine wSl H (hK := ?_) | refine wB H (hK := ?_) | refine wS H (hK := ?_) | refine wEq ?_ | refine wC H (hK := ?_) | (refine wLW H ?_; intro w1 H) | (refine wST H (hK := ?_); intro w1 H _) | refine mSlice_mk ?_ | refine mInt_mk ?_ | refine mBool_mk ?_ | refine mTup_mk ?_ | refine mCons_mk ?_ | refine mNil_mk ?_ | refine mAgg_mk ?_ | refine mPtr_mk ?_ | refine mStr_mk ?_)
  refine br (fun h => by simp at h) (fun _ => ?_)
  refine br (fun _ => ⟨_, ⟨rfl, rfl⟩, Sh.St.left (L := []) H⟩) (fun h1 => ?_)
  refine br (fun _ => ⟨_, ⟨rfl, rfl⟩, Sh.St.left (L := []) H⟩) (fun h2 => ?_)
  refine br (fun _ => ⟨_, ⟨rfl, rfl⟩, Sh.St.left (L := []) H⟩) (fun h3 => ?_)
  have hsz : 1 ≤ size ∧ size ≤ 65536 := by simp at h1 h2; omega
  have hzl : zs.length ≤ 100 := by simp at h3; omega
  refine wCall H (fun _ => New_spec size w1) (hK := ?_)
  rintro r w1 A' ⟨hr, _⟩ _ H
  obtain ⟨db, bm, rfl, rfl⟩ := hr (by omega)
  repeat (first | refine nn ?_ | refine wI H (hK := ?_) | refine wP H (hK := ?_) | refine wM H (hK := ?_) | refine wSl H (hK := ?_) | refine wB H (hK := ?_) | refine wS H (hK := ?_) | refine wEq ?_ | refine wC H (hK := ?_) | (refine wLW H ?_; intro w1 H) | (refine wST H (hK := ?_); intro w1 H _) | refine mSlice_mk ?_ | refine mInt_mk ?_ | refine mBool_mk ?_ | refine mTup_mk ?_ | refine mCons_mk ?_ | refine mNil_mk ?_ | refine mAgg_mk ?_ | refine mPtr_mk ?_ | refine mStr_mk ?_)
  refine br (fun h => by simp at h) (fun _ => ?_)
  refine br (fun h => by simp at h) (fun _ => ?_)
  refine wLoop (fun k s w' => ∃ (i : Nat) (left : Int) (l : Files), k + i = zs.length ∧ s = (size, b, zs.length, c, some ⟨db, 0, none⟩, left, (i : Int)) ∧ 0 ≤ left ∧ left ≤ size ∧ (total l : Int) = size - left ∧
    St w (fps []) w' [diskO db bm size (size - left) 0 l]) ?_ ?_
  · exact ⟨zs.length, 0, size, [], by omega, rfl, by omega, Int.le_refl _, by simp [total], by rw [Int.sub_self]; exact H⟩
  clear H
  rintro k s w1 ⟨i, left, l, hk, rfl, hl1, hl2, ht, H⟩
  refine br (fun h => ?_) (fun h => ?_)
  · have hi : i < zs.length := by simp at h; omega
    obtain ⟨z, hz⟩ : ∃ z, zs[i]? = some z := ⟨_, List.getElem?_eq_getElem hi⟩
    refine wIXr (hbr H) (i := i) (by simpa [ints] using hi) rfl fun ad had => ?_
    refine ldI (had.trans (show (ints zs)[i]? = some (.int .i64 z) by simp [ints, hz])) ?_
    have hw : IntKind.wrap .i64 (size + 2) = size + 2 := wrap_id (by omega) (by omega)
    rw [hw]
    refine wReq (by omega) ?_
    have hm1 := Int.tmod_lt_of_pos z (show 0 < size + 2 by omega)
    have hm2 := Int.lt_tmod_of_pos z (show 0 < size + 2 by omega)
    have step : ∀ w' left' l', 0 ≤ left' → left' ≤ size → (total l' : Int) = size - left' → St w (fps []) w' [diskO db bm size (size - left') 0 l'] →
        ∃ k', k' < k ∧ ∃ (j : Nat) (left : Int) (l : Files), k' + j = zs.length ∧ ((size, b, zs.length, c, some ⟨db, 0, none⟩, left', ((i + 1 : Nat) : Int)) : Int × (Option Addr) × Nat × Nat × (Option Addr) × Int × Int) = (size, b, zs.length, c, some ⟨db, 0, none⟩, left, (j : Int)) ∧ 0 ≤ left ∧ left ≤ size ∧ (total l : Int) = size - left ∧
          St w (fps []) w' [diskO db bm size (size - left) 0 l] := fun w' left' l' g1 g2 g3 H => ⟨k - 1, by omega, i + 1, left', l', by omega, rfl, g1, g2, g3, H⟩
    refine br (fun hneg => ?_) (fun hneg => ?_)
    · have hw2 : IntKind.wrap .i64 (0 - Int.tmod z (size + 2)) = 0 - Int.tmod z (size + 2) := wrap_id (by omega) (by omega)
      rw [hw2]
      have hneg : Int.tmod z (size + 2) < 0 := by simpa using hneg
      exact fills_put hsz (by omega) ⟨hl1, hl2⟩ ht (by omega) H step
    · have hneg : ¬ Int.tmod z (size + 2) < 0 := by simpa using hneg
      exact fills_put hsz (by omega) ⟨hl1, hl2⟩ ht (by omega) H step
  · refine wMakeB (l := left) H hl1 (by omega) fun b1 w1 H => ?_
    repeat (first | refine nn ?_ | refine wI H (hK := ?_) | refine wP H (hK := ?_) | refine wM H (hK := ?_) | refine wSl H (hK := ?_) | refine wB H (hK := ?_) | refine wS H (hK := ?_) | refine wEq ?_ | refine wC H (hK := ?_) | (refine wLW H ?_; intro w1 H) | (refine wST H (hK := ?_); intro w1 H _) | refine mSlice_mk ?_ | refine mInt_mk ?_ | refine mBool_mk ?_ | refine mTup_mk ?_ | refine mCons_mk ?_ | refine mNil_mk ?_ | refine mAgg_mk ?_ | refine mPtr_mk ?_ | refine mStr_mk ?_)
    refine wAL H fun b2 w1 H => ?_
    have H := H.front (diskO db bm size (size - left) 0 l)
    have hnn : (left.toNat : Int) = left := by omega
    have hpl : plen [⟨some ⟨b1, 0, none⟩, left.toNat, left.toNat, List.replicate left.toNat 0⟩] = left.toNat := by simp [plen]
    have hpb : pbs [⟨some ⟨b1, 0, none⟩, left.toNat, left.toNat, List.replicate left.toNat 0⟩] = List.replicate left.toNat 0 := by simp [pbs]
    have hbz : ∀ l : Files, total l ≤ 65536 → (bsOf l ⟨#[122]⟩).length ≤ 65536 := by
      intro l hl
      unfold bsOf
      cases hg : aget l ⟨#[122]⟩ with
      | none => simp
      | some f => have := total_adel hg; simp only [Option.map_some, Option.getD_some]; omega
    have hok : nameOk ⟨#[122]⟩ = true := by decide
    refine wCall H (fun hA => Append_spec (ps := [⟨some ⟨b1, 0, none⟩, left.toNat, left.toNat, List.replicate left.toNat 0⟩]) hA (ext_part (A := [_]) H (by simp; exact .inl rfl) rfl (Sh.St.ext (A := [_]) H (by simp; exact .inr rfl)) rfl) (by rw [hpl]; omega) (by simp) (by omega) (by have := hbz l (by omega); omega)) (hK := ?_)
    rintro r w1 A' (⟨hc, _⟩ | ⟨_, hc, rfl, rfl⟩ | ⟨_, hc, rfl, f, hf, _, rfl⟩) _ H
    · rw [hok] at hc; cases hc
    · rw [hpl] at hc; omega
    have hta := total_append hf
    rw [hpb, List.length_replicate] at hta
    have e3 : size - left + (plen [⟨some ⟨b1, 0, none⟩, left.toNat, left.toNat, List.replicate left.toNat 0⟩] : Int) = size := by rw [hpl]; omega
    rw [e3] at H
    generalize aput l ⟨#[122]⟩ f = l2 at H hta
    repeat (first | refine nn ?_ | refine wI H (hK := ?_) | refine wP H (hK := ?_) | refine wM H (hK := ?_) | refine wSl H (hK := ?_) | refine wB H (hK := ?_) | refine wS H (hK := ?_) | refine wEq ?_ | refine wC H (hK := ?_) | (refine wLW H ?_; intro w1 H) | (refine wST H (hK := ?_); intro w1 H _) | refine mSlice_mk ?_ | refine mInt_mk ?_ | refine mBool_mk ?_ | refine mTup_mk ?_ | refine mCons_mk ?_ | refine mNil_mk ?_ | refine mAgg_mk ?_ | refine mPtr_mk ?_ | refine mStr_mk ?_)
    refine wAL H fun b3 w1 H => ?_
    refine wAL H fun b4 w1 H => ?_
    have H := H.front (diskO db bm size size 0 l2)
    refine wCall H (fun hA => Append_spec (ps := [⟨some ⟨b3, 0, none⟩, 1, 1, [1]⟩]) hA (ext_part (A := [_]) H (by simp; exact .inl rfl) rfl (ext_pt (A := [_]) H (by simp; exact .inr (.inl rfl)) rfl (Nat.le_refl _) rfl) rfl) (by simp [plen]) (by simp) (by omega) (by have := hbz l2 (by omega); omega)) (hK := ?_)
    rintro r w1 A' (⟨hc, _⟩ | ⟨_, hc, rfl, rfl⟩ | ⟨_, hc, rfl, f, hf, _, rfl⟩) _ H
    · rw [hok] at hc; cases hc
    · repeat (first | refine nn ?_ | refine wI H (hK := ?_) | refine wP H (hK := ?_) | refine wM H (hK := ?_) | refine wSl H (hK := ?_) | refine wB H (hK := ?_) | refine wS H (hK := ?_) | refine wEq ?_ | refine wC H (hK := ?_) | (refine wLW H ?_; intro w1 H) | (refine wST H (hK := ?_); intro w1 H _) | refine mSlice_mk ?_ | refine mInt_mk ?_ | refine mBool_mk ?_ | refine mTup_mk ?_ | refine mCons_mk ?_ | refine mNil_mk ?_ | refine mAgg_mk ?_ | refine mPtr_mk ?_ | refine mStr_mk ?_)
      refine br (fun _ => ?_) (fun h => absurd h (by decide))
      refine br (fun _ => ?_) (fun h => absurd h (by decide))
      refine wCall H (fun hA => Used_spec hA) (hK := ?_)
      rintro r w1 A' ⟨rfl, rfl⟩ _ H
      repeat (first | refine nn ?_ | refine wI H (hK := ?_) | refine wP H (hK := ?_) | refine wM H (hK := ?_) | refine wSl H (hK := ?_) | refine wB H (hK := ?_) | refine wS H (hK := ?_) | refine wEq ?_ | refine wC H (hK := ?_) | (refine wLW H ?_; intro w1 H) | (refine wST H (hK := ?_); intro w1 H _) | refine mSlice_mk ?_ | refine mInt_mk ?_ | refine mBool_mk ?_ | refine mTup_mk ?_ | refine mCons_mk ?_ | refine mNil_mk ?_ | refine mAgg_mk ?_ | refine mPtr_mk ?_ | refine mStr_mk ?_)
      exact ⟨[], ⟨by simp, rfl⟩, H.left (L := [])⟩
    · simp [plen] at hc; omega
end
end Go.Proofs.Ytimgbkabfkdabaa
