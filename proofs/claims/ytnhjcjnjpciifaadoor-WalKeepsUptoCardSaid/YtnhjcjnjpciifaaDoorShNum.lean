/- Printed by a program of this claim: the shallow readings of functions, and that they are sound. -/
import Derived.Test.YtnhjcjnjpciifaaDoorShNames
namespace Go.Proofs.YtnhjcjnjpciifaaDoor
open Go.Sh

/- math/bits.Len -/
def math_bits_Len_b0 (x : Int) (R : Value → World → Prop) (w : World) : Prop :=
  CallR Tryd.prog fn_math_bits_Len64 #[(.int .u64 x)] w fun res w_ =>
  mInt .i64 res fun v =>
  R (.int .i64 v) w_

theorem math_bits_Len_sound (x : Int) (R : Value → World → Prop) (w : World) (h : math_bits_Len_b0 x R w) :
    CallR Tryd.prog fn_math_bits_Len #[(.int .u64 x)] w R := by
  refine CallR_intro (args := [(.int .u64 x)]) Tryd.func74 rfl (Nat.le_of_ble_eq_true (by kernel_rfl)) ?_
  refine Wp_leaf_end (Q0 := fun e _ r w => match e with | .normal => retQ Tryd.prog Tryd.f74.results R .normal [] r w | .exit _ => False | .ret => retQ Tryd.prog Tryd.f74.results R .ret [] r w | _ => False) h (by kernel_rfl) ?_
  intro e _ r w h
  cases e with
  | normal => exact h
  | exit i => exact h.elim
  | ret => exact h
  | goto i => exact h.elim
  | panic c => exact h.elim
  | outgrown => exact h.elim

/- math/bits.Len64 -/
def math_bits_Len64_b0 (x2 : Int) (n1 : Int) (R : Value → World → Prop) (w : World) : Prop :=
  Br (decide (x2 ≥ 256)) (
  Req (0 ≤ (8 : Int)) (
  SIX (ByteArray.mk #[0, 1, 2, 2, 3, 3, 3, 3, 4, 4, 4, 4, 4, 4, 4, 4, 5, 5, 5, 5, 5, 5, 5, 5, 5, 5, 5, 5, 5, 5, 5, 5, 6, 6, 6, 6, 6, 6, 6, 6, 6, 6, 6, 6, 6, 6, 6, 6, 6, 6, 6, 6, 6, 6, 6, 6, 6, 6, 6, 6, 6, 6, 6, 6, 7, 7, 7, 7, 7, 7, 7, 7, 7, 7, 7, 7, 7, 7, 7, 7, 7, 7, 7, 7, 7, 7, 7, 7, 7, 7, 7, 7, 7, 7, 7, 7, 7, 7, 7, 7, 7, 7, 7, 7, 7, 7, 7, 7, 7, 7, 7, 7, 7, 7, 7, 7, 7, 7, 7, 7, 7, 7, 7, 7, 7, 7, 7, 7, 8, 8, 8, 8, 8, 8, 8, 8, 8, 8, 8, 8, 8, 8, 8, 8, 8, 8, 8, 8, 8, 8, 8, 8, 8, 8, 8, 8, 8, 8, 8, 8, 8, 8, 8, 8, 8, 8, 8, 8, 8, 8, 8, 8, 8, 8, 8, 8, 8, 8, 8, 8, 8, 8, 8, 8, 8, 8, 8, 8, 8, 8, 8, 8, 8, 8, 8, 8, 8, 8, 8, 8, 8, 8, 8, 8, 8, 8, 8, 8, 8, 8, 8, 8, 8, 8, 8, 8, 8, 8, 8, 8, 8, 8, 8, 8, 8, 8, 8, 8, 8, 8, 8, 8, 8, 8, 8, 8, 8, 8, 8, 8, 8, 8, 8, 8, 8, 8, 8, 8, 8, 8, 8, 8, 8, 8, 8, 8]) (IntKind.wrap .u8 (Int.fdiv x2 (2 ^ (min (Int.toNat 8) (IntKind.bits .u64))))) fun c =>
  R (.int .i64 (IntKind.wrap .i64 ((IntKind.wrap .i64 (n1 + 8)) + (IntKind.wrap .i64 (UInt8.toNat c : Int))))) w)) (
  SIX (ByteArray.mk #[0, 1, 2, 2, 3, 3, 3, 3, 4, 4, 4, 4, 4, 4, 4, 4, 5, 5, 5, 5, 5, 5, 5, 5, 5, 5, 5, 5, 5, 5, 5, 5, 6, 6, 6, 6, 6, 6, 6, 6, 6, 6, 6, 6, 6, 6, 6, 6, 6, 6, 6, 6, 6, 6, 6, 6, 6, 6, 6, 6, 6, 6, 6, 6, 7, 7, 7, 7, 7, 7, 7, 7, 7, 7, 7, 7, 7, 7, 7, 7, 7, 7, 7, 7, 7, 7, 7, 7, 7, 7, 7, 7, 7, 7, 7, 7, 7, 7, 7, 7, 7, 7, 7, 7, 7, 7, 7, 7, 7, 7, 7, 7, 7, 7, 7, 7, 7, 7, 7, 7, 7, 7, 7, 7, 7, 7, 7, 7, 8, 8, 8, 8, 8, 8, 8, 8, 8, 8, 8, 8, 8, 8, 8, 8, 8, 8, 8, 8, 8, 8, 8, 8, 8, 8, 8, 8, 8, 8, 8, 8, 8, 8, 8, 8, 8, 8, 8, 8, 8, 8, 8, 8, 8, 8, 8, 8, 8, 8, 8, 8, 8, 8, 8, 8, 8, 8, 8, 8, 8, 8, 8, 8, 8, 8, 8, 8, 8, 8, 8, 8, 8, 8, 8, 8, 8, 8, 8, 8, 8, 8, 8, 8, 8, 8, 8, 8, 8, 8, 8, 8, 8, 8, 8, 8, 8, 8, 8, 8, 8, 8, 8, 8, 8, 8, 8, 8, 8, 8, 8, 8, 8, 8, 8, 8, 8, 8, 8, 8, 8, 8, 8, 8, 8, 8, 8, 8]) (IntKind.wrap .u8 x2) fun c1 =>
  R (.int .i64 (IntKind.wrap .i64 (n1 + (IntKind.wrap .i64 (UInt8.toNat c1 : Int))))) w)

def math_bits_Len64_b1 (x1 : Int) (n : Int) (R : Value → World → Prop) (w : World) : Prop :=
  Br (decide (x1 ≥ 65536)) (
  Req (0 ≤ (16 : Int)) (
  math_bits_Len64_b0 (Int.fdiv x1 (2 ^ (min (Int.toNat 16) (IntKind.bits .u64)))) (IntKind.wrap .i64 (n + 16)) R w)) (
  math_bits_Len64_b0 x1 n R w)

def math_bits_Len64_b2 (x : Int) (R : Value → World → Prop) (w : World) : Prop :=
  Br (decide (x ≥ 4294967296)) (
  Req (0 ≤ (32 : Int)) (
  math_bits_Len64_b1 (Int.fdiv x (2 ^ (min (Int.toNat 32) (IntKind.bits .u64)))) 32 R w)) (
  math_bits_Len64_b1 x 0 R w)

def math_bits_Len64_p0 : Point (Int × Int) := { slots := fun s => [(0, (.int .u64 s.1)), (2, (.int .i64 s.2))], dec := fun r K => mInt .u64 (r 0) fun x => mInt .i64 (r 2) fun x1 => K (x, x1) }
theorem math_bits_Len64_p0_ok : math_bits_Len64_p0.ok := by
  intro r K h
  unfold math_bits_Len64_p0 at h
  obtain ⟨x, e0, h⟩ := mInt_elim h
  obtain ⟨x1, e1, h⟩ := mInt_elim h
  exact ⟨(x, x1), regsOf_self (L := [(0, (.int .u64 x)), (2, (.int .i64 x1))]) (List.forall_mem_cons.2 ⟨e0, List.forall_mem_cons.2 ⟨e1, List.forall_mem_nil _⟩⟩), h⟩
theorem math_bits_Len64_p0_re (s : Int × Int) (r : Regs) (K : (Int × Int) → Prop) (h : K s) : math_bits_Len64_p0.dec (regsOf (math_bits_Len64_p0.slots s) r) K := by
  obtain ⟨x2, x3⟩ := s
  exact cast (show K (x2, x3) = math_bits_Len64_p0.dec (regsOf (math_bits_Len64_p0.slots (x2, x3)) r) K by kernel_rfl) h

def math_bits_Len64_p1 : Point (Int × Int) := { slots := fun s => [(0, (.int .u64 s.1)), (2, (.int .i64 s.2))], dec := fun r K => mInt .u64 (r 0) fun x => mInt .i64 (r 2) fun x1 => K (x, x1) }
theorem math_bits_Len64_p1_ok : math_bits_Len64_p1.ok := by
  intro r K h
  unfold math_bits_Len64_p1 at h
  obtain ⟨x, e0, h⟩ := mInt_elim h
  obtain ⟨x1, e1, h⟩ := mInt_elim h
  exact ⟨(x, x1), regsOf_self (L := [(0, (.int .u64 x)), (2, (.int .i64 x1))]) (List.forall_mem_cons.2 ⟨e0, List.forall_mem_cons.2 ⟨e1, List.forall_mem_nil _⟩⟩), h⟩
theorem math_bits_Len64_p1_re (s : Int × Int) (r : Regs) (K : (Int × Int) → Prop) (h : K s) : math_bits_Len64_p1.dec (regsOf (math_bits_Len64_p1.slots s) r) K := by
  obtain ⟨x2, x3⟩ := s
  exact cast (show K (x2, x3) = math_bits_Len64_p1.dec (regsOf (math_bits_Len64_p1.slots (x2, x3)) r) K by kernel_rfl) h

theorem math_bits_Len64_sound (x : Int) (R : Value → World → Prop) (w : World) (h : math_bits_Len64_b2 x R w) :
    CallR Tryd.prog fn_math_bits_Len64 #[(.int .u64 x)] w R := by
  refine CallR_intro (args := [(.int .u64 x)]) Tryd.func97 rfl (Nat.le_of_ble_eq_true (by kernel_rfl)) ?_
  refine Wp_glue math_bits_Len64_p0 (fun s w => math_bits_Len64_b1 s.1 s.2 R w) [_, _] (Q0 := fun e _ r w => match e with | .normal => math_bits_Len64_p0.dec r (fun s => math_bits_Len64_b1 s.1 s.2 R w) | .exit _ => False | .ret => retQ Tryd.prog Tryd.f97.results R .ret [] r w | _ => False) h (by kernel_rfl) (fun s r w h => ?_) math_bits_Len64_p0_ok (fun _ _ _ h => h) ?_
  · obtain ⟨x1, n⟩ := s
    have h : math_bits_Len64_b1 x1 n R w := h
    refine Wp_glue math_bits_Len64_p1 (fun s w => math_bits_Len64_b0 s.1 s.2 R w) [_] (Q0 := fun e _ r w => match e with | .normal => math_bits_Len64_p1.dec r (fun s => math_bits_Len64_b0 s.1 s.2 R w) | .exit _ => False | .ret => retQ Tryd.prog Tryd.f97.results R .ret [] r w | _ => False) h (by kernel_rfl) (fun s r w h => ?_) math_bits_Len64_p1_ok (fun _ _ _ h => h) ?_
    · obtain ⟨x2, n1⟩ := s
      have h : math_bits_Len64_b0 x2 n1 R w := h
      refine Wp_leaf_end (Q0 := fun e _ r w => match e with | .normal => retQ Tryd.prog Tryd.f97.results R .normal [] r w | .exit _ => False | .ret => retQ Tryd.prog Tryd.f97.results R .ret [] r w | _ => False) h (by kernel_rfl) ?_
      intro e _ r w h
      cases e with
      | normal => exact h
      | exit i => exact h.elim
      | ret => exact h
      | goto i => exact h.elim
      | panic c => exact h.elim
      | outgrown => exact h.elim
    · intro e _ r w hne h
      cases e with
      | normal => exact absurd rfl hne
      | exit i => exact h.elim
      | ret => exact h
      | goto i => exact h.elim
      | panic c => exact h.elim
      | outgrown => exact h.elim
  · intro e _ r w hne h
    cases e with
    | normal => exact absurd rfl hne
    | exit i => exact h.elim
    | ret => exact h
    | goto i => exact h.elim
    | panic c => exact h.elim
    | outgrown => exact h.elim

/- internal/strconv.small -/
def internal_strconv_small_b0 (i : Int) (R : Value → World → Prop) (w : World) : Prop :=
  Br (decide (i < 10)) (
  rRun Tryd.prog (Instr.sliceAt 9 (.string (ByteArray.mk #[48, 49, 50, 51, 52, 53, 54, 55, 56, 57, 97, 98, 99, 100, 101, 102, 103, 104, 105, 106, 107, 108, 109, 110, 111, 112, 113, 114, 115, 116, 117, 118, 119, 120, 121, 122])) (some (.int .i64 i)) (some (.int .i64 (IntKind.wrap .i64 (i + 1)))) none) w fun sr w_ =>
  mStr sr fun v =>
  R (.string v) w_) (
  rRun Tryd.prog (Instr.sliceAt 9 (.string (ByteArray.mk #[48, 48, 48, 49, 48, 50, 48, 51, 48, 52, 48, 53, 48, 54, 48, 55, 48, 56, 48, 57, 49, 48, 49, 49, 49, 50, 49, 51, 49, 52, 49, 53, 49, 54, 49, 55, 49, 56, 49, 57, 50, 48, 50, 49, 50, 50, 50, 51, 50, 52, 50, 53, 50, 54, 50, 55, 50, 56, 50, 57, 51, 48, 51, 49, 51, 50, 51, 51, 51, 52, 51, 53, 51, 54, 51, 55, 51, 56, 51, 57, 52, 48, 52, 49, 52, 50, 52, 51, 52, 52, 52, 53, 52, 54, 52, 55, 52, 56, 52, 57, 53, 48, 53, 49, 53, 50, 53, 51, 53, 52, 53, 53, 53, 54, 53, 55, 53, 56, 53, 57, 54, 48, 54, 49, 54, 50, 54, 51, 54, 52, 54, 53, 54, 54, 54, 55, 54, 56, 54, 57, 55, 48, 55, 49, 55, 50, 55, 51, 55, 52, 55, 53, 55, 54, 55, 55, 55, 56, 55, 57, 56, 48, 56, 49, 56, 50, 56, 51, 56, 52, 56, 53, 56, 54, 56, 55, 56, 56, 56, 57, 57, 48, 57, 49, 57, 50, 57, 51, 57, 52, 57, 53, 57, 54, 57, 55, 57, 56, 57, 57])) (some (.int .i64 (IntKind.wrap .i64 (i * 2)))) (some (.int .i64 (IntKind.wrap .i64 ((IntKind.wrap .i64 (i * 2)) + 2)))) none) w fun sr1 w_1 =>
  mStr sr1 fun v1 =>
  R (.string v1) w_1)

theorem internal_strconv_small_sound (i : Int) (R : Value → World → Prop) (w : World) (h : internal_strconv_small_b0 i R w) :
    CallR Tryd.prog fn_internal_strconv_small #[(.int .i64 i)] w R := by
  refine CallR_intro (args := [(.int .i64 i)]) Tryd.func105 rfl (Nat.le_of_ble_eq_true (by kernel_rfl)) ?_
  refine Wp_leaf_end (Q0 := fun e _ r w => match e with | .normal => retQ Tryd.prog Tryd.f105.results R .normal [] r w | .exit _ => False | .ret => retQ Tryd.prog Tryd.f105.results R .ret [] r w | _ => False) h (by kernel_rfl) ?_
  intro e _ r w h
  cases e with
  | normal => exact h
  | exit i => exact h.elim
  | ret => exact h
  | goto i => exact h.elim
  | panic c => exact h.elim
  | outgrown => exact h.elim

/- internal/strconv.FormatInt -/
def internal_strconv_FormatInt_b0 (i : Int) (base : Int) (R : Value → World → Prop) (w : World) : Prop :=
  Br (base == 10) (
  Br (decide ((0 : Int) ≤ i)) (
  Br (decide (i < 100)) (
  CallR Tryd.prog fn_internal_strconv_small #[(.int .i64 i)] w fun res w_ =>
  mStr res fun v =>
  R (.string v) w_) (
  AL w (.cells #[(.int .u8 0), (.int .u8 0), (.int .u8 0), (.int .u8 0), (.int .u8 0), (.int .u8 0), (.int .u8 0), (.int .u8 0), (.int .u8 0), (.int .u8 0), (.int .u8 0), (.int .u8 0), (.int .u8 0), (.int .u8 0), (.int .u8 0), (.int .u8 0), (.int .u8 0), (.int .u8 0), (.int .u8 0), (.int .u8 0), (.int .u8 0), (.int .u8 0), (.int .u8 0), (.int .u8 0)] 149) fun a w_1 =>
  Br (decide (i < 0)) (
  CallR Tryd.prog fn_internal_strconv_numDigits #[(.int .u64 (IntKind.wrap .u64 (0 - (IntKind.wrap .u64 i))))] w_1 fun res1 w_2 =>
  mInt .i64 res1 fun v1 =>
  rRun Tryd.prog (Instr.sliceAt 149 (.pointer (some a)) (some (.int .i64 1)) (some (.int .i64 (IntKind.wrap .i64 (1 + v1)))) none) w_2 fun sr w_3 =>
  mSlice sr fun v2 v_n v_c =>
  CallR Tryd.prog fn_internal_strconv_formatBase10 #[(.slice v2 v_n v_c), (.int .u64 (IntKind.wrap .u64 (0 - (IntKind.wrap .u64 i))))] w_3 fun res2 w_4 =>
  mTup res2 fun l =>
  mNil l (
  Br (decide (i < 0)) (
  Req (0 ≤ (0 : Int) ∧ (0 : Int) < (24 : Int)) (
  ST w_4 (Addr.add a (Int.toNat 0 * 1)) (.int .u8 45) fun w_5 =>
  rRun Tryd.prog (Instr.sliceAt 149 (.pointer (some a)) none (some (.int .i64 (IntKind.wrap .i64 (1 + v1)))) none) w_5 fun sr1 w_6 =>
  mSlice sr1 fun v3 v_n1 v_c1 =>
  rRun Tryd.prog (convert 41 9 (.slice v3 v_n1 v_c1)) w_6 fun sr2 w_7 =>
  mStr sr2 fun v4 =>
  R (.string v4) w_7)) (
  rRun Tryd.prog (Instr.sliceAt 149 (.pointer (some a)) (some (.int .i64 1)) (some (.int .i64 (IntKind.wrap .i64 (1 + v1)))) none) w_4 fun sr3 w_8 =>
  mSlice sr3 fun v5 v_n2 v_c2 =>
  rRun Tryd.prog (convert 41 9 (.slice v5 v_n2 v_c2)) w_8 fun sr4 w_9 =>
  mStr sr4 fun v6 =>
  R (.string v6) w_9))) (
  CallR Tryd.prog fn_internal_strconv_numDigits #[(.int .u64 (IntKind.wrap .u64 i))] w_1 fun res3 w_10 =>
  mInt .i64 res3 fun v7 =>
  rRun Tryd.prog (Instr.sliceAt 149 (.pointer (some a)) (some (.int .i64 1)) (some (.int .i64 (IntKind.wrap .i64 (1 + v7)))) none) w_10 fun sr5 w_11 =>
  mSlice sr5 fun v8 v_n3 v_c3 =>
  CallR Tryd.prog fn_internal_strconv_formatBase10 #[(.slice v8 v_n3 v_c3), (.int .u64 (IntKind.wrap .u64 i))] w_11 fun res4 w_12 =>
  mTup res4 fun l1 =>
  mNil l1 (
  Br (decide (i < 0)) (
  Req (0 ≤ (0 : Int) ∧ (0 : Int) < (24 : Int)) (
  ST w_12 (Addr.add a (Int.toNat 0 * 1)) (.int .u8 45) fun w_13 =>
  rRun Tryd.prog (Instr.sliceAt 149 (.pointer (some a)) none (some (.int .i64 (IntKind.wrap .i64 (1 + v7)))) none) w_13 fun sr6 w_14 =>
  mSlice sr6 fun v9 v_n4 v_c4 =>
  rRun Tryd.prog (convert 41 9 (.slice v9 v_n4 v_c4)) w_14 fun sr7 w_15 =>
  mStr sr7 fun v10 =>
  R (.string v10) w_15)) (
  rRun Tryd.prog (Instr.sliceAt 149 (.pointer (some a)) (some (.int .i64 1)) (some (.int .i64 (IntKind.wrap .i64 (1 + v7)))) none) w_12 fun sr8 w_16 =>
  mSlice sr8 fun v11 v_n5 v_c5 =>
  rRun Tryd.prog (convert 41 9 (.slice v11 v_n5 v_c5)) w_16 fun sr9 w_17 =>
  mStr sr9 fun v12 =>
  R (.string v12) w_17))))) (
  AL w (.cells #[(.int .u8 0), (.int .u8 0), (.int .u8 0), (.int .u8 0), (.int .u8 0), (.int .u8 0), (.int .u8 0), (.int .u8 0), (.int .u8 0), (.int .u8 0), (.int .u8 0), (.int .u8 0), (.int .u8 0), (.int .u8 0), (.int .u8 0), (.int .u8 0), (.int .u8 0), (.int .u8 0), (.int .u8 0), (.int .u8 0), (.int .u8 0), (.int .u8 0), (.int .u8 0), (.int .u8 0)] 149) fun a1 w_18 =>
  Br (decide (i < 0)) (
  CallR Tryd.prog fn_internal_strconv_numDigits #[(.int .u64 (IntKind.wrap .u64 (0 - (IntKind.wrap .u64 i))))] w_18 fun res5 w_19 =>
  mInt .i64 res5 fun v13 =>
  rRun Tryd.prog (Instr.sliceAt 149 (.pointer (some a1)) (some (.int .i64 1)) (some (.int .i64 (IntKind.wrap .i64 (1 + v13)))) none) w_19 fun sr10 w_20 =>
  mSlice sr10 fun v14 v_n6 v_c6 =>
  CallR Tryd.prog fn_internal_strconv_formatBase10 #[(.slice v14 v_n6 v_c6), (.int .u64 (IntKind.wrap .u64 (0 - (IntKind.wrap .u64 i))))] w_20 fun res6 w_21 =>
  mTup res6 fun l2 =>
  mNil l2 (
  Br (decide (i < 0)) (
  Req (0 ≤ (0 : Int) ∧ (0 : Int) < (24 : Int)) (
  ST w_21 (Addr.add a1 (Int.toNat 0 * 1)) (.int .u8 45) fun w_22 =>
  rRun Tryd.prog (Instr.sliceAt 149 (.pointer (some a1)) none (some (.int .i64 (IntKind.wrap .i64 (1 + v13)))) none) w_22 fun sr11 w_23 =>
  mSlice sr11 fun v15 v_n7 v_c7 =>
  rRun Tryd.prog (convert 41 9 (.slice v15 v_n7 v_c7)) w_23 fun sr12 w_24 =>
  mStr sr12 fun v16 =>
  R (.string v16) w_24)) (
  rRun Tryd.prog (Instr.sliceAt 149 (.pointer (some a1)) (some (.int .i64 1)) (some (.int .i64 (IntKind.wrap .i64 (1 + v13)))) none) w_21 fun sr13 w_25 =>
  mSlice sr13 fun v17 v_n8 v_c8 =>
  rRun Tryd.prog (convert 41 9 (.slice v17 v_n8 v_c8)) w_25 fun sr14 w_26 =>
  mStr sr14 fun v18 =>
  R (.string v18) w_26))) (
  CallR Tryd.prog fn_internal_strconv_numDigits #[(.int .u64 (IntKind.wrap .u64 i))] w_18 fun res7 w_27 =>
  mInt .i64 res7 fun v19 =>
  rRun Tryd.prog (Instr.sliceAt 149 (.pointer (some a1)) (some (.int .i64 1)) (some (.int .i64 (IntKind.wrap .i64 (1 + v19)))) none) w_27 fun sr15 w_28 =>
  mSlice sr15 fun v20 v_n9 v_c9 =>
  CallR Tryd.prog fn_internal_strconv_formatBase10 #[(.slice v20 v_n9 v_c9), (.int .u64 (IntKind.wrap .u64 i))] w_28 fun res8 w_29 =>
  mTup res8 fun l3 =>
  mNil l3 (
  Br (decide (i < 0)) (
  Req (0 ≤ (0 : Int) ∧ (0 : Int) < (24 : Int)) (
  ST w_29 (Addr.add a1 (Int.toNat 0 * 1)) (.int .u8 45) fun w_30 =>
  rRun Tryd.prog (Instr.sliceAt 149 (.pointer (some a1)) none (some (.int .i64 (IntKind.wrap .i64 (1 + v19)))) none) w_30 fun sr16 w_31 =>
  mSlice sr16 fun v21 v_n10 v_c10 =>
  rRun Tryd.prog (convert 41 9 (.slice v21 v_n10 v_c10)) w_31 fun sr17 w_32 =>
  mStr sr17 fun v22 =>
  R (.string v22) w_32)) (
  rRun Tryd.prog (Instr.sliceAt 149 (.pointer (some a1)) (some (.int .i64 1)) (some (.int .i64 (IntKind.wrap .i64 (1 + v19)))) none) w_29 fun sr18 w_33 =>
  mSlice sr18 fun v23 v_n11 v_c11 =>
  rRun Tryd.prog (convert 41 9 (.slice v23 v_n11 v_c11)) w_33 fun sr19 w_34 =>
  mStr sr19 fun v24 =>
  R (.string v24) w_34))))) (
  CallR Tryd.prog fn_internal_strconv_formatBits #[(.slice none 0 0), (.int .u64 (IntKind.wrap .u64 i)), (.int .i64 base), (.bool (decide (i < 0))), (.bool false)] w fun res9 w_35 =>
  mTup res9 fun l4 =>
  mCons l4 fun v25 l5 =>
  mSlice v25 fun _ _ _ =>
  mCons l5 fun v27 l6 =>
  mStr v27 fun v28 =>
  mNil l6 (
  R (.string v28) w_35))

theorem internal_strconv_FormatInt_sound (i : Int) (base : Int) (R : Value → World → Prop) (w : World) (h : internal_strconv_FormatInt_b0 i base R w) :
    CallR Tryd.prog fn_internal_strconv_FormatInt #[(.int .i64 i), (.int .i64 base)] w R := by
  refine CallR_intro (args := [(.int .i64 i), (.int .i64 base)]) Tryd.func84 rfl (Nat.le_of_ble_eq_true (by kernel_rfl)) ?_
  refine Wp_leaf_end (Q0 := fun e _ r w => match e with | .normal => retQ Tryd.prog Tryd.f84.results R .normal [] r w | .exit _ => False | .ret => retQ Tryd.prog Tryd.f84.results R .ret [] r w | _ => False) h (by kernel_rfl) ?_
  intro e _ r w h
  cases e with
  | normal => exact h
  | exit i => exact h.elim
  | ret => exact h
  | goto i => exact h.elim
  | panic c => exact h.elim
  | outgrown => exact h.elim

/- internal/strconv.Itoa -/
def internal_strconv_Itoa_b0 (i : Int) (R : Value → World → Prop) (w : World) : Prop :=
  CallR Tryd.prog fn_internal_strconv_FormatInt #[(.int .i64 i), (.int .i64 10)] w fun res w_ =>
  mStr res fun v =>
  R (.string v) w_

theorem internal_strconv_Itoa_sound (i : Int) (R : Value → World → Prop) (w : World) (h : internal_strconv_Itoa_b0 i R w) :
    CallR Tryd.prog fn_internal_strconv_Itoa #[(.int .i64 i)] w R := by
  refine CallR_intro (args := [(.int .i64 i)]) Tryd.func64 rfl (Nat.le_of_ble_eq_true (by kernel_rfl)) ?_
  refine Wp_leaf_end (Q0 := fun e _ r w => match e with | .normal => retQ Tryd.prog Tryd.f64.results R .normal [] r w | .exit _ => False | .ret => retQ Tryd.prog Tryd.f64.results R .ret [] r w | _ => False) h (by kernel_rfl) ?_
  intro e _ r w h
  cases e with
  | normal => exact h
  | exit i => exact h.elim
  | ret => exact h
  | goto i => exact h.elim
  | panic c => exact h.elim
  | outgrown => exact h.elim

/- strconv.Itoa -/
def strconv_Itoa_b0 (i : Int) (R : Value → World → Prop) (w : World) : Prop :=
  CallR Tryd.prog fn_internal_strconv_Itoa #[(.int .i64 i)] w fun res w_ =>
  mStr res fun v =>
  R (.string v) w_

theorem strconv_Itoa_sound (i : Int) (R : Value → World → Prop) (w : World) (h : strconv_Itoa_b0 i R w) :
    CallR Tryd.prog fn_strconv_Itoa #[(.int .i64 i)] w R := by
  refine CallR_intro (args := [(.int .i64 i)]) Tryd.func44 rfl (Nat.le_of_ble_eq_true (by kernel_rfl)) ?_
  refine Wp_leaf_end (Q0 := fun e _ r w => match e with | .normal => retQ Tryd.prog Tryd.f44.results R .normal [] r w | .exit _ => False | .ret => retQ Tryd.prog Tryd.f44.results R .ret [] r w | _ => False) h (by kernel_rfl) ?_
  intro e _ r w h
  cases e with
  | normal => exact h
  | exit i => exact h.elim
  | ret => exact h
  | goto i => exact h.elim
  | panic c => exact h.elim
  | outgrown => exact h.elim

end Go.Proofs.YtnhjcjnjpciifaaDoor
