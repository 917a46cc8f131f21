/- Printed by a program of this claim: the shallow readings of functions, and that they are sound. -/
import Derived.Test.YtnhjcjnjpciifaaDoorShNames
namespace Go.Proofs.YtnhjcjnjpciifaaDoor
open Go.Sh

/- slices.Clip[[]byte,byte] -/
def slices_Clip_s_byte_byte_b0 (s : Option Addr) (s_n : Nat) (s_c : Nat) (R : Value → World → Prop) (w : World) : Prop :=
  rRun Tryd.prog (Instr.sliceAt 41 (.slice s s_n s_c) none (some (.int .i64 (s_n : Int))) (some (.int .i64 (s_n : Int)))) w fun sr w_ =>
  mSlice sr fun v v_n v_c =>
  R (.slice v v_n v_c) w_

set_option maxRecDepth 100000 in
theorem slices_Clip_s_byte_byte_sound (s : Option Addr) (s_n : Nat) (s_c : Nat) (R : Value → World → Prop) (w : World) (h : slices_Clip_s_byte_byte_b0 s s_n s_c R w) :
    CallR Tryd.prog fn_slices_Clip_s_byte_byte #[(.slice s s_n s_c)] w R := by
  refine CallR_intro (args := [(.slice s s_n s_c)]) Tryd.func104 rfl (Nat.le_of_ble_eq_true (by kernel_rfl)) ?_
  refine Wp_leaf_end (Q0 := fun e _ r w => match e with | .normal => retQ Tryd.prog Tryd.f104.results R .normal [] r w | .exit _ => False | .ret => retQ Tryd.prog Tryd.f104.results R .ret [] r w | _ => False) h (by kernel_rfl) ?_
  intro e _ r w h
  cases e with
  | normal => exact h
  | exit i => exact h.elim
  | ret => exact h
  | goto i => exact h.elim
  | panic c => exact h.elim
  | outgrown => exact h.elim

/- glacier/codec.Number -/
def codec_Number_b0 (b4 : Option Addr) (b_n3 : Nat) (b_c3 : Nat) (t12 : Int) (R : Value → World → Prop) (w : World) : Prop :=
  AL w (.cells #[(.int .u8 (IntKind.wrap .u8 t12))] 5) fun b5 w_3 =>
  rRun Tryd.prog (Builtin.append_ #[41, 41] 41 #[(.slice b4 b_n3 b_c3), (.slice (some b5) 1 1)]) w_3 fun sr1 w_4 =>
  mSlice sr1 fun v3 v_n2 v_c2 =>
  R (.slice v3 v_n2 v_c2) w_4

def codec_Number_b1 (b2 : Option Addr) (b_n2 : Nat) (b_c2 : Nat) (t11 : Int) (K0 : ((Option Addr) × Nat × Nat × Int) → World → Prop) (R : Value → World → Prop) (w : World) : Prop :=
  Br (decide (t11 ≥ 128)) (
  AL w (.cells #[(.int .u8 (bOr .u8 (IntKind.wrap .u8 t11) 128))] 5) fun b3 w_1 =>
  rRun Tryd.prog (Builtin.append_ #[41, 41] 41 #[(.slice b2 b_n2 b_c2), (.slice (some b3) 1 1)]) w_1 fun sr w_2 =>
  mSlice sr fun v2 v_n1 v_c1 =>
  Req (0 ≤ (7 : Int)) (
  K0 (v2, v_n1, v_c1, Int.fdiv t11 (2 ^ (min (Int.toNat 7) (IntKind.bits .u64)))) w_2)) (
  codec_Number_b0 b2 b_n2 b_c2 t11 R w)

def codec_Number_b2 (b1 : Option Addr) (b_n1 : Nat) (b_c1 : Nat) (t1 : Int) (R : Value → World → Prop) (w : World) : Prop :=
  LoopS (σ := (Option Addr) × Nat × Nat × Int) (fun s w K0 =>
  codec_Number_b1 s.1 s.2.1 s.2.2.1 s.2.2.2 K0 R w) (b1, b_n1, b_c1, t1) w

def codec_Number_b3 (b : Option Addr) (b_n : Nat) (b_c : Nat) (v : Int) (R : Value → World → Prop) (w : World) : Prop :=
  CallR Tryd.prog fn_slices_Clip_s_byte_byte #[(.slice b b_n b_c)] w fun res w_ =>
  mSlice res fun v1 v_n v_c =>
  codec_Number_b2 v1 v_n v_c v R w_

def codec_Number_p0 : Point ((Option Addr) × Nat × Nat × Int) := { slots := fun s => [(0, (.slice s.1 s.2.1 s.2.2.1)), (1, (.int .u64 s.2.2.2))], dec := fun r K => mSlice (r 0) fun x x1 x2 => mInt .u64 (r 1) fun x3 => K (x, x1, x2, x3) }
theorem codec_Number_p0_ok : codec_Number_p0.ok := by
  intro r K h
  unfold codec_Number_p0 at h
  obtain ⟨x, x1, x2, e0, h⟩ := mSlice_elim h
  obtain ⟨x3, e1, h⟩ := mInt_elim h
  exact ⟨(x, x1, x2, x3), regsOf_self (L := [(0, (.slice x x1 x2)), (1, (.int .u64 x3))]) (List.forall_mem_cons.2 ⟨e0, List.forall_mem_cons.2 ⟨e1, List.forall_mem_nil _⟩⟩), h⟩
theorem codec_Number_p0_re (s : (Option Addr) × Nat × Nat × Int) (r : Regs) (K : ((Option Addr) × Nat × Nat × Int) → Prop) (h : K s) : codec_Number_p0.dec (regsOf (codec_Number_p0.slots s) r) K := by
  obtain ⟨x4, x5, x6, x7⟩ := s
  exact cast (show K (x4, x5, x6, x7) = codec_Number_p0.dec (regsOf (codec_Number_p0.slots (x4, x5, x6, x7)) r) K by kernel_rfl) h

def codec_Number_p1 : Point ((Option Addr) × Nat × Nat × Int) := { slots := fun s => [(0, (.slice s.1 s.2.1 s.2.2.1)), (1, (.int .u64 s.2.2.2))], dec := fun r K => mSlice (r 0) fun x x1 x2 => mInt .u64 (r 1) fun x3 => K (x, x1, x2, x3) }
theorem codec_Number_p1_ok : codec_Number_p1.ok := by
  intro r K h
  unfold codec_Number_p1 at h
  obtain ⟨x, x1, x2, e0, h⟩ := mSlice_elim h
  obtain ⟨x3, e1, h⟩ := mInt_elim h
  exact ⟨(x, x1, x2, x3), regsOf_self (L := [(0, (.slice x x1 x2)), (1, (.int .u64 x3))]) (List.forall_mem_cons.2 ⟨e0, List.forall_mem_cons.2 ⟨e1, List.forall_mem_nil _⟩⟩), h⟩
theorem codec_Number_p1_re (s : (Option Addr) × Nat × Nat × Int) (r : Regs) (K : ((Option Addr) × Nat × Nat × Int) → Prop) (h : K s) : codec_Number_p1.dec (regsOf (codec_Number_p1.slots s) r) K := by
  obtain ⟨x4, x5, x6, x7⟩ := s
  exact cast (show K (x4, x5, x6, x7) = codec_Number_p1.dec (regsOf (codec_Number_p1.slots (x4, x5, x6, x7)) r) K by kernel_rfl) h

set_option maxRecDepth 100000 in
theorem codec_Number_sound (b : Option Addr) (b_n : Nat) (b_c : Nat) (v : Int) (R : Value → World → Prop) (w : World) (h : codec_Number_b3 b b_n b_c v R w) :
    CallR Tryd.prog fn_codec_Number #[(.slice b b_n b_c), (.int .u64 v)] w R := by
  refine CallR_intro (args := [(.slice b b_n b_c), (.int .u64 v)]) Tryd.func83 rfl (Nat.le_of_ble_eq_true (by kernel_rfl)) ?_
  refine Wp_glue codec_Number_p0 (fun s w => codec_Number_b2 s.1 s.2.1 s.2.2.1 s.2.2.2 R w) [_, _] (Q0 := fun e _ r w => match e with | .normal => codec_Number_p0.dec r (fun s => codec_Number_b2 s.1 s.2.1 s.2.2.1 s.2.2.2 R w) | .exit _ => False | .ret => retQ Tryd.prog Tryd.f83.results R .ret [] r w | _ => False) h (by kernel_rfl) (fun s r w h => ?_) codec_Number_p0_ok (fun _ _ _ h => h) ?_
  · obtain ⟨b1, b_n1, b_c1, t1⟩ := s
    have h : codec_Number_b2 b1 b_n1 b_c1 t1 R w := h
    refine Wp_seq_via codec_Number_p1 (fun s w => codec_Number_b0 s.1 s.2.1 s.2.2.1 s.2.2.2 R w) (fun s r w h => ?_) (fun hN1 => ?_)
    · obtain ⟨b4, b_n3, b_c3, t12⟩ := s
      have h : codec_Number_b0 b4 b_n3 b_c3 t12 R w := h
      refine Wp_leaf_end (Q0 := fun e _ r w => match e with | .normal => retQ Tryd.prog Tryd.f83.results R .normal [] r w | .exit _ => False | .ret => retQ Tryd.prog Tryd.f83.results R .ret [] r w | _ => False) h (by kernel_rfl) ?_
      intro e _ r w h
      cases e with
      | normal => exact h
      | exit i => exact h.elim
      | ret => exact h
      | goto i => exact h.elim
      | panic c => exact h.elim
      | outgrown => exact h.elim
    · refine Wp_block_via codec_Number_p1 (fun s w => codec_Number_b0 s.1 s.2.1 s.2.2.1 s.2.2.2 R w) hN1 (fun hX2 => ?_)
      refine Wp_loop (p := codec_Number_p0) codec_Number_p0_ok (fun s r w K0 h => ?_) h
      obtain ⟨b2, b_n2, b_c2, t11⟩ := s
      have h : codec_Number_b1 b2 b_n2 b_c2 t11 K0 R w := h
      have hK3 := fun (s : (Option Addr) × Nat × Nat × Int) (r : Regs) (w : World) (h : K0 s w) => codec_Number_p0_re s r (fun s => K0 s w) h
      refine Wp_leaf_end (Q0 := fun e _ r w => match e with | .normal => codec_Number_p0.dec r (fun s => K0 s w) | .exit i => exitQ i 0 (codec_Number_p1.dec r (fun s => codec_Number_b0 s.1 s.2.1 s.2.2.1 s.2.2.2 R w)) (False) | .ret => retQ Tryd.prog Tryd.f83.results R .ret [] r w | _ => False) h (by kernel_rfl) ?_
      intro e _ r w h
      cases e with
      | normal =>
        obtain ⟨s, hs, h⟩ := codec_Number_p0_ok _ _ h
        rw [← hs]
        exact hK3 s r w h
      | exit i =>
        rcases exitQ_elim h with ⟨rfl, h⟩ | ⟨_, h⟩
        · obtain ⟨s, hs, h⟩ := codec_Number_p1_ok _ _ h
          rw [← hs]
          exact hX2 s r w h
        exact h.elim
      | ret => exact h
      | goto i => exact h.elim
      | panic c => exact h.elim
      | outgrown => exact h.elim
  · intro e _ r w hne h
    cases e with
    | normal => exact absurd rfl hne
    | exit i => exact h.elim
    | ret => exact h
    | goto i => exact h.elim
    | panic c => exact h.elim
    | outgrown => exact h.elim

/- glacier/codec.ReadNumber -/
def codec_ReadNumber_b0 (R : Value → World → Prop) (w : World) : Prop :=
  R (.tuple #[(.int .u64 0), (.int .i64 0), (.int .i64 11)]) w

def codec_ReadNumber_b1 (t52 : Int) (t81 : Option Addr) (t8_n1 : Nat) (t8_c1 : Nat) (t91 : Int) (t101 : Int) (K0 : (Int × (Option Addr) × Nat × Nat × Int × Int) → World → Prop) (R : Value → World → Prop) (w : World) : Prop :=
  Br (decide (t101 < t91)) (
  IX t81 t8_n1 t101 1 fun a =>
  LDI .u8 w a fun v =>
  Br (t101 == 9) (
  Br (decide (v > 1)) (
  R (.tuple #[(.int .u64 0), (.int .i64 0), (.int .i64 12)]) w) (
  Req (0 ≤ (IntKind.wrap .i64 (7 * t101))) (
  Br (decide (v < 128)) (
  Br (v == 0) (
  Br (decide (t101 > 0)) (
  R (.tuple #[(.int .u64 0), (.int .i64 0), (.int .i64 12)]) w) (
  R (.tuple #[(.int .u64 (bOr .u64 t52 (IntKind.wrap .u64 ((IntKind.wrap .u64 (bAnd .u8 v 127)) * 2 ^ (min (Int.toNat (IntKind.wrap .i64 (7 * t101))) (IntKind.bits .u64)))))), (.int .i64 (IntKind.wrap .i64 (t101 + 1))), (.int .i64 0)]) w)) (
  R (.tuple #[(.int .u64 (bOr .u64 t52 (IntKind.wrap .u64 ((IntKind.wrap .u64 (bAnd .u8 v 127)) * 2 ^ (min (Int.toNat (IntKind.wrap .i64 (7 * t101))) (IntKind.bits .u64)))))), (.int .i64 (IntKind.wrap .i64 (t101 + 1))), (.int .i64 0)]) w)) (
  K0 (bOr .u64 t52 (IntKind.wrap .u64 ((IntKind.wrap .u64 (bAnd .u8 v 127)) * 2 ^ (min (Int.toNat (IntKind.wrap .i64 (7 * t101))) (IntKind.bits .u64)))), t81, t8_n1, t8_c1, t91, IntKind.wrap .i64 (t101 + 1)) w)))) (
  Req (0 ≤ (IntKind.wrap .i64 (7 * t101))) (
  Br (decide (v < 128)) (
  Br (v == 0) (
  Br (decide (t101 > 0)) (
  R (.tuple #[(.int .u64 0), (.int .i64 0), (.int .i64 12)]) w) (
  R (.tuple #[(.int .u64 (bOr .u64 t52 (IntKind.wrap .u64 ((IntKind.wrap .u64 (bAnd .u8 v 127)) * 2 ^ (min (Int.toNat (IntKind.wrap .i64 (7 * t101))) (IntKind.bits .u64)))))), (.int .i64 (IntKind.wrap .i64 (t101 + 1))), (.int .i64 0)]) w)) (
  R (.tuple #[(.int .u64 (bOr .u64 t52 (IntKind.wrap .u64 ((IntKind.wrap .u64 (bAnd .u8 v 127)) * 2 ^ (min (Int.toNat (IntKind.wrap .i64 (7 * t101))) (IntKind.bits .u64)))))), (.int .i64 (IntKind.wrap .i64 (t101 + 1))), (.int .i64 0)]) w)) (
  K0 (bOr .u64 t52 (IntKind.wrap .u64 ((IntKind.wrap .u64 (bAnd .u8 v 127)) * 2 ^ (min (Int.toNat (IntKind.wrap .i64 (7 * t101))) (IntKind.bits .u64)))), t81, t8_n1, t8_c1, t91, IntKind.wrap .i64 (t101 + 1)) w)))) (
  codec_ReadNumber_b0 R w)

def codec_ReadNumber_b2 (t51 : Int) (t8 : Option Addr) (t8_n : Nat) (t8_c : Nat) (t9 : Int) (t10 : Int) (R : Value → World → Prop) (w : World) : Prop :=
  LoopS (σ := Int × (Option Addr) × Nat × Nat × Int × Int) (fun s w K0 =>
  codec_ReadNumber_b1 s.1 s.2.1 s.2.2.1 s.2.2.2.1 s.2.2.2.2.1 s.2.2.2.2.2 K0 R w) (t51, t8, t8_n, t8_c, t9, t10) w

def codec_ReadNumber_b3 (b1 : Option Addr) (b_n1 : Nat) (b_c1 : Nat) (t5 : Int) (R : Value → World → Prop) (w : World) : Prop :=
  codec_ReadNumber_b2 t5 b1 b_n1 b_c1 (b_n1 : Int) 0 R w

def codec_ReadNumber_b4 (b : Option Addr) (b_n : Nat) (b_c : Nat) (R : Value → World → Prop) (w : World) : Prop :=
  codec_ReadNumber_b3 b b_n b_c 0 R w

def codec_ReadNumber_p0 : Point ((Option Addr) × Nat × Nat × Int) := { slots := fun s => [(0, (.slice s.1 s.2.1 s.2.2.1)), (5, (.int .u64 s.2.2.2))], dec := fun r K => mSlice (r 0) fun x x1 x2 => mInt .u64 (r 5) fun x3 => K (x, x1, x2, x3) }
theorem codec_ReadNumber_p0_ok : codec_ReadNumber_p0.ok := by
  intro r K h
  unfold codec_ReadNumber_p0 at h
  obtain ⟨x, x1, x2, e0, h⟩ := mSlice_elim h
  obtain ⟨x3, e1, h⟩ := mInt_elim h
  exact ⟨(x, x1, x2, x3), regsOf_self (L := [(0, (.slice x x1 x2)), (5, (.int .u64 x3))]) (List.forall_mem_cons.2 ⟨e0, List.forall_mem_cons.2 ⟨e1, List.forall_mem_nil _⟩⟩), h⟩
theorem codec_ReadNumber_p0_re (s : (Option Addr) × Nat × Nat × Int) (r : Regs) (K : ((Option Addr) × Nat × Nat × Int) → Prop) (h : K s) : codec_ReadNumber_p0.dec (regsOf (codec_ReadNumber_p0.slots s) r) K := by
  obtain ⟨x4, x5, x6, x7⟩ := s
  exact cast (show K (x4, x5, x6, x7) = codec_ReadNumber_p0.dec (regsOf (codec_ReadNumber_p0.slots (x4, x5, x6, x7)) r) K by kernel_rfl) h

def codec_ReadNumber_p1 : Point (Unit) := { slots := fun _ => [], dec := fun _ K => K () }
theorem codec_ReadNumber_p1_ok : codec_ReadNumber_p1.ok := by
  intro r K h
  unfold codec_ReadNumber_p1 at h
  exact ⟨(), regsOf_self (L := []) (List.forall_mem_nil _), h⟩
theorem codec_ReadNumber_p1_re (s : Unit) (r : Regs) (K : Unit → Prop) (h : K s) : codec_ReadNumber_p1.dec (regsOf (codec_ReadNumber_p1.slots s) r) K := by
  exact cast (show K () = codec_ReadNumber_p1.dec (regsOf (codec_ReadNumber_p1.slots ()) r) K by kernel_rfl) h

def codec_ReadNumber_p2 : Point (Int × (Option Addr) × Nat × Nat × Int × Int) := { slots := fun s => [(5, (.int .u64 s.1)), (8, (.slice s.2.1 s.2.2.1 s.2.2.2.1)), (9, (.int .i64 s.2.2.2.2.1)), (10, (.int .i64 s.2.2.2.2.2))], dec := fun r K => mInt .u64 (r 5) fun x => mSlice (r 8) fun x1 x2 x3 => mInt .i64 (r 9) fun x4 => mInt .i64 (r 10) fun x5 => K (x, x1, x2, x3, x4, x5) }
theorem codec_ReadNumber_p2_ok : codec_ReadNumber_p2.ok := by
  intro r K h
  unfold codec_ReadNumber_p2 at h
  obtain ⟨x, e0, h⟩ := mInt_elim h
  obtain ⟨x1, x2, x3, e1, h⟩ := mSlice_elim h
  obtain ⟨x4, e2, h⟩ := mInt_elim h
  obtain ⟨x5, e3, h⟩ := mInt_elim h
  exact ⟨(x, x1, x2, x3, x4, x5), regsOf_self (L := [(5, (.int .u64 x)), (8, (.slice x1 x2 x3)), (9, (.int .i64 x4)), (10, (.int .i64 x5))]) (List.forall_mem_cons.2 ⟨e0, List.forall_mem_cons.2 ⟨e1, List.forall_mem_cons.2 ⟨e2, List.forall_mem_cons.2 ⟨e3, List.forall_mem_nil _⟩⟩⟩⟩), h⟩
theorem codec_ReadNumber_p2_re (s : Int × (Option Addr) × Nat × Nat × Int × Int) (r : Regs) (K : (Int × (Option Addr) × Nat × Nat × Int × Int) → Prop) (h : K s) : codec_ReadNumber_p2.dec (regsOf (codec_ReadNumber_p2.slots s) r) K := by
  obtain ⟨x6, x7, x8, x9, x10, x11⟩ := s
  exact cast (show K (x6, x7, x8, x9, x10, x11) = codec_ReadNumber_p2.dec (regsOf (codec_ReadNumber_p2.slots (x6, x7, x8, x9, x10, x11)) r) K by kernel_rfl) h

set_option maxRecDepth 100000 in
theorem codec_ReadNumber_sound (b : Option Addr) (b_n : Nat) (b_c : Nat) (R : Value → World → Prop) (w : World) (h : codec_ReadNumber_b4 b b_n b_c R w) :
    CallR Tryd.prog fn_codec_ReadNumber #[(.slice b b_n b_c)] w R := by
  refine CallR_intro (args := [(.slice b b_n b_c)]) Tryd.func75 rfl (Nat.le_of_ble_eq_true (by kernel_rfl)) ?_
  refine Wp_glue codec_ReadNumber_p0 (fun s w => codec_ReadNumber_b3 s.1 s.2.1 s.2.2.1 s.2.2.2 R w) [_, _] (Q0 := fun e _ r w => match e with | .normal => codec_ReadNumber_p0.dec r (fun s => codec_ReadNumber_b3 s.1 s.2.1 s.2.2.1 s.2.2.2 R w) | .exit _ => False | .ret => retQ Tryd.prog Tryd.f75.results R .ret [] r w | _ => False) h (by kernel_rfl) (fun s r w h => ?_) codec_ReadNumber_p0_ok (fun _ _ _ h => h) ?_
  · obtain ⟨b1, b_n1, b_c1, t5⟩ := s
    have h : codec_ReadNumber_b3 b1 b_n1 b_c1 t5 R w := h
    refine Wp_seq_via codec_ReadNumber_p1 (fun _ w => codec_ReadNumber_b0 R w) (fun s r w h => ?_) (fun hN1 => ?_)
    · cases s
      have h : codec_ReadNumber_b0 R w := h
      refine Wp_leaf_end (Q0 := fun e _ r w => match e with | .normal => retQ Tryd.prog Tryd.f75.results R .normal [] r w | .exit _ => False | .ret => retQ Tryd.prog Tryd.f75.results R .ret [] r w | _ => False) h (by kernel_rfl) ?_
      intro e _ r w h
      cases e with
      | normal => exact h
      | exit i => exact h.elim
      | ret => exact h
      | goto i => exact h.elim
      | panic c => exact h.elim
      | outgrown => exact h.elim
    · refine Wp_glue codec_ReadNumber_p2 (fun s w => codec_ReadNumber_b2 s.1 s.2.1 s.2.2.1 s.2.2.2.1 s.2.2.2.2.1 s.2.2.2.2.2 R w) [_] (Q0 := fun e _ r w => match e with | .normal => codec_ReadNumber_p2.dec r (fun s => codec_ReadNumber_b2 s.1 s.2.1 s.2.2.1 s.2.2.2.1 s.2.2.2.2.1 s.2.2.2.2.2 R w) | .exit _ => False | .ret => retQ Tryd.prog Tryd.f75.results R .ret [] r w | _ => False) h (by kernel_rfl) (fun s r w h => ?_) codec_ReadNumber_p2_ok (fun _ _ _ h => h) ?_
      · obtain ⟨t51, t8, t8_n, t8_c, t9, t10⟩ := s
        have h : codec_ReadNumber_b2 t51 t8 t8_n t8_c t9 t10 R w := h
        refine Wp_block_via codec_ReadNumber_p1 (fun _ w => codec_ReadNumber_b0 R w) hN1 (fun hX2 => ?_)
        refine Wp_loop (p := codec_ReadNumber_p2) codec_ReadNumber_p2_ok (fun s r w K0 h => ?_) h
        obtain ⟨t52, t81, t8_n1, t8_c1, t91, t101⟩ := s
        have h : codec_ReadNumber_b1 t52 t81 t8_n1 t8_c1 t91 t101 K0 R w := h
        have hK3 := fun (s : Int × (Option Addr) × Nat × Nat × Int × Int) (r : Regs) (w : World) (h : K0 s w) => codec_ReadNumber_p2_re s r (fun s => K0 s w) h
        refine Wp_leaf_end (Q0 := fun e _ r w => match e with | .normal => codec_ReadNumber_p2.dec r (fun s => K0 s w) | .exit i => exitQ i 0 (codec_ReadNumber_p1.dec r (fun _ => codec_ReadNumber_b0 R w)) (False) | .ret => retQ Tryd.prog Tryd.f75.results R .ret [] r w | _ => False) h (by kernel_rfl) ?_
        intro e _ r w h
        cases e with
        | normal =>
          obtain ⟨s, hs, h⟩ := codec_ReadNumber_p2_ok _ _ h
          rw [← hs]
          exact hK3 s r w h
        | exit i =>
          rcases exitQ_elim h with ⟨rfl, h⟩ | ⟨_, h⟩
          · obtain ⟨s, hs, h⟩ := codec_ReadNumber_p1_ok _ _ h
            rw [← hs]
            exact hX2 s r w h
          exact h.elim
        | ret => exact h
        | goto i => exact h.elim
        | panic c => exact h.elim
        | outgrown => exact h.elim
      · intro e _ r w hne h
        cases e with
        | normal => exact absurd rfl hne
        | exit i => exact h.elim
        | ret => exact h
        | goto i => exact h.elim
        | panic c => exact h.elim
        | outgrown => exact h.elim
  · intro e _ r w hne h
    cases e with
    | normal => exact absurd rfl hne
    | exit i => exact h.elim
    | ret => exact h
    | goto i => exact h.elim
    | panic c => exact h.elim
    | outgrown => exact h.elim

/- slices.Equal[[]byte,byte] -/
def slices_Equal_s_byte_byte_b0 (R : Value → World → Prop) (w : World) : Prop :=
  R (.bool true) w

def slices_Equal_s_byte_byte_b1 (s13 : Option Addr) (s1_n3 : Nat) (s1_c3 : Nat) (s23 : Option Addr) (s2_n3 : Nat) (s2_c3 : Nat) (t121 : Int) (t131 : Int) (K0 : ((Option Addr) × Nat × Nat × (Option Addr) × Nat × Nat × Int × Int) → World → Prop) (R : Value → World → Prop) (w : World) : Prop :=
  Br (decide (t131 < t121)) (
  LetW (World.drew w) fun w_ =>
  IX s13 s1_n3 t131 1 fun a =>
  LDI .u8 w_ a fun v =>
  IX s23 s2_n3 t131 1 fun a1 =>
  LDI .u8 w_ a1 fun v1 =>
  Br (v != v1) (
  R (.bool false) w_) (
  K0 (s13, s1_n3, s1_c3, s23, s2_n3, s2_c3, t121, IntKind.wrap .i64 (t131 + 1)) w_)) (
  slices_Equal_s_byte_byte_b0 R w)

def slices_Equal_s_byte_byte_b2 (s12 : Option Addr) (s1_n2 : Nat) (s1_c2 : Nat) (s22 : Option Addr) (s2_n2 : Nat) (s2_c2 : Nat) (t12 : Int) (t13 : Int) (R : Value → World → Prop) (w : World) : Prop :=
  LoopS (σ := (Option Addr) × Nat × Nat × (Option Addr) × Nat × Nat × Int × Int) (fun s w K0 =>
  slices_Equal_s_byte_byte_b1 s.1 s.2.1 s.2.2.1 s.2.2.2.1 s.2.2.2.2.1 s.2.2.2.2.2.1 s.2.2.2.2.2.2.1 s.2.2.2.2.2.2.2 K0 R w) (s12, s1_n2, s1_c2, s22, s2_n2, s2_c2, t12, t13) w

def slices_Equal_s_byte_byte_b3 (s11 : Option Addr) (s1_n1 : Nat) (s1_c1 : Nat) (s21 : Option Addr) (s2_n1 : Nat) (s2_c1 : Nat) (R : Value → World → Prop) (w : World) : Prop :=
  slices_Equal_s_byte_byte_b2 s11 s1_n1 s1_c1 s21 s2_n1 s2_c1 (s1_n1 : Int) 0 R w

def slices_Equal_s_byte_byte_b4 (s1 : Option Addr) (s1_n : Nat) (s1_c : Nat) (s2 : Option Addr) (s2_n : Nat) (s2_c : Nat) (R : Value → World → Prop) (w : World) : Prop :=
  Br ((s1_n : Int) != (s2_n : Int)) (
  R (.bool false) w) (
  slices_Equal_s_byte_byte_b3 s1 s1_n s1_c s2 s2_n s2_c R w)

def slices_Equal_s_byte_byte_p0 : Point ((Option Addr) × Nat × Nat × (Option Addr) × Nat × Nat) := { slots := fun s => [(0, (.slice s.1 s.2.1 s.2.2.1)), (1, (.slice s.2.2.2.1 s.2.2.2.2.1 s.2.2.2.2.2))], dec := fun r K => mSlice (r 0) fun x x1 x2 => mSlice (r 1) fun x3 x4 x5 => K (x, x1, x2, x3, x4, x5) }
theorem slices_Equal_s_byte_byte_p0_ok : slices_Equal_s_byte_byte_p0.ok := by
  intro r K h
  unfold slices_Equal_s_byte_byte_p0 at h
  obtain ⟨x, x1, x2, e0, h⟩ := mSlice_elim h
  obtain ⟨x3, x4, x5, e1, h⟩ := mSlice_elim h
  exact ⟨(x, x1, x2, x3, x4, x5), regsOf_self (L := [(0, (.slice x x1 x2)), (1, (.slice x3 x4 x5))]) (List.forall_mem_cons.2 ⟨e0, List.forall_mem_cons.2 ⟨e1, List.forall_mem_nil _⟩⟩), h⟩
theorem slices_Equal_s_byte_byte_p0_re (s : (Option Addr) × Nat × Nat × (Option Addr) × Nat × Nat) (r : Regs) (K : ((Option Addr) × Nat × Nat × (Option Addr) × Nat × Nat) → Prop) (h : K s) : slices_Equal_s_byte_byte_p0.dec (regsOf (slices_Equal_s_byte_byte_p0.slots s) r) K := by
  obtain ⟨x6, x7, x8, x9, x10, x11⟩ := s
  exact cast (show K (x6, x7, x8, x9, x10, x11) = slices_Equal_s_byte_byte_p0.dec (regsOf (slices_Equal_s_byte_byte_p0.slots (x6, x7, x8, x9, x10, x11)) r) K by kernel_rfl) h

def slices_Equal_s_byte_byte_p1 : Point (Unit) := { slots := fun _ => [], dec := fun _ K => K () }
theorem slices_Equal_s_byte_byte_p1_ok : slices_Equal_s_byte_byte_p1.ok := by
  intro r K h
  unfold slices_Equal_s_byte_byte_p1 at h
  exact ⟨(), regsOf_self (L := []) (List.forall_mem_nil _), h⟩
theorem slices_Equal_s_byte_byte_p1_re (s : Unit) (r : Regs) (K : Unit → Prop) (h : K s) : slices_Equal_s_byte_byte_p1.dec (regsOf (slices_Equal_s_byte_byte_p1.slots s) r) K := by
  exact cast (show K () = slices_Equal_s_byte_byte_p1.dec (regsOf (slices_Equal_s_byte_byte_p1.slots ()) r) K by kernel_rfl) h

def slices_Equal_s_byte_byte_p2 : Point ((Option Addr) × Nat × Nat × (Option Addr) × Nat × Nat × Int × Int) := { slots := fun s => [(0, (.slice s.1 s.2.1 s.2.2.1)), (1, (.slice s.2.2.2.1 s.2.2.2.2.1 s.2.2.2.2.2.1)), (12, (.int .i64 s.2.2.2.2.2.2.1)), (13, (.int .i64 s.2.2.2.2.2.2.2))], dec := fun r K => mSlice (r 0) fun x x1 x2 => mSlice (r 1) fun x3 x4 x5 => mInt .i64 (r 12) fun x6 => mInt .i64 (r 13) fun x7 => K (x, x1, x2, x3, x4, x5, x6, x7) }
theorem slices_Equal_s_byte_byte_p2_ok : slices_Equal_s_byte_byte_p2.ok := by
  intro r K h
  unfold slices_Equal_s_byte_byte_p2 at h
  obtain ⟨x, x1, x2, e0, h⟩ := mSlice_elim h
  obtain ⟨x3, x4, x5, e1, h⟩ := mSlice_elim h
  obtain ⟨x6, e2, h⟩ := mInt_elim h
  obtain ⟨x7, e3, h⟩ := mInt_elim h
  exact ⟨(x, x1, x2, x3, x4, x5, x6, x7), regsOf_self (L := [(0, (.slice x x1 x2)), (1, (.slice x3 x4 x5)), (12, (.int .i64 x6)), (13, (.int .i64 x7))]) (List.forall_mem_cons.2 ⟨e0, List.forall_mem_cons.2 ⟨e1, List.forall_mem_cons.2 ⟨e2, List.forall_mem_cons.2 ⟨e3, List.forall_mem_nil _⟩⟩⟩⟩), h⟩
theorem slices_Equal_s_byte_byte_p2_re (s : (Option Addr) × Nat × Nat × (Option Addr) × Nat × Nat × Int × Int) (r : Regs) (K : ((Option Addr) × Nat × Nat × (Option Addr) × Nat × Nat × Int × Int) → Prop) (h : K s) : slices_Equal_s_byte_byte_p2.dec (regsOf (slices_Equal_s_byte_byte_p2.slots s) r) K := by
  obtain ⟨x8, x9, x10, x11, x12, x13, x14, x15⟩ := s
  exact cast (show K (x8, x9, x10, x11, x12, x13, x14, x15) = slices_Equal_s_byte_byte_p2.dec (regsOf (slices_Equal_s_byte_byte_p2.slots (x8, x9, x10, x11, x12, x13, x14, x15)) r) K by kernel_rfl) h

set_option maxRecDepth 100000 in
theorem slices_Equal_s_byte_byte_sound (s1 : Option Addr) (s1_n : Nat) (s1_c : Nat) (s2 : Option Addr) (s2_n : Nat) (s2_c : Nat) (R : Value → World → Prop) (w : World) (h : slices_Equal_s_byte_byte_b4 s1 s1_n s1_c s2 s2_n s2_c R w) :
    CallR Tryd.prog fn_slices_Equal_s_byte_byte #[(.slice s1 s1_n s1_c), (.slice s2 s2_n s2_c)] w R := by
  refine CallR_intro (args := [(.slice s1 s1_n s1_c), (.slice s2 s2_n s2_c)]) Tryd.func76 rfl (Nat.le_of_ble_eq_true (by kernel_rfl)) ?_
  refine Wp_glue slices_Equal_s_byte_byte_p0 (fun s w => slices_Equal_s_byte_byte_b3 s.1 s.2.1 s.2.2.1 s.2.2.2.1 s.2.2.2.2.1 s.2.2.2.2.2 R w) [_, _] (Q0 := fun e _ r w => match e with | .normal => slices_Equal_s_byte_byte_p0.dec r (fun s => slices_Equal_s_byte_byte_b3 s.1 s.2.1 s.2.2.1 s.2.2.2.1 s.2.2.2.2.1 s.2.2.2.2.2 R w) | .exit _ => False | .ret => retQ Tryd.prog Tryd.f76.results R .ret [] r w | _ => False) h (by kernel_rfl) (fun s r w h => ?_) slices_Equal_s_byte_byte_p0_ok (fun _ _ _ h => h) ?_
  · obtain ⟨s11, s1_n1, s1_c1, s21, s2_n1, s2_c1⟩ := s
    have h : slices_Equal_s_byte_byte_b3 s11 s1_n1 s1_c1 s21 s2_n1 s2_c1 R w := h
    refine Wp_seq_via slices_Equal_s_byte_byte_p1 (fun _ w => slices_Equal_s_byte_byte_b0 R w) (fun s r w h => ?_) (fun hN1 => ?_)
    · cases s
      have h : slices_Equal_s_byte_byte_b0 R w := h
      refine Wp_leaf_end (Q0 := fun e _ r w => match e with | .normal => retQ Tryd.prog Tryd.f76.results R .normal [] r w | .exit _ => False | .ret => retQ Tryd.prog Tryd.f76.results R .ret [] r w | _ => False) h (by kernel_rfl) ?_
      intro e _ r w h
      cases e with
      | normal => exact h
      | exit i => exact h.elim
      | ret => exact h
      | goto i => exact h.elim
      | panic c => exact h.elim
      | outgrown => exact h.elim
    · refine Wp_glue slices_Equal_s_byte_byte_p2 (fun s w => slices_Equal_s_byte_byte_b2 s.1 s.2.1 s.2.2.1 s.2.2.2.1 s.2.2.2.2.1 s.2.2.2.2.2.1 s.2.2.2.2.2.2.1 s.2.2.2.2.2.2.2 R w) [_] (Q0 := fun e _ r w => match e with | .normal => slices_Equal_s_byte_byte_p2.dec r (fun s => slices_Equal_s_byte_byte_b2 s.1 s.2.1 s.2.2.1 s.2.2.2.1 s.2.2.2.2.1 s.2.2.2.2.2.1 s.2.2.2.2.2.2.1 s.2.2.2.2.2.2.2 R w) | .exit _ => False | .ret => retQ Tryd.prog Tryd.f76.results R .ret [] r w | _ => False) h (by kernel_rfl) (fun s r w h => ?_) slices_Equal_s_byte_byte_p2_ok (fun _ _ _ h => h) ?_
      · obtain ⟨s12, s1_n2, s1_c2, s22, s2_n2, s2_c2, t12, t13⟩ := s
        have h : slices_Equal_s_byte_byte_b2 s12 s1_n2 s1_c2 s22 s2_n2 s2_c2 t12 t13 R w := h
        refine Wp_block_via slices_Equal_s_byte_byte_p1 (fun _ w => slices_Equal_s_byte_byte_b0 R w) hN1 (fun hX2 => ?_)
        refine Wp_loop (p := slices_Equal_s_byte_byte_p2) slices_Equal_s_byte_byte_p2_ok (fun s r w K0 h => ?_) h
        obtain ⟨s13, s1_n3, s1_c3, s23, s2_n3, s2_c3, t121, t131⟩ := s
        have h : slices_Equal_s_byte_byte_b1 s13 s1_n3 s1_c3 s23 s2_n3 s2_c3 t121 t131 K0 R w := h
        have hK3 := fun (s : (Option Addr) × Nat × Nat × (Option Addr) × Nat × Nat × Int × Int) (r : Regs) (w : World) (h : K0 s w) => slices_Equal_s_byte_byte_p2_re s r (fun s => K0 s w) h
        refine Wp_leaf_end (Q0 := fun e _ r w => match e with | .normal => slices_Equal_s_byte_byte_p2.dec r (fun s => K0 s w) | .exit i => exitQ i 0 (slices_Equal_s_byte_byte_p1.dec r (fun _ => slices_Equal_s_byte_byte_b0 R w)) (False) | .ret => retQ Tryd.prog Tryd.f76.results R .ret [] r w | _ => False) h (by kernel_rfl) ?_
        intro e _ r w h
        cases e with
        | normal =>
          obtain ⟨s, hs, h⟩ := slices_Equal_s_byte_byte_p2_ok _ _ h
          rw [← hs]
          exact hK3 s r w h
        | exit i =>
          rcases exitQ_elim h with ⟨rfl, h⟩ | ⟨_, h⟩
          · obtain ⟨s, hs, h⟩ := slices_Equal_s_byte_byte_p1_ok _ _ h
            rw [← hs]
            exact hX2 s r w h
          exact h.elim
        | ret => exact h
        | goto i => exact h.elim
        | panic c => exact h.elim
        | outgrown => exact h.elim
      · intro e _ r w hne h
        cases e with
        | normal => exact absurd rfl hne
        | exit i => exact h.elim
        | ret => exact h
        | goto i => exact h.elim
        | panic c => exact h.elim
        | outgrown => exact h.elim
  · intro e _ r w hne h
    cases e with
    | normal => exact absurd rfl hne
    | exit i => exact h.elim
    | ret => exact h
    | goto i => exact h.elim
    | panic c => exact h.elim
    | outgrown => exact h.elim

/- glacier/codec.low -/
def codec_low_b0 (b5 : Option Addr) (b_n4 : Nat) (b_c4 : Nat) (R : Value → World → Prop) (w : World) : Prop :=
  R (.slice b5 b_n4 b_c4) w

def codec_low_b1 (b3 : Option Addr) (b_n3 : Nat) (b_c3 : Nat) (t12 : Int) (t71 : Int) (t81 : Int) (K0 : ((Option Addr) × Nat × Nat × Int × Int × Int) → World → Prop) (R : Value → World → Prop) (w : World) : Prop :=
  Br (decide (t81 < t71)) (
  AL w (.cells #[(.int .u8 (IntKind.wrap .u8 t12))] 5) fun b4 w_ =>
  rRun Tryd.prog (Builtin.append_ #[41, 41] 41 #[(.slice b3 b_n3 b_c3), (.slice (some b4) 1 1)]) w_ fun sr w_1 =>
  mSlice sr fun v1 v_n v_c =>
  Req (0 ≤ (8 : Int)) (
  K0 (v1, v_n, v_c, Int.fdiv t12 (2 ^ (min (Int.toNat 8) (IntKind.bits .u64))), t71, IntKind.wrap .i64 (t81 + 1)) w_1)) (
  codec_low_b0 b3 b_n3 b_c3 R w)

def codec_low_b2 (b2 : Option Addr) (b_n2 : Nat) (b_c2 : Nat) (t11 : Int) (t7 : Int) (t8 : Int) (R : Value → World → Prop) (w : World) : Prop :=
  LoopS (σ := (Option Addr) × Nat × Nat × Int × Int × Int) (fun s w K0 =>
  codec_low_b1 s.1 s.2.1 s.2.2.1 s.2.2.2.1 s.2.2.2.2.1 s.2.2.2.2.2 K0 R w) (b2, b_n2, b_c2, t11, t7, t8) w

def codec_low_b3 (b1 : Option Addr) (b_n1 : Nat) (b_c1 : Nat) (t1 : Int) (n1 : Int) (R : Value → World → Prop) (w : World) : Prop :=
  codec_low_b2 b1 b_n1 b_c1 t1 n1 0 R w

def codec_low_b4 (b : Option Addr) (b_n : Nat) (b_c : Nat) (v : Int) (n : Int) (R : Value → World → Prop) (w : World) : Prop :=
  codec_low_b3 b b_n b_c v n R w

def codec_low_p0 : Point ((Option Addr) × Nat × Nat × Int × Int) := { slots := fun s => [(0, (.slice s.1 s.2.1 s.2.2.1)), (1, (.int .u64 s.2.2.2.1)), (2, (.int .i64 s.2.2.2.2))], dec := fun r K => mSlice (r 0) fun x x1 x2 => mInt .u64 (r 1) fun x3 => mInt .i64 (r 2) fun x4 => K (x, x1, x2, x3, x4) }
theorem codec_low_p0_ok : codec_low_p0.ok := by
  intro r K h
  unfold codec_low_p0 at h
  obtain ⟨x, x1, x2, e0, h⟩ := mSlice_elim h
  obtain ⟨x3, e1, h⟩ := mInt_elim h
  obtain ⟨x4, e2, h⟩ := mInt_elim h
  exact ⟨(x, x1, x2, x3, x4), regsOf_self (L := [(0, (.slice x x1 x2)), (1, (.int .u64 x3)), (2, (.int .i64 x4))]) (List.forall_mem_cons.2 ⟨e0, List.forall_mem_cons.2 ⟨e1, List.forall_mem_cons.2 ⟨e2, List.forall_mem_nil _⟩⟩⟩), h⟩
theorem codec_low_p0_re (s : (Option Addr) × Nat × Nat × Int × Int) (r : Regs) (K : ((Option Addr) × Nat × Nat × Int × Int) → Prop) (h : K s) : codec_low_p0.dec (regsOf (codec_low_p0.slots s) r) K := by
  obtain ⟨x5, x6, x7, x8, x9⟩ := s
  exact cast (show K (x5, x6, x7, x8, x9) = codec_low_p0.dec (regsOf (codec_low_p0.slots (x5, x6, x7, x8, x9)) r) K by kernel_rfl) h

def codec_low_p1 : Point ((Option Addr) × Nat × Nat) := { slots := fun s => [(0, (.slice s.1 s.2.1 s.2.2))], dec := fun r K => mSlice (r 0) fun x x1 x2 => K (x, x1, x2) }
theorem codec_low_p1_ok : codec_low_p1.ok := by
  intro r K h
  unfold codec_low_p1 at h
  obtain ⟨x, x1, x2, e0, h⟩ := mSlice_elim h
  exact ⟨(x, x1, x2), regsOf_self (L := [(0, (.slice x x1 x2))]) (List.forall_mem_cons.2 ⟨e0, List.forall_mem_nil _⟩), h⟩
theorem codec_low_p1_re (s : (Option Addr) × Nat × Nat) (r : Regs) (K : ((Option Addr) × Nat × Nat) → Prop) (h : K s) : codec_low_p1.dec (regsOf (codec_low_p1.slots s) r) K := by
  obtain ⟨x3, x4, x5⟩ := s
  exact cast (show K (x3, x4, x5) = codec_low_p1.dec (regsOf (codec_low_p1.slots (x3, x4, x5)) r) K by kernel_rfl) h

def codec_low_p2 : Point ((Option Addr) × Nat × Nat × Int × Int × Int) := { slots := fun s => [(0, (.slice s.1 s.2.1 s.2.2.1)), (1, (.int .u64 s.2.2.2.1)), (7, (.int .i64 s.2.2.2.2.1)), (8, (.int .i64 s.2.2.2.2.2))], dec := fun r K => mSlice (r 0) fun x x1 x2 => mInt .u64 (r 1) fun x3 => mInt .i64 (r 7) fun x4 => mInt .i64 (r 8) fun x5 => K (x, x1, x2, x3, x4, x5) }
theorem codec_low_p2_ok : codec_low_p2.ok := by
  intro r K h
  unfold codec_low_p2 at h
  obtain ⟨x, x1, x2, e0, h⟩ := mSlice_elim h
  obtain ⟨x3, e1, h⟩ := mInt_elim h
  obtain ⟨x4, e2, h⟩ := mInt_elim h
  obtain ⟨x5, e3, h⟩ := mInt_elim h
  exact ⟨(x, x1, x2, x3, x4, x5), regsOf_self (L := [(0, (.slice x x1 x2)), (1, (.int .u64 x3)), (7, (.int .i64 x4)), (8, (.int .i64 x5))]) (List.forall_mem_cons.2 ⟨e0, List.forall_mem_cons.2 ⟨e1, List.forall_mem_cons.2 ⟨e2, List.forall_mem_cons.2 ⟨e3, List.forall_mem_nil _⟩⟩⟩⟩), h⟩
theorem codec_low_p2_re (s : (Option Addr) × Nat × Nat × Int × Int × Int) (r : Regs) (K : ((Option Addr) × Nat × Nat × Int × Int × Int) → Prop) (h : K s) : codec_low_p2.dec (regsOf (codec_low_p2.slots s) r) K := by
  obtain ⟨x6, x7, x8, x9, x10, x11⟩ := s
  exact cast (show K (x6, x7, x8, x9, x10, x11) = codec_low_p2.dec (regsOf (codec_low_p2.slots (x6, x7, x8, x9, x10, x11)) r) K by kernel_rfl) h

set_option maxRecDepth 100000 in
theorem codec_low_sound (b : Option Addr) (b_n : Nat) (b_c : Nat) (v : Int) (n : Int) (R : Value → World → Prop) (w : World) (h : codec_low_b4 b b_n b_c v n R w) :
    CallR Tryd.prog fn_codec_low #[(.slice b b_n b_c), (.int .u64 v), (.int .i64 n)] w R := by
  refine CallR_intro (args := [(.slice b b_n b_c), (.int .u64 v), (.int .i64 n)]) Tryd.func77 rfl (Nat.le_of_ble_eq_true (by kernel_rfl)) ?_
  refine Wp_glue codec_low_p0 (fun s w => codec_low_b3 s.1 s.2.1 s.2.2.1 s.2.2.2.1 s.2.2.2.2 R w) [_] (Q0 := fun e _ r w => match e with | .normal => codec_low_p0.dec r (fun s => codec_low_b3 s.1 s.2.1 s.2.2.1 s.2.2.2.1 s.2.2.2.2 R w) | .exit _ => False | .ret => retQ Tryd.prog Tryd.f77.results R .ret [] r w | _ => False) h (by kernel_rfl) (fun s r w h => ?_) codec_low_p0_ok (fun _ _ _ h => h) ?_
  · obtain ⟨b1, b_n1, b_c1, t1, n1⟩ := s
    have h : codec_low_b3 b1 b_n1 b_c1 t1 n1 R w := h
    refine Wp_seq_via codec_low_p1 (fun s w => codec_low_b0 s.1 s.2.1 s.2.2 R w) (fun s r w h => ?_) (fun hN1 => ?_)
    · obtain ⟨b5, b_n4, b_c4⟩ := s
      have h : codec_low_b0 b5 b_n4 b_c4 R w := h
      refine Wp_leaf_end (Q0 := fun e _ r w => match e with | .normal => retQ Tryd.prog Tryd.f77.results R .normal [] r w | .exit _ => False | .ret => retQ Tryd.prog Tryd.f77.results R .ret [] r w | _ => False) h (by kernel_rfl) ?_
      intro e _ r w h
      cases e with
      | normal => exact h
      | exit i => exact h.elim
      | ret => exact h
      | goto i => exact h.elim
      | panic c => exact h.elim
      | outgrown => exact h.elim
    · refine Wp_glue codec_low_p2 (fun s w => codec_low_b2 s.1 s.2.1 s.2.2.1 s.2.2.2.1 s.2.2.2.2.1 s.2.2.2.2.2 R w) [_] (Q0 := fun e _ r w => match e with | .normal => codec_low_p2.dec r (fun s => codec_low_b2 s.1 s.2.1 s.2.2.1 s.2.2.2.1 s.2.2.2.2.1 s.2.2.2.2.2 R w) | .exit _ => False | .ret => retQ Tryd.prog Tryd.f77.results R .ret [] r w | _ => False) h (by kernel_rfl) (fun s r w h => ?_) codec_low_p2_ok (fun _ _ _ h => h) ?_
      · obtain ⟨b2, b_n2, b_c2, t11, t7, t8⟩ := s
        have h : codec_low_b2 b2 b_n2 b_c2 t11 t7 t8 R w := h
        refine Wp_block_via codec_low_p1 (fun s w => codec_low_b0 s.1 s.2.1 s.2.2 R w) hN1 (fun hX2 => ?_)
        refine Wp_loop (p := codec_low_p2) codec_low_p2_ok (fun s r w K0 h => ?_) h
        obtain ⟨b3, b_n3, b_c3, t12, t71, t81⟩ := s
        have h : codec_low_b1 b3 b_n3 b_c3 t12 t71 t81 K0 R w := h
        have hK3 := fun (s : (Option Addr) × Nat × Nat × Int × Int × Int) (r : Regs) (w : World) (h : K0 s w) => codec_low_p2_re s r (fun s => K0 s w) h
        refine Wp_leaf_end (Q0 := fun e _ r w => match e with | .normal => codec_low_p2.dec r (fun s => K0 s w) | .exit i => exitQ i 0 (codec_low_p1.dec r (fun s => codec_low_b0 s.1 s.2.1 s.2.2 R w)) (False) | .ret => retQ Tryd.prog Tryd.f77.results R .ret [] r w | _ => False) h (by kernel_rfl) ?_
        intro e _ r w h
        cases e with
        | normal =>
          obtain ⟨s, hs, h⟩ := codec_low_p2_ok _ _ h
          rw [← hs]
          exact hK3 s r w h
        | exit i =>
          rcases exitQ_elim h with ⟨rfl, h⟩ | ⟨_, h⟩
          · obtain ⟨s, hs, h⟩ := codec_low_p1_ok _ _ h
            rw [← hs]
            exact hX2 s r w h
          exact h.elim
        | ret => exact h
        | goto i => exact h.elim
        | panic c => exact h.elim
        | outgrown => exact h.elim
      · intro e _ r w hne h
        cases e with
        | normal => exact absurd rfl hne
        | exit i => exact h.elim
        | ret => exact h
        | goto i => exact h.elim
        | panic c => exact h.elim
        | outgrown => exact h.elim
  · intro e _ r w hne h
    cases e with
    | normal => exact absurd rfl hne
    | exit i => exact h.elim
    | ret => exact h
    | goto i => exact h.elim
    | panic c => exact h.elim
    | outgrown => exact h.elim

/- glacier/codec.table -/
def codec_table_b0 (t11 : Addr) (t47 : Int) (K0 : (Addr × Int) → World → Prop) (w : World) : Prop :=
  K0 (t11, IntKind.wrap .i64 (t47 + 1)) w

def codec_table_b1 (t10 : Addr) (i3 : Int) (c3 : Int) (t46 : Int) (K0 : (Addr × Int) → World → Prop) (w : World) : Prop :=
  Req (0 ≤ i3 ∧ i3 < (16 : Int)) (
  ST w (Addr.add t10 (Int.toNat i3 * 1)) (.int .u32 c3) fun w_1 =>
  codec_table_b0 t10 t46 K0 w_1)

def codec_table_b2 (t8 : Addr) (i2 : Int) (c2 : Int) (t45 : Int) (t91 : Int) (K0 : (Addr × Int) → World → Prop) (K1 : (Addr × Int × Int × Int × Int) → World → Prop) (w : World) : Prop :=
  Br (decide (t91 < 4)) (
  Req (0 ≤ (1 : Int)) (
  Br ((bAnd .u32 c2 1) == 1) (
  K1 (t8, i2, bXor .u32 (Int.fdiv c2 (2 ^ (min (Int.toNat 1) (IntKind.bits .u32)))) 2197175160, t45, IntKind.wrap .i64 (t91 + 1)) w) (
  K1 (t8, i2, Int.fdiv c2 (2 ^ (min (Int.toNat 1) (IntKind.bits .u32))), t45, IntKind.wrap .i64 (t91 + 1)) w))) (
  codec_table_b1 t8 i2 c2 t45 K0 w)

def codec_table_b3 (t7 : Addr) (i1 : Int) (c1 : Int) (t44 : Int) (t9 : Int) (K0 : (Addr × Int) → World → Prop) (w : World) : Prop :=
  LoopS (σ := Addr × Int × Int × Int × Int) (fun s w K1 =>
  codec_table_b2 s.1 s.2.1 s.2.2.1 s.2.2.2.1 s.2.2.2.2 K0 K1 w) (t7, i1, c1, t44, t9) w

def codec_table_b4 (t6 : Addr) (i : Int) (c : Int) (t43 : Int) (K0 : (Addr × Int) → World → Prop) (w : World) : Prop :=
  codec_table_b3 t6 i c t43 0 K0 w

def codec_table_b5 (t5 : Addr) (t42 : Int) (K0 : (Addr × Int) → World → Prop) (w : World) : Prop :=
  codec_table_b4 t5 t42 (IntKind.wrap .u32 t42) t42 K0 w

def codec_table_b6 (t12 : Addr) (R : Value → World → Prop) (w : World) : Prop :=
  rRun Tryd.prog (Instr.loadAt 141 (.pointer (some t12))) w fun vr w_2 => (w_2 = w ∧ 
  stVar Tryd.prog 141 t12 vr w fun w_3 =>
  rRun Tryd.prog (Instr.loadAt 141 (.pointer (some t12))) w_3 fun tr w_4 => (w_4 = w_3 ∧ 
  R tr w_3))

def codec_table_b7 (t3 : Addr) (t41 : Int) (K0 : (Addr × Int) → World → Prop) (R : Value → World → Prop) (w : World) : Prop :=
  Br (decide (t41 < 16)) (
  codec_table_b5 t3 t41 K0 w) (
  codec_table_b6 t3 R w)

def codec_table_b8 (t2 : Addr) (t4 : Int) (R : Value → World → Prop) (w : World) : Prop :=
  LoopS (σ := Addr × Int) (fun s w K0 =>
  codec_table_b7 s.1 s.2 K0 R w) (t2, t4) w

def codec_table_b9 (t1 : Addr) (R : Value → World → Prop) (w : World) : Prop :=
  codec_table_b8 t1 0 R w

def codec_table_b10 (R : Value → World → Prop) (w : World) : Prop :=
  AL w (.cells #[(.int .u32 0), (.int .u32 0), (.int .u32 0), (.int .u32 0), (.int .u32 0), (.int .u32 0), (.int .u32 0), (.int .u32 0), (.int .u32 0), (.int .u32 0), (.int .u32 0), (.int .u32 0), (.int .u32 0), (.int .u32 0), (.int .u32 0), (.int .u32 0)] 141) fun t w_ =>
  codec_table_b9 t R w_

def codec_table_p0 : Point (Addr) := { slots := fun s => [(0, (.pointer (some s)))], dec := fun r K => mPA (r 0) fun x => K x }
theorem codec_table_p0_ok : codec_table_p0.ok := by
  intro r K h
  unfold codec_table_p0 at h
  obtain ⟨x, e0, h⟩ := mPA_elim h
  exact ⟨x, regsOf_self (L := [(0, (.pointer (some x)))]) (List.forall_mem_cons.2 ⟨e0, List.forall_mem_nil _⟩), h⟩
theorem codec_table_p0_re (s : Addr) (r : Regs) (K : Addr → Prop) (h : K s) : codec_table_p0.dec (regsOf (codec_table_p0.slots s) r) K := by
  exact cast (show K s = codec_table_p0.dec (regsOf (codec_table_p0.slots s) r) K by kernel_rfl) h

def codec_table_p1 : Point (Addr) := { slots := fun s => [(0, (.pointer (some s)))], dec := fun r K => mPA (r 0) fun x => K x }
theorem codec_table_p1_ok : codec_table_p1.ok := by
  intro r K h
  unfold codec_table_p1 at h
  obtain ⟨x, e0, h⟩ := mPA_elim h
  exact ⟨x, regsOf_self (L := [(0, (.pointer (some x)))]) (List.forall_mem_cons.2 ⟨e0, List.forall_mem_nil _⟩), h⟩
theorem codec_table_p1_re (s : Addr) (r : Regs) (K : Addr → Prop) (h : K s) : codec_table_p1.dec (regsOf (codec_table_p1.slots s) r) K := by
  exact cast (show K s = codec_table_p1.dec (regsOf (codec_table_p1.slots s) r) K by kernel_rfl) h

def codec_table_p2 : Point (Addr × Int) := { slots := fun s => [(0, (.pointer (some s.1))), (4, (.int .i64 s.2))], dec := fun r K => mPA (r 0) fun x => mInt .i64 (r 4) fun x1 => K (x, x1) }
theorem codec_table_p2_ok : codec_table_p2.ok := by
  intro r K h
  unfold codec_table_p2 at h
  obtain ⟨x, e0, h⟩ := mPA_elim h
  obtain ⟨x1, e1, h⟩ := mInt_elim h
  exact ⟨(x, x1), regsOf_self (L := [(0, (.pointer (some x))), (4, (.int .i64 x1))]) (List.forall_mem_cons.2 ⟨e0, List.forall_mem_cons.2 ⟨e1, List.forall_mem_nil _⟩⟩), h⟩
theorem codec_table_p2_re (s : Addr × Int) (r : Regs) (K : (Addr × Int) → Prop) (h : K s) : codec_table_p2.dec (regsOf (codec_table_p2.slots s) r) K := by
  obtain ⟨x2, x3⟩ := s
  exact cast (show K (x2, x3) = codec_table_p2.dec (regsOf (codec_table_p2.slots (x2, x3)) r) K by kernel_rfl) h

def codec_table_p3 : Point (Addr × Int) := { slots := fun s => [(0, (.pointer (some s.1))), (4, (.int .i64 s.2))], dec := fun r K => mPA (r 0) fun x => mInt .i64 (r 4) fun x1 => K (x, x1) }
theorem codec_table_p3_ok : codec_table_p3.ok := by
  intro r K h
  unfold codec_table_p3 at h
  obtain ⟨x, e0, h⟩ := mPA_elim h
  obtain ⟨x1, e1, h⟩ := mInt_elim h
  exact ⟨(x, x1), regsOf_self (L := [(0, (.pointer (some x))), (4, (.int .i64 x1))]) (List.forall_mem_cons.2 ⟨e0, List.forall_mem_cons.2 ⟨e1, List.forall_mem_nil _⟩⟩), h⟩
theorem codec_table_p3_re (s : Addr × Int) (r : Regs) (K : (Addr × Int) → Prop) (h : K s) : codec_table_p3.dec (regsOf (codec_table_p3.slots s) r) K := by
  obtain ⟨x2, x3⟩ := s
  exact cast (show K (x2, x3) = codec_table_p3.dec (regsOf (codec_table_p3.slots (x2, x3)) r) K by kernel_rfl) h

def codec_table_p4 : Point (Addr × Int) := { slots := fun s => [(0, (.pointer (some s.1))), (4, (.int .i64 s.2))], dec := fun r K => mPA (r 0) fun x => mInt .i64 (r 4) fun x1 => K (x, x1) }
theorem codec_table_p4_ok : codec_table_p4.ok := by
  intro r K h
  unfold codec_table_p4 at h
  obtain ⟨x, e0, h⟩ := mPA_elim h
  obtain ⟨x1, e1, h⟩ := mInt_elim h
  exact ⟨(x, x1), regsOf_self (L := [(0, (.pointer (some x))), (4, (.int .i64 x1))]) (List.forall_mem_cons.2 ⟨e0, List.forall_mem_cons.2 ⟨e1, List.forall_mem_nil _⟩⟩), h⟩
theorem codec_table_p4_re (s : Addr × Int) (r : Regs) (K : (Addr × Int) → Prop) (h : K s) : codec_table_p4.dec (regsOf (codec_table_p4.slots s) r) K := by
  obtain ⟨x2, x3⟩ := s
  exact cast (show K (x2, x3) = codec_table_p4.dec (regsOf (codec_table_p4.slots (x2, x3)) r) K by kernel_rfl) h

def codec_table_p5 : Point (Addr × Int × Int × Int) := { slots := fun s => [(0, (.pointer (some s.1))), (1, (.int .i64 s.2.1)), (2, (.int .u32 s.2.2.1)), (4, (.int .i64 s.2.2.2))], dec := fun r K => mPA (r 0) fun x => mInt .i64 (r 1) fun x1 => mInt .u32 (r 2) fun x2 => mInt .i64 (r 4) fun x3 => K (x, x1, x2, x3) }
theorem codec_table_p5_ok : codec_table_p5.ok := by
  intro r K h
  unfold codec_table_p5 at h
  obtain ⟨x, e0, h⟩ := mPA_elim h
  obtain ⟨x1, e1, h⟩ := mInt_elim h
  obtain ⟨x2, e2, h⟩ := mInt_elim h
  obtain ⟨x3, e3, h⟩ := mInt_elim h
  exact ⟨(x, x1, x2, x3), regsOf_self (L := [(0, (.pointer (some x))), (1, (.int .i64 x1)), (2, (.int .u32 x2)), (4, (.int .i64 x3))]) (List.forall_mem_cons.2 ⟨e0, List.forall_mem_cons.2 ⟨e1, List.forall_mem_cons.2 ⟨e2, List.forall_mem_cons.2 ⟨e3, List.forall_mem_nil _⟩⟩⟩⟩), h⟩
theorem codec_table_p5_re (s : Addr × Int × Int × Int) (r : Regs) (K : (Addr × Int × Int × Int) → Prop) (h : K s) : codec_table_p5.dec (regsOf (codec_table_p5.slots s) r) K := by
  obtain ⟨x4, x5, x6, x7⟩ := s
  exact cast (show K (x4, x5, x6, x7) = codec_table_p5.dec (regsOf (codec_table_p5.slots (x4, x5, x6, x7)) r) K by kernel_rfl) h

def codec_table_p6 : Point (Addr × Int × Int × Int) := { slots := fun s => [(0, (.pointer (some s.1))), (1, (.int .i64 s.2.1)), (2, (.int .u32 s.2.2.1)), (4, (.int .i64 s.2.2.2))], dec := fun r K => mPA (r 0) fun x => mInt .i64 (r 1) fun x1 => mInt .u32 (r 2) fun x2 => mInt .i64 (r 4) fun x3 => K (x, x1, x2, x3) }
theorem codec_table_p6_ok : codec_table_p6.ok := by
  intro r K h
  unfold codec_table_p6 at h
  obtain ⟨x, e0, h⟩ := mPA_elim h
  obtain ⟨x1, e1, h⟩ := mInt_elim h
  obtain ⟨x2, e2, h⟩ := mInt_elim h
  obtain ⟨x3, e3, h⟩ := mInt_elim h
  exact ⟨(x, x1, x2, x3), regsOf_self (L := [(0, (.pointer (some x))), (1, (.int .i64 x1)), (2, (.int .u32 x2)), (4, (.int .i64 x3))]) (List.forall_mem_cons.2 ⟨e0, List.forall_mem_cons.2 ⟨e1, List.forall_mem_cons.2 ⟨e2, List.forall_mem_cons.2 ⟨e3, List.forall_mem_nil _⟩⟩⟩⟩), h⟩
theorem codec_table_p6_re (s : Addr × Int × Int × Int) (r : Regs) (K : (Addr × Int × Int × Int) → Prop) (h : K s) : codec_table_p6.dec (regsOf (codec_table_p6.slots s) r) K := by
  obtain ⟨x4, x5, x6, x7⟩ := s
  exact cast (show K (x4, x5, x6, x7) = codec_table_p6.dec (regsOf (codec_table_p6.slots (x4, x5, x6, x7)) r) K by kernel_rfl) h

def codec_table_p7 : Point (Addr × Int × Int × Int × Int) := { slots := fun s => [(0, (.pointer (some s.1))), (1, (.int .i64 s.2.1)), (2, (.int .u32 s.2.2.1)), (4, (.int .i64 s.2.2.2.1)), (9, (.int .i64 s.2.2.2.2))], dec := fun r K => mPA (r 0) fun x => mInt .i64 (r 1) fun x1 => mInt .u32 (r 2) fun x2 => mInt .i64 (r 4) fun x3 => mInt .i64 (r 9) fun x4 => K (x, x1, x2, x3, x4) }
theorem codec_table_p7_ok : codec_table_p7.ok := by
  intro r K h
  unfold codec_table_p7 at h
  obtain ⟨x, e0, h⟩ := mPA_elim h
  obtain ⟨x1, e1, h⟩ := mInt_elim h
  obtain ⟨x2, e2, h⟩ := mInt_elim h
  obtain ⟨x3, e3, h⟩ := mInt_elim h
  obtain ⟨x4, e4, h⟩ := mInt_elim h
  exact ⟨(x, x1, x2, x3, x4), regsOf_self (L := [(0, (.pointer (some x))), (1, (.int .i64 x1)), (2, (.int .u32 x2)), (4, (.int .i64 x3)), (9, (.int .i64 x4))]) (List.forall_mem_cons.2 ⟨e0, List.forall_mem_cons.2 ⟨e1, List.forall_mem_cons.2 ⟨e2, List.forall_mem_cons.2 ⟨e3, List.forall_mem_cons.2 ⟨e4, List.forall_mem_nil _⟩⟩⟩⟩⟩), h⟩
theorem codec_table_p7_re (s : Addr × Int × Int × Int × Int) (r : Regs) (K : (Addr × Int × Int × Int × Int) → Prop) (h : K s) : codec_table_p7.dec (regsOf (codec_table_p7.slots s) r) K := by
  obtain ⟨x5, x6, x7, x8, x9⟩ := s
  exact cast (show K (x5, x6, x7, x8, x9) = codec_table_p7.dec (regsOf (codec_table_p7.slots (x5, x6, x7, x8, x9)) r) K by kernel_rfl) h

set_option maxRecDepth 100000 in
theorem codec_table_sound (R : Value → World → Prop) (w : World) (h : codec_table_b10 R w) :
    CallR Tryd.prog fn_codec_table #[] w R := by
  refine CallR_intro (args := []) Tryd.func98 rfl (Nat.le_of_ble_eq_true (by kernel_rfl)) ?_
  refine Wp_glue codec_table_p0 (fun s w => codec_table_b9 s R w) [_] (Q0 := fun e _ r w => match e with | .normal => codec_table_p0.dec r (fun s => codec_table_b9 s R w) | .exit _ => False | .ret => retQ Tryd.prog Tryd.f98.results R .ret [] r w | _ => False) h (by kernel_rfl) (fun s r w h => ?_) codec_table_p0_ok (fun _ _ _ h => h) ?_
  · obtain ⟨t1, rfl⟩ : ∃ y, y = s := ⟨s, rfl⟩
    have h : codec_table_b9 t1 R w := h
    refine Wp_seq_via codec_table_p1 (fun s w => codec_table_b6 s R w) (fun s r w h => ?_) (fun hN1 => ?_)
    · obtain ⟨t12, rfl⟩ : ∃ y, y = s := ⟨s, rfl⟩
      have h : codec_table_b6 t12 R w := h
      refine Wp_leaf_end (Q0 := fun e _ r w => match e with | .normal => retQ Tryd.prog Tryd.f98.results R .normal [] r w | .exit _ => False | .ret => retQ Tryd.prog Tryd.f98.results R .ret [] r w | _ => False) h (by kernel_rfl) ?_
      intro e _ r w h
      cases e with
      | normal => exact h
      | exit i => exact h.elim
      | ret => exact h
      | goto i => exact h.elim
      | panic c => exact h.elim
      | outgrown => exact h.elim
    · refine Wp_glue codec_table_p2 (fun s w => codec_table_b8 s.1 s.2 R w) [_] (Q0 := fun e _ r w => match e with | .normal => codec_table_p2.dec r (fun s => codec_table_b8 s.1 s.2 R w) | .exit _ => False | .ret => retQ Tryd.prog Tryd.f98.results R .ret [] r w | _ => False) h (by kernel_rfl) (fun s r w h => ?_) codec_table_p2_ok (fun _ _ _ h => h) ?_
      · obtain ⟨t2, t4⟩ := s
        have h : codec_table_b8 t2 t4 R w := h
        refine Wp_block_via codec_table_p1 (fun s w => codec_table_b6 s R w) hN1 (fun hX2 => ?_)
        refine Wp_loop (p := codec_table_p2) codec_table_p2_ok (fun s r w K0 h => ?_) h
        obtain ⟨t3, t41⟩ := s
        have h : codec_table_b7 t3 t41 K0 R w := h
        have hK3 := fun (s : Addr × Int) (r : Regs) (w : World) (h : K0 s w) => codec_table_p2_re s r (fun s => K0 s w) h
        refine Wp_glue codec_table_p3 (fun s w => codec_table_b5 s.1 s.2 K0 w) [_, _] (Q0 := fun e _ r w => match e with | .normal => codec_table_p3.dec r (fun s => codec_table_b5 s.1 s.2 K0 w) | .exit i => exitQ i 0 (codec_table_p1.dec r (fun s => codec_table_b6 s R w)) (False) | .ret => retQ Tryd.prog Tryd.f98.results R .ret [] r w | _ => False) h (by kernel_rfl) (fun s r w h => ?_) codec_table_p3_ok (fun _ _ _ h => h) ?_
        · obtain ⟨t5, t42⟩ := s
          have h : codec_table_b5 t5 t42 K0 w := h
          refine Wp_seq_via codec_table_p4 (fun s w => codec_table_b0 s.1 s.2 K0 w) (fun s r w h => ?_) (fun hN4 => ?_)
          · obtain ⟨t11, t47⟩ := s
            have h : codec_table_b0 t11 t47 K0 w := h
            refine Wp_leaf_end (Q0 := fun e _ r w => match e with | .normal => codec_table_p2.dec r (fun s => K0 s w) | .exit i => exitQ i 0 (codec_table_p1.dec r (fun s => codec_table_b6 s R w)) (False) | .ret => retQ Tryd.prog Tryd.f98.results R .ret [] r w | _ => False) h (by kernel_rfl) ?_
            intro e _ r w h
            cases e with
            | normal =>
              obtain ⟨s, hs, h⟩ := codec_table_p2_ok _ _ h
              rw [← hs]
              exact hK3 s r w h
            | exit i =>
              rcases exitQ_elim h with ⟨rfl, h⟩ | ⟨_, h⟩
              · obtain ⟨s, hs, h⟩ := codec_table_p1_ok _ _ h
                rw [← hs]
                exact hX2 s r w h
              exact h.elim
            | ret => exact h
            | goto i => exact h.elim
            | panic c => exact h.elim
            | outgrown => exact h.elim
          · refine Wp_block_via codec_table_p4 (fun s w => codec_table_b0 s.1 s.2 K0 w) hN4 (fun hX5 => ?_)
            refine Wp_glue codec_table_p5 (fun s w => codec_table_b4 s.1 s.2.1 s.2.2.1 s.2.2.2 K0 w) [_, _] (Q0 := fun e _ r w => match e with | .normal => codec_table_p5.dec r (fun s => codec_table_b4 s.1 s.2.1 s.2.2.1 s.2.2.2 K0 w) | .exit i => exitQ i 0 (codec_table_p1.dec r (fun s => codec_table_b6 s R w)) (exitQ i 1 (codec_table_p4.dec r (fun s => codec_table_b0 s.1 s.2 K0 w)) (False)) | .ret => retQ Tryd.prog Tryd.f98.results R .ret [] r w | _ => False) h (by kernel_rfl) (fun s r w h => ?_) codec_table_p5_ok (fun _ _ _ h => h) ?_
            · obtain ⟨t6, i, c, t43⟩ := s
              have h : codec_table_b4 t6 i c t43 K0 w := h
              refine Wp_seq_via codec_table_p6 (fun s w => codec_table_b1 s.1 s.2.1 s.2.2.1 s.2.2.2 K0 w) (fun s r w h => ?_) (fun hN6 => ?_)
              · obtain ⟨t10, i3, c3, t46⟩ := s
                have h : codec_table_b1 t10 i3 c3 t46 K0 w := h
                refine Wp_leaf_end (Q0 := fun e _ r w => match e with | .normal => codec_table_p4.dec r (fun s => codec_table_b0 s.1 s.2 K0 w) | .exit i => exitQ i 0 (codec_table_p1.dec r (fun s => codec_table_b6 s R w)) (exitQ i 1 (codec_table_p4.dec r (fun s => codec_table_b0 s.1 s.2 K0 w)) (False)) | .ret => retQ Tryd.prog Tryd.f98.results R .ret [] r w | _ => False) h (by kernel_rfl) ?_
                intro e _ r w h
                cases e with
                | normal =>
                  obtain ⟨s, hs, h⟩ := codec_table_p4_ok _ _ h
                  rw [← hs]
                  exact hN4 s r w h
                | exit i =>
                  rcases exitQ_elim h with ⟨rfl, h⟩ | ⟨_, h⟩
                  · obtain ⟨s, hs, h⟩ := codec_table_p1_ok _ _ h
                    rw [← hs]
                    exact (fun s r w h => blockQ_other (id := 1) (j := 0) (by decide) (hX2 s r w h)) s r w h
                  rcases exitQ_elim h with ⟨rfl, h⟩ | ⟨_, h⟩
                  · obtain ⟨s, hs, h⟩ := codec_table_p4_ok _ _ h
                    rw [← hs]
                    exact hX5 s r w h
                  exact h.elim
                | ret => exact h
                | goto i => exact h.elim
                | panic c => exact h.elim
                | outgrown => exact h.elim
              · refine Wp_glue codec_table_p7 (fun s w => codec_table_b3 s.1 s.2.1 s.2.2.1 s.2.2.2.1 s.2.2.2.2 K0 w) [_] (Q0 := fun e _ r w => match e with | .normal => codec_table_p7.dec r (fun s => codec_table_b3 s.1 s.2.1 s.2.2.1 s.2.2.2.1 s.2.2.2.2 K0 w) | .exit i => exitQ i 0 (codec_table_p1.dec r (fun s => codec_table_b6 s R w)) (exitQ i 1 (codec_table_p4.dec r (fun s => codec_table_b0 s.1 s.2 K0 w)) (False)) | .ret => retQ Tryd.prog Tryd.f98.results R .ret [] r w | _ => False) h (by kernel_rfl) (fun s r w h => ?_) codec_table_p7_ok (fun _ _ _ h => h) ?_
                · obtain ⟨t7, i1, c1, t44, t9⟩ := s
                  have h : codec_table_b3 t7 i1 c1 t44 t9 K0 w := h
                  refine Wp_block_via codec_table_p6 (fun s w => codec_table_b1 s.1 s.2.1 s.2.2.1 s.2.2.2 K0 w) hN6 (fun hX7 => ?_)
                  refine Wp_loop (p := codec_table_p7) codec_table_p7_ok (fun s r w K1 h => ?_) h
                  obtain ⟨t8, i2, c2, t45, t91⟩ := s
                  have h : codec_table_b2 t8 i2 c2 t45 t91 K0 K1 w := h
                  have hK8 := fun (s : Addr × Int × Int × Int × Int) (r : Regs) (w : World) (h : K1 s w) => codec_table_p7_re s r (fun s => K1 s w) h
                  refine Wp_leaf_end (Q0 := fun e _ r w => match e with | .normal => codec_table_p7.dec r (fun s => K1 s w) | .exit i => exitQ i 0 (codec_table_p1.dec r (fun s => codec_table_b6 s R w)) (exitQ i 1 (codec_table_p4.dec r (fun s => codec_table_b0 s.1 s.2 K0 w)) (exitQ i 2 (codec_table_p6.dec r (fun s => codec_table_b1 s.1 s.2.1 s.2.2.1 s.2.2.2 K0 w)) (False))) | .ret => retQ Tryd.prog Tryd.f98.results R .ret [] r w | _ => False) h (by kernel_rfl) ?_
                  intro e _ r w h
                  cases e with
                  | normal =>
                    obtain ⟨s, hs, h⟩ := codec_table_p7_ok _ _ h
                    rw [← hs]
                    exact hK8 s r w h
                  | exit i =>
                    rcases exitQ_elim h with ⟨rfl, h⟩ | ⟨_, h⟩
                    · obtain ⟨s, hs, h⟩ := codec_table_p1_ok _ _ h
                      rw [← hs]
                      exact (fun s r w h => blockQ_other (id := 2) (j := 0) (by decide) ((fun s r w h => blockQ_other (id := 1) (j := 0) (by decide) (hX2 s r w h)) s r w h)) s r w h
                    rcases exitQ_elim h with ⟨rfl, h⟩ | ⟨_, h⟩
                    · obtain ⟨s, hs, h⟩ := codec_table_p4_ok _ _ h
                      rw [← hs]
                      exact (fun s r w h => blockQ_other (id := 2) (j := 1) (by decide) (hX5 s r w h)) s r w h
                    rcases exitQ_elim h with ⟨rfl, h⟩ | ⟨_, h⟩
                    · obtain ⟨s, hs, h⟩ := codec_table_p6_ok _ _ h
                      rw [← hs]
                      exact hX7 s r w h
                    exact h.elim
                  | ret => exact h
                  | goto i => exact h.elim
                  | panic c => exact h.elim
                  | outgrown => exact h.elim
                · intro e _ r w hne h
                  cases e with
                  | normal => exact absurd rfl hne
                  | exit i =>
                    rcases exitQ_elim h with ⟨rfl, h⟩ | ⟨_, h⟩
                    · obtain ⟨s, hs, h⟩ := codec_table_p1_ok _ _ h
                      rw [← hs]
                      exact (fun s r w h => blockQ_other (id := 1) (j := 0) (by decide) (hX2 s r w h)) s r w h
                    rcases exitQ_elim h with ⟨rfl, h⟩ | ⟨_, h⟩
                    · obtain ⟨s, hs, h⟩ := codec_table_p4_ok _ _ h
                      rw [← hs]
                      exact hX5 s r w h
                    exact h.elim
                  | ret => exact h
                  | goto i => exact h.elim
                  | panic c => exact h.elim
                  | outgrown => exact h.elim
            · intro e _ r w hne h
              cases e with
              | normal => exact absurd rfl hne
              | exit i =>
                rcases exitQ_elim h with ⟨rfl, h⟩ | ⟨_, h⟩
                · obtain ⟨s, hs, h⟩ := codec_table_p1_ok _ _ h
                  rw [← hs]
                  exact (fun s r w h => blockQ_other (id := 1) (j := 0) (by decide) (hX2 s r w h)) s r w h
                rcases exitQ_elim h with ⟨rfl, h⟩ | ⟨_, h⟩
                · obtain ⟨s, hs, h⟩ := codec_table_p4_ok _ _ h
                  rw [← hs]
                  exact hX5 s r w h
                exact h.elim
              | ret => exact h
              | goto i => exact h.elim
              | panic c => exact h.elim
              | outgrown => exact h.elim
        · intro e _ r w hne h
          cases e with
          | normal => exact absurd rfl hne
          | exit i =>
            rcases exitQ_elim h with ⟨rfl, h⟩ | ⟨_, h⟩
            · obtain ⟨s, hs, h⟩ := codec_table_p1_ok _ _ h
              rw [← hs]
              exact hX2 s r w h
            exact h.elim
          | ret => exact h
          | goto i => exact h.elim
          | panic c => exact h.elim
          | outgrown => exact h.elim
      · intro e _ r w hne h
        cases e with
        | normal => exact absurd rfl hne
        | exit i => exact h.elim
        | ret => exact h
        | goto i => exact h.elim
        | panic c => exact h.elim
        | outgrown => exact h.elim
  · intro e _ r w hne h
    cases e with
    | normal => exact absurd rfl hne
    | exit i => exact h.elim
    | ret => exact h
    | goto i => exact h.elim
    | panic c => exact h.elim
    | outgrown => exact h.elim

/- glacier/codec.Sum -/
def codec_Sum_b0 (t7 : Addr) (c6 : Int) (t105 : Option Addr) (t10_n5 : Nat) (t10_c5 : Nat) (t115 : Int) (t125 : Int) (K0 : (Addr × Int × (Option Addr) × Nat × Nat × Int × Int) → World → Prop) (w : World) : Prop :=
  K0 (t7, c6, t105, t10_n5, t10_c5, t115, IntKind.wrap .i64 (t125 + 1)) w

def codec_Sum_b1 (t6 : Addr) (c5 : Int) (t104 : Option Addr) (t10_n4 : Nat) (t10_c4 : Nat) (t114 : Int) (t124 : Int) (t161 : Option Addr) (t16_n1 : Nat) (t16_c1 : Nat) (t171 : Int) (t181 : Int) (K0 : (Addr × Int × (Option Addr) × Nat × Nat × Int × Int) → World → Prop) (K1 : (Addr × Int × (Option Addr) × Nat × Nat × Int × Int × (Option Addr) × Nat × Nat × Int × Int) → World → Prop) (w : World) : Prop :=
  Br (decide (t181 < t171)) (
  IX t161 t16_n1 t181 1 fun a1 =>
  LDI .u8 w a1 fun v1 =>
  Req (0 ≤ (4 : Int)) (
  Req (0 ≤ (bAnd .u32 (bXor .u32 c5 (IntKind.wrap .u32 v1)) 15) ∧ (bAnd .u32 (bXor .u32 c5 (IntKind.wrap .u32 v1)) 15) < (16 : Int)) (
  LDI .u32 w (Addr.add t6 (Int.toNat (bAnd .u32 (bXor .u32 c5 (IntKind.wrap .u32 v1)) 15) * 1)) fun v2 =>
  Req (0 ≤ (4 : Int)) (
  Req (0 ≤ (bAnd .u32 (bXor .u32 (Int.fdiv (bXor .u32 c5 (IntKind.wrap .u32 v1)) (2 ^ (min (Int.toNat 4) (IntKind.bits .u32)))) v2) 15) ∧ (bAnd .u32 (bXor .u32 (Int.fdiv (bXor .u32 c5 (IntKind.wrap .u32 v1)) (2 ^ (min (Int.toNat 4) (IntKind.bits .u32)))) v2) 15) < (16 : Int)) (
  LDI .u32 w (Addr.add t6 (Int.toNat (bAnd .u32 (bXor .u32 (Int.fdiv (bXor .u32 c5 (IntKind.wrap .u32 v1)) (2 ^ (min (Int.toNat 4) (IntKind.bits .u32)))) v2) 15) * 1)) fun v3 =>
  K1 (t6, bXor .u32 (Int.fdiv (bXor .u32 (Int.fdiv (bXor .u32 c5 (IntKind.wrap .u32 v1)) (2 ^ (min (Int.toNat 4) (IntKind.bits .u32)))) v2) (2 ^ (min (Int.toNat 4) (IntKind.bits .u32)))) v3, t104, t10_n4, t10_c4, t114, t124, t161, t16_n1, t16_c1, t171, IntKind.wrap .i64 (t181 + 1)) w))))) (
  codec_Sum_b0 t6 c5 t104 t10_n4 t10_c4 t114 t124 K0 w)

def codec_Sum_b2 (t5 : Addr) (c4 : Int) (t103 : Option Addr) (t10_n3 : Nat) (t10_c3 : Nat) (t113 : Int) (t123 : Int) (t16 : Option Addr) (t16_n : Nat) (t16_c : Nat) (t17 : Int) (t18 : Int) (K0 : (Addr × Int × (Option Addr) × Nat × Nat × Int × Int) → World → Prop) (w : World) : Prop :=
  LoopS (σ := Addr × Int × (Option Addr) × Nat × Nat × Int × Int × (Option Addr) × Nat × Nat × Int × Int) (fun s w K1 =>
  codec_Sum_b1 s.1 s.2.1 s.2.2.1 s.2.2.2.1 s.2.2.2.2.1 s.2.2.2.2.2.1 s.2.2.2.2.2.2.1 s.2.2.2.2.2.2.2.1 s.2.2.2.2.2.2.2.2.1 s.2.2.2.2.2.2.2.2.2.1 s.2.2.2.2.2.2.2.2.2.2.1 s.2.2.2.2.2.2.2.2.2.2.2 K0 K1 w) (t5, c4, t103, t10_n3, t10_c3, t113, t123, t16, t16_n, t16_c, t17, t18) w

def codec_Sum_b3 (t4 : Addr) (c3 : Int) (t102 : Option Addr) (t10_n2 : Nat) (t10_c2 : Nat) (t112 : Int) (t122 : Int) (K0 : (Addr × Int × (Option Addr) × Nat × Nat × Int × Int) → World → Prop) (w : World) : Prop :=
  IX t102 t10_n2 t122 1 fun a =>
  LDSl w a fun v v_n v_c =>
  codec_Sum_b2 t4 c3 t102 t10_n2 t10_c2 t112 t122 v v_n v_c (v_n : Int) 0 K0 w

def codec_Sum_b4 (c7 : Int) (R : Value → World → Prop) (w : World) : Prop :=
  R (.int .u32 (bXor .u32 4294967295 c7)) w

def codec_Sum_b5 (t3 : Addr) (c2 : Int) (t101 : Option Addr) (t10_n1 : Nat) (t10_c1 : Nat) (t111 : Int) (t121 : Int) (K0 : (Addr × Int × (Option Addr) × Nat × Nat × Int × Int) → World → Prop) (R : Value → World → Prop) (w : World) : Prop :=
  Br (decide (t121 < t111)) (
  codec_Sum_b3 t3 c2 t101 t10_n1 t10_c1 t111 t121 K0 w) (
  codec_Sum_b4 c2 R w)

def codec_Sum_b6 (t2 : Addr) (c1 : Int) (t10 : Option Addr) (t10_n : Nat) (t10_c : Nat) (t11 : Int) (t12 : Int) (R : Value → World → Prop) (w : World) : Prop :=
  LoopS (σ := Addr × Int × (Option Addr) × Nat × Nat × Int × Int) (fun s w K0 =>
  codec_Sum_b5 s.1 s.2.1 s.2.2.1 s.2.2.2.1 s.2.2.2.2.1 s.2.2.2.2.2.1 s.2.2.2.2.2.2 K0 R w) (t2, c1, t10, t10_n, t10_c, t11, t12) w

def codec_Sum_b7 (parts1 : Option Addr) (parts_n1 : Nat) (parts_c1 : Nat) (t1 : Addr) (c : Int) (R : Value → World → Prop) (w : World) : Prop :=
  codec_Sum_b6 t1 c parts1 parts_n1 parts_c1 (parts_n1 : Int) 0 R w

def codec_Sum_b8 (parts : Option Addr) (parts_n : Nat) (parts_c : Nat) (R : Value → World → Prop) (w : World) : Prop :=
  CallR Tryd.prog fn_codec_table #[] w fun res w_ =>
  AL w_ (.cells #[(.int .u32 0), (.int .u32 0), (.int .u32 0), (.int .u32 0), (.int .u32 0), (.int .u32 0), (.int .u32 0), (.int .u32 0), (.int .u32 0), (.int .u32 0), (.int .u32 0), (.int .u32 0), (.int .u32 0), (.int .u32 0), (.int .u32 0), (.int .u32 0)] 141) fun t w_1 =>
  stVar Tryd.prog 141 t res w_1 fun w_2 =>
  codec_Sum_b7 parts parts_n parts_c t 4294967295 R w_2

def codec_Sum_p0 : Point ((Option Addr) × Nat × Nat × Addr × Int) := { slots := fun s => [(0, (.slice s.1 s.2.1 s.2.2.1)), (3, (.pointer (some s.2.2.2.1))), (4, (.int .u32 s.2.2.2.2))], dec := fun r K => mSlice (r 0) fun x x1 x2 => mPA (r 3) fun x3 => mInt .u32 (r 4) fun x4 => K (x, x1, x2, x3, x4) }
theorem codec_Sum_p0_ok : codec_Sum_p0.ok := by
  intro r K h
  unfold codec_Sum_p0 at h
  obtain ⟨x, x1, x2, e0, h⟩ := mSlice_elim h
  obtain ⟨x3, e1, h⟩ := mPA_elim h
  obtain ⟨x4, e2, h⟩ := mInt_elim h
  exact ⟨(x, x1, x2, x3, x4), regsOf_self (L := [(0, (.slice x x1 x2)), (3, (.pointer (some x3))), (4, (.int .u32 x4))]) (List.forall_mem_cons.2 ⟨e0, List.forall_mem_cons.2 ⟨e1, List.forall_mem_cons.2 ⟨e2, List.forall_mem_nil _⟩⟩⟩), h⟩
theorem codec_Sum_p0_re (s : (Option Addr) × Nat × Nat × Addr × Int) (r : Regs) (K : ((Option Addr) × Nat × Nat × Addr × Int) → Prop) (h : K s) : codec_Sum_p0.dec (regsOf (codec_Sum_p0.slots s) r) K := by
  obtain ⟨x5, x6, x7, x8, x9⟩ := s
  exact cast (show K (x5, x6, x7, x8, x9) = codec_Sum_p0.dec (regsOf (codec_Sum_p0.slots (x5, x6, x7, x8, x9)) r) K by kernel_rfl) h

def codec_Sum_p1 : Point (Int) := { slots := fun s => [(4, (.int .u32 s))], dec := fun r K => mInt .u32 (r 4) fun x => K x }
theorem codec_Sum_p1_ok : codec_Sum_p1.ok := by
  intro r K h
  unfold codec_Sum_p1 at h
  obtain ⟨x, e0, h⟩ := mInt_elim h
  exact ⟨x, regsOf_self (L := [(4, (.int .u32 x))]) (List.forall_mem_cons.2 ⟨e0, List.forall_mem_nil _⟩), h⟩
theorem codec_Sum_p1_re (s : Int) (r : Regs) (K : Int → Prop) (h : K s) : codec_Sum_p1.dec (regsOf (codec_Sum_p1.slots s) r) K := by
  exact cast (show K s = codec_Sum_p1.dec (regsOf (codec_Sum_p1.slots s) r) K by kernel_rfl) h

def codec_Sum_p2 : Point (Addr × Int × (Option Addr) × Nat × Nat × Int × Int) := { slots := fun s => [(3, (.pointer (some s.1))), (4, (.int .u32 s.2.1)), (10, (.slice s.2.2.1 s.2.2.2.1 s.2.2.2.2.1)), (11, (.int .i64 s.2.2.2.2.2.1)), (12, (.int .i64 s.2.2.2.2.2.2))], dec := fun r K => mPA (r 3) fun x => mInt .u32 (r 4) fun x1 => mSlice (r 10) fun x2 x3 x4 => mInt .i64 (r 11) fun x5 => mInt .i64 (r 12) fun x6 => K (x, x1, x2, x3, x4, x5, x6) }
theorem codec_Sum_p2_ok : codec_Sum_p2.ok := by
  intro r K h
  unfold codec_Sum_p2 at h
  obtain ⟨x, e0, h⟩ := mPA_elim h
  obtain ⟨x1, e1, h⟩ := mInt_elim h
  obtain ⟨x2, x3, x4, e2, h⟩ := mSlice_elim h
  obtain ⟨x5, e3, h⟩ := mInt_elim h
  obtain ⟨x6, e4, h⟩ := mInt_elim h
  exact ⟨(x, x1, x2, x3, x4, x5, x6), regsOf_self (L := [(3, (.pointer (some x))), (4, (.int .u32 x1)), (10, (.slice x2 x3 x4)), (11, (.int .i64 x5)), (12, (.int .i64 x6))]) (List.forall_mem_cons.2 ⟨e0, List.forall_mem_cons.2 ⟨e1, List.forall_mem_cons.2 ⟨e2, List.forall_mem_cons.2 ⟨e3, List.forall_mem_cons.2 ⟨e4, List.forall_mem_nil _⟩⟩⟩⟩⟩), h⟩
theorem codec_Sum_p2_re (s : Addr × Int × (Option Addr) × Nat × Nat × Int × Int) (r : Regs) (K : (Addr × Int × (Option Addr) × Nat × Nat × Int × Int) → Prop) (h : K s) : codec_Sum_p2.dec (regsOf (codec_Sum_p2.slots s) r) K := by
  obtain ⟨x7, x8, x9, x10, x11, x12, x13⟩ := s
  exact cast (show K (x7, x8, x9, x10, x11, x12, x13) = codec_Sum_p2.dec (regsOf (codec_Sum_p2.slots (x7, x8, x9, x10, x11, x12, x13)) r) K by kernel_rfl) h

def codec_Sum_p3 : Point (Addr × Int × (Option Addr) × Nat × Nat × Int × Int) := { slots := fun s => [(3, (.pointer (some s.1))), (4, (.int .u32 s.2.1)), (10, (.slice s.2.2.1 s.2.2.2.1 s.2.2.2.2.1)), (11, (.int .i64 s.2.2.2.2.2.1)), (12, (.int .i64 s.2.2.2.2.2.2))], dec := fun r K => mPA (r 3) fun x => mInt .u32 (r 4) fun x1 => mSlice (r 10) fun x2 x3 x4 => mInt .i64 (r 11) fun x5 => mInt .i64 (r 12) fun x6 => K (x, x1, x2, x3, x4, x5, x6) }
theorem codec_Sum_p3_ok : codec_Sum_p3.ok := by
  intro r K h
  unfold codec_Sum_p3 at h
  obtain ⟨x, e0, h⟩ := mPA_elim h
  obtain ⟨x1, e1, h⟩ := mInt_elim h
  obtain ⟨x2, x3, x4, e2, h⟩ := mSlice_elim h
  obtain ⟨x5, e3, h⟩ := mInt_elim h
  obtain ⟨x6, e4, h⟩ := mInt_elim h
  exact ⟨(x, x1, x2, x3, x4, x5, x6), regsOf_self (L := [(3, (.pointer (some x))), (4, (.int .u32 x1)), (10, (.slice x2 x3 x4)), (11, (.int .i64 x5)), (12, (.int .i64 x6))]) (List.forall_mem_cons.2 ⟨e0, List.forall_mem_cons.2 ⟨e1, List.forall_mem_cons.2 ⟨e2, List.forall_mem_cons.2 ⟨e3, List.forall_mem_cons.2 ⟨e4, List.forall_mem_nil _⟩⟩⟩⟩⟩), h⟩
theorem codec_Sum_p3_re (s : Addr × Int × (Option Addr) × Nat × Nat × Int × Int) (r : Regs) (K : (Addr × Int × (Option Addr) × Nat × Nat × Int × Int) → Prop) (h : K s) : codec_Sum_p3.dec (regsOf (codec_Sum_p3.slots s) r) K := by
  obtain ⟨x7, x8, x9, x10, x11, x12, x13⟩ := s
  exact cast (show K (x7, x8, x9, x10, x11, x12, x13) = codec_Sum_p3.dec (regsOf (codec_Sum_p3.slots (x7, x8, x9, x10, x11, x12, x13)) r) K by kernel_rfl) h

def codec_Sum_p4 : Point (Addr × Int × (Option Addr) × Nat × Nat × Int × Int) := { slots := fun s => [(3, (.pointer (some s.1))), (4, (.int .u32 s.2.1)), (10, (.slice s.2.2.1 s.2.2.2.1 s.2.2.2.2.1)), (11, (.int .i64 s.2.2.2.2.2.1)), (12, (.int .i64 s.2.2.2.2.2.2))], dec := fun r K => mPA (r 3) fun x => mInt .u32 (r 4) fun x1 => mSlice (r 10) fun x2 x3 x4 => mInt .i64 (r 11) fun x5 => mInt .i64 (r 12) fun x6 => K (x, x1, x2, x3, x4, x5, x6) }
theorem codec_Sum_p4_ok : codec_Sum_p4.ok := by
  intro r K h
  unfold codec_Sum_p4 at h
  obtain ⟨x, e0, h⟩ := mPA_elim h
  obtain ⟨x1, e1, h⟩ := mInt_elim h
  obtain ⟨x2, x3, x4, e2, h⟩ := mSlice_elim h
  obtain ⟨x5, e3, h⟩ := mInt_elim h
  obtain ⟨x6, e4, h⟩ := mInt_elim h
  exact ⟨(x, x1, x2, x3, x4, x5, x6), regsOf_self (L := [(3, (.pointer (some x))), (4, (.int .u32 x1)), (10, (.slice x2 x3 x4)), (11, (.int .i64 x5)), (12, (.int .i64 x6))]) (List.forall_mem_cons.2 ⟨e0, List.forall_mem_cons.2 ⟨e1, List.forall_mem_cons.2 ⟨e2, List.forall_mem_cons.2 ⟨e3, List.forall_mem_cons.2 ⟨e4, List.forall_mem_nil _⟩⟩⟩⟩⟩), h⟩
theorem codec_Sum_p4_re (s : Addr × Int × (Option Addr) × Nat × Nat × Int × Int) (r : Regs) (K : (Addr × Int × (Option Addr) × Nat × Nat × Int × Int) → Prop) (h : K s) : codec_Sum_p4.dec (regsOf (codec_Sum_p4.slots s) r) K := by
  obtain ⟨x7, x8, x9, x10, x11, x12, x13⟩ := s
  exact cast (show K (x7, x8, x9, x10, x11, x12, x13) = codec_Sum_p4.dec (regsOf (codec_Sum_p4.slots (x7, x8, x9, x10, x11, x12, x13)) r) K by kernel_rfl) h

def codec_Sum_p5 : Point (Addr × Int × (Option Addr) × Nat × Nat × Int × Int × (Option Addr) × Nat × Nat × Int × Int) := { slots := fun s => [(3, (.pointer (some s.1))), (4, (.int .u32 s.2.1)), (10, (.slice s.2.2.1 s.2.2.2.1 s.2.2.2.2.1)), (11, (.int .i64 s.2.2.2.2.2.1)), (12, (.int .i64 s.2.2.2.2.2.2.1)), (16, (.slice s.2.2.2.2.2.2.2.1 s.2.2.2.2.2.2.2.2.1 s.2.2.2.2.2.2.2.2.2.1)), (17, (.int .i64 s.2.2.2.2.2.2.2.2.2.2.1)), (18, (.int .i64 s.2.2.2.2.2.2.2.2.2.2.2))], dec := fun r K => mPA (r 3) fun x => mInt .u32 (r 4) fun x1 => mSlice (r 10) fun x2 x3 x4 => mInt .i64 (r 11) fun x5 => mInt .i64 (r 12) fun x6 => mSlice (r 16) fun x7 x8 x9 => mInt .i64 (r 17) fun x10 => mInt .i64 (r 18) fun x11 => K (x, x1, x2, x3, x4, x5, x6, x7, x8, x9, x10, x11) }
theorem codec_Sum_p5_ok : codec_Sum_p5.ok := by
  intro r K h
  unfold codec_Sum_p5 at h
  obtain ⟨x, e0, h⟩ := mPA_elim h
  obtain ⟨x1, e1, h⟩ := mInt_elim h
  obtain ⟨x2, x3, x4, e2, h⟩ := mSlice_elim h
  obtain ⟨x5, e3, h⟩ := mInt_elim h
  obtain ⟨x6, e4, h⟩ := mInt_elim h
  obtain ⟨x7, x8, x9, e5, h⟩ := mSlice_elim h
  obtain ⟨x10, e6, h⟩ := mInt_elim h
  obtain ⟨x11, e7, h⟩ := mInt_elim h
  exact ⟨(x, x1, x2, x3, x4, x5, x6, x7, x8, x9, x10, x11), regsOf_self (L := [(3, (.pointer (some x))), (4, (.int .u32 x1)), (10, (.slice x2 x3 x4)), (11, (.int .i64 x5)), (12, (.int .i64 x6)), (16, (.slice x7 x8 x9)), (17, (.int .i64 x10)), (18, (.int .i64 x11))]) (List.forall_mem_cons.2 ⟨e0, List.forall_mem_cons.2 ⟨e1, List.forall_mem_cons.2 ⟨e2, List.forall_mem_cons.2 ⟨e3, List.forall_mem_cons.2 ⟨e4, List.forall_mem_cons.2 ⟨e5, List.forall_mem_cons.2 ⟨e6, List.forall_mem_cons.2 ⟨e7, List.forall_mem_nil _⟩⟩⟩⟩⟩⟩⟩⟩), h⟩
theorem codec_Sum_p5_re (s : Addr × Int × (Option Addr) × Nat × Nat × Int × Int × (Option Addr) × Nat × Nat × Int × Int) (r : Regs) (K : (Addr × Int × (Option Addr) × Nat × Nat × Int × Int × (Option Addr) × Nat × Nat × Int × Int) → Prop) (h : K s) : codec_Sum_p5.dec (regsOf (codec_Sum_p5.slots s) r) K := by
  obtain ⟨x12, x13, x14, x15, x16, x17, x18, x19, x20, x21, x22, x23⟩ := s
  exact cast (show K (x12, x13, x14, x15, x16, x17, x18, x19, x20, x21, x22, x23) = codec_Sum_p5.dec (regsOf (codec_Sum_p5.slots (x12, x13, x14, x15, x16, x17, x18, x19, x20, x21, x22, x23)) r) K by kernel_rfl) h

set_option maxRecDepth 100000 in
theorem codec_Sum_sound (parts : Option Addr) (parts_n : Nat) (parts_c : Nat) (R : Value → World → Prop) (w : World) (h : codec_Sum_b8 parts parts_n parts_c R w) :
    CallR Tryd.prog fn_codec_Sum #[(.slice parts parts_n parts_c)] w R := by
  refine CallR_intro (args := [(.slice parts parts_n parts_c)]) Tryd.func78 rfl (Nat.le_of_ble_eq_true (by kernel_rfl)) ?_
  refine Wp_glue codec_Sum_p0 (fun s w => codec_Sum_b7 s.1 s.2.1 s.2.2.1 s.2.2.2.1 s.2.2.2.2 R w) [_, _, _] (Q0 := fun e _ r w => match e with | .normal => codec_Sum_p0.dec r (fun s => codec_Sum_b7 s.1 s.2.1 s.2.2.1 s.2.2.2.1 s.2.2.2.2 R w) | .exit _ => False | .ret => retQ Tryd.prog Tryd.f78.results R .ret [] r w | _ => False) h (by kernel_rfl) (fun s r w h => ?_) codec_Sum_p0_ok (fun _ _ _ h => h) ?_
  · obtain ⟨parts1, parts_n1, parts_c1, t1, c⟩ := s
    have h : codec_Sum_b7 parts1 parts_n1 parts_c1 t1 c R w := h
    refine Wp_seq_via codec_Sum_p1 (fun s w => codec_Sum_b4 s R w) (fun s r w h => ?_) (fun hN1 => ?_)
    · obtain ⟨c7, rfl⟩ : ∃ y, y = s := ⟨s, rfl⟩
      have h : codec_Sum_b4 c7 R w := h
      refine Wp_leaf_end (Q0 := fun e _ r w => match e with | .normal => retQ Tryd.prog Tryd.f78.results R .normal [] r w | .exit _ => False | .ret => retQ Tryd.prog Tryd.f78.results R .ret [] r w | _ => False) h (by kernel_rfl) ?_
      intro e _ r w h
      cases e with
      | normal => exact h
      | exit i => exact h.elim
      | ret => exact h
      | goto i => exact h.elim
      | panic c => exact h.elim
      | outgrown => exact h.elim
    · refine Wp_glue codec_Sum_p2 (fun s w => codec_Sum_b6 s.1 s.2.1 s.2.2.1 s.2.2.2.1 s.2.2.2.2.1 s.2.2.2.2.2.1 s.2.2.2.2.2.2 R w) [_] (Q0 := fun e _ r w => match e with | .normal => codec_Sum_p2.dec r (fun s => codec_Sum_b6 s.1 s.2.1 s.2.2.1 s.2.2.2.1 s.2.2.2.2.1 s.2.2.2.2.2.1 s.2.2.2.2.2.2 R w) | .exit _ => False | .ret => retQ Tryd.prog Tryd.f78.results R .ret [] r w | _ => False) h (by kernel_rfl) (fun s r w h => ?_) codec_Sum_p2_ok (fun _ _ _ h => h) ?_
      · obtain ⟨t2, c1, t10, t10_n, t10_c, t11, t12⟩ := s
        have h : codec_Sum_b6 t2 c1 t10 t10_n t10_c t11 t12 R w := h
        refine Wp_block_via codec_Sum_p1 (fun s w => codec_Sum_b4 s R w) hN1 (fun hX2 => ?_)
        refine Wp_loop (p := codec_Sum_p2) codec_Sum_p2_ok (fun s r w K0 h => ?_) h
        obtain ⟨t3, c2, t101, t10_n1, t10_c1, t111, t121⟩ := s
        have h : codec_Sum_b5 t3 c2 t101 t10_n1 t10_c1 t111 t121 K0 R w := h
        have hK3 := fun (s : Addr × Int × (Option Addr) × Nat × Nat × Int × Int) (r : Regs) (w : World) (h : K0 s w) => codec_Sum_p2_re s r (fun s => K0 s w) h
        refine Wp_glue codec_Sum_p3 (fun s w => codec_Sum_b3 s.1 s.2.1 s.2.2.1 s.2.2.2.1 s.2.2.2.2.1 s.2.2.2.2.2.1 s.2.2.2.2.2.2 K0 w) [_, _] (Q0 := fun e _ r w => match e with | .normal => codec_Sum_p3.dec r (fun s => codec_Sum_b3 s.1 s.2.1 s.2.2.1 s.2.2.2.1 s.2.2.2.2.1 s.2.2.2.2.2.1 s.2.2.2.2.2.2 K0 w) | .exit i => exitQ i 0 (codec_Sum_p1.dec r (fun s => codec_Sum_b4 s R w)) (False) | .ret => retQ Tryd.prog Tryd.f78.results R .ret [] r w | _ => False) h (by kernel_rfl) (fun s r w h => ?_) codec_Sum_p3_ok (fun _ _ _ h => h) ?_
        · obtain ⟨t4, c3, t102, t10_n2, t10_c2, t112, t122⟩ := s
          have h : codec_Sum_b3 t4 c3 t102 t10_n2 t10_c2 t112 t122 K0 w := h
          refine Wp_seq_via codec_Sum_p4 (fun s w => codec_Sum_b0 s.1 s.2.1 s.2.2.1 s.2.2.2.1 s.2.2.2.2.1 s.2.2.2.2.2.1 s.2.2.2.2.2.2 K0 w) (fun s r w h => ?_) (fun hN4 => ?_)
          · obtain ⟨t7, c6, t105, t10_n5, t10_c5, t115, t125⟩ := s
            have h : codec_Sum_b0 t7 c6 t105 t10_n5 t10_c5 t115 t125 K0 w := h
            refine Wp_leaf_end (Q0 := fun e _ r w => match e with | .normal => codec_Sum_p2.dec r (fun s => K0 s w) | .exit i => exitQ i 0 (codec_Sum_p1.dec r (fun s => codec_Sum_b4 s R w)) (False) | .ret => retQ Tryd.prog Tryd.f78.results R .ret [] r w | _ => False) h (by kernel_rfl) ?_
            intro e _ r w h
            cases e with
            | normal =>
              obtain ⟨s, hs, h⟩ := codec_Sum_p2_ok _ _ h
              rw [← hs]
              exact hK3 s r w h
            | exit i =>
              rcases exitQ_elim h with ⟨rfl, h⟩ | ⟨_, h⟩
              · obtain ⟨s, hs, h⟩ := codec_Sum_p1_ok _ _ h
                rw [← hs]
                exact hX2 s r w h
              exact h.elim
            | ret => exact h
            | goto i => exact h.elim
            | panic c => exact h.elim
            | outgrown => exact h.elim
          · refine Wp_block_via codec_Sum_p4 (fun s w => codec_Sum_b0 s.1 s.2.1 s.2.2.1 s.2.2.2.1 s.2.2.2.2.1 s.2.2.2.2.2.1 s.2.2.2.2.2.2 K0 w) hN4 (fun hX5 => ?_)
            refine Wp_glue codec_Sum_p5 (fun s w => codec_Sum_b2 s.1 s.2.1 s.2.2.1 s.2.2.2.1 s.2.2.2.2.1 s.2.2.2.2.2.1 s.2.2.2.2.2.2.1 s.2.2.2.2.2.2.2.1 s.2.2.2.2.2.2.2.2.1 s.2.2.2.2.2.2.2.2.2.1 s.2.2.2.2.2.2.2.2.2.2.1 s.2.2.2.2.2.2.2.2.2.2.2 K0 w) [_, _] (Q0 := fun e _ r w => match e with | .normal => codec_Sum_p5.dec r (fun s => codec_Sum_b2 s.1 s.2.1 s.2.2.1 s.2.2.2.1 s.2.2.2.2.1 s.2.2.2.2.2.1 s.2.2.2.2.2.2.1 s.2.2.2.2.2.2.2.1 s.2.2.2.2.2.2.2.2.1 s.2.2.2.2.2.2.2.2.2.1 s.2.2.2.2.2.2.2.2.2.2.1 s.2.2.2.2.2.2.2.2.2.2.2 K0 w) | .exit i => exitQ i 0 (codec_Sum_p1.dec r (fun s => codec_Sum_b4 s R w)) (exitQ i 1 (codec_Sum_p4.dec r (fun s => codec_Sum_b0 s.1 s.2.1 s.2.2.1 s.2.2.2.1 s.2.2.2.2.1 s.2.2.2.2.2.1 s.2.2.2.2.2.2 K0 w)) (False)) | .ret => retQ Tryd.prog Tryd.f78.results R .ret [] r w | _ => False) h (by kernel_rfl) (fun s r w h => ?_) codec_Sum_p5_ok (fun _ _ _ h => h) ?_
            · obtain ⟨t5, c4, t103, t10_n3, t10_c3, t113, t123, t16, t16_n, t16_c, t17, t18⟩ := s
              have h : codec_Sum_b2 t5 c4 t103 t10_n3 t10_c3 t113 t123 t16 t16_n t16_c t17 t18 K0 w := h
              refine Wp_block_via codec_Sum_p4 (fun s w => codec_Sum_b0 s.1 s.2.1 s.2.2.1 s.2.2.2.1 s.2.2.2.2.1 s.2.2.2.2.2.1 s.2.2.2.2.2.2 K0 w) hN4 (fun hX6 => ?_)
              refine Wp_loop (p := codec_Sum_p5) codec_Sum_p5_ok (fun s r w K1 h => ?_) h
              obtain ⟨t6, c5, t104, t10_n4, t10_c4, t114, t124, t161, t16_n1, t16_c1, t171, t181⟩ := s
              have h : codec_Sum_b1 t6 c5 t104 t10_n4 t10_c4 t114 t124 t161 t16_n1 t16_c1 t171 t181 K0 K1 w := h
              have hK7 := fun (s : Addr × Int × (Option Addr) × Nat × Nat × Int × Int × (Option Addr) × Nat × Nat × Int × Int) (r : Regs) (w : World) (h : K1 s w) => codec_Sum_p5_re s r (fun s => K1 s w) h
              refine Wp_leaf_end (Q0 := fun e _ r w => match e with | .normal => codec_Sum_p5.dec r (fun s => K1 s w) | .exit i => exitQ i 0 (codec_Sum_p1.dec r (fun s => codec_Sum_b4 s R w)) (exitQ i 1 (codec_Sum_p4.dec r (fun s => codec_Sum_b0 s.1 s.2.1 s.2.2.1 s.2.2.2.1 s.2.2.2.2.1 s.2.2.2.2.2.1 s.2.2.2.2.2.2 K0 w)) (exitQ i 2 (codec_Sum_p4.dec r (fun s => codec_Sum_b0 s.1 s.2.1 s.2.2.1 s.2.2.2.1 s.2.2.2.2.1 s.2.2.2.2.2.1 s.2.2.2.2.2.2 K0 w)) (False))) | .ret => retQ Tryd.prog Tryd.f78.results R .ret [] r w | _ => False) h (by kernel_rfl) ?_
              intro e _ r w h
              cases e with
              | normal =>
                obtain ⟨s, hs, h⟩ := codec_Sum_p5_ok _ _ h
                rw [← hs]
                exact hK7 s r w h
              | exit i =>
                rcases exitQ_elim h with ⟨rfl, h⟩ | ⟨_, h⟩
                · obtain ⟨s, hs, h⟩ := codec_Sum_p1_ok _ _ h
                  rw [← hs]
                  exact (fun s r w h => blockQ_other (id := 2) (j := 0) (by decide) ((fun s r w h => blockQ_other (id := 1) (j := 0) (by decide) (hX2 s r w h)) s r w h)) s r w h
                rcases exitQ_elim h with ⟨rfl, h⟩ | ⟨_, h⟩
                · obtain ⟨s, hs, h⟩ := codec_Sum_p4_ok _ _ h
                  rw [← hs]
                  exact (fun s r w h => blockQ_other (id := 2) (j := 1) (by decide) (hX5 s r w h)) s r w h
                rcases exitQ_elim h with ⟨rfl, h⟩ | ⟨_, h⟩
                · obtain ⟨s, hs, h⟩ := codec_Sum_p4_ok _ _ h
                  rw [← hs]
                  exact hX6 s r w h
                exact h.elim
              | ret => exact h
              | goto i => exact h.elim
              | panic c => exact h.elim
              | outgrown => exact h.elim
            · intro e _ r w hne h
              cases e with
              | normal => exact absurd rfl hne
              | exit i =>
                rcases exitQ_elim h with ⟨rfl, h⟩ | ⟨_, h⟩
                · obtain ⟨s, hs, h⟩ := codec_Sum_p1_ok _ _ h
                  rw [← hs]
                  exact (fun s r w h => blockQ_other (id := 1) (j := 0) (by decide) (hX2 s r w h)) s r w h
                rcases exitQ_elim h with ⟨rfl, h⟩ | ⟨_, h⟩
                · obtain ⟨s, hs, h⟩ := codec_Sum_p4_ok _ _ h
                  rw [← hs]
                  exact hX5 s r w h
                exact h.elim
              | ret => exact h
              | goto i => exact h.elim
              | panic c => exact h.elim
              | outgrown => exact h.elim
        · intro e _ r w hne h
          cases e with
          | normal => exact absurd rfl hne
          | exit i =>
            rcases exitQ_elim h with ⟨rfl, h⟩ | ⟨_, h⟩
            · obtain ⟨s, hs, h⟩ := codec_Sum_p1_ok _ _ h
              rw [← hs]
              exact hX2 s r w h
            exact h.elim
          | ret => exact h
          | goto i => exact h.elim
          | panic c => exact h.elim
          | outgrown => exact h.elim
      · intro e _ r w hne h
        cases e with
        | normal => exact absurd rfl hne
        | exit i => exact h.elim
        | ret => exact h
        | goto i => exact h.elim
        | panic c => exact h.elim
        | outgrown => exact h.elim
  · intro e _ r w hne h
    cases e with
    | normal => exact absurd rfl hne
    | exit i => exact h.elim
    | ret => exact h
    | goto i => exact h.elim
    | panic c => exact h.elim
    | outgrown => exact h.elim

/- glacier/codec.frame -/
def codec_frame_b0 (b : Option Addr) (b_n : Nat) (b_c : Nat) (R : Value → World → Prop) (w : World) : Prop :=
  CallR Tryd.prog fn_codec_ReadNumber #[(.slice b b_n b_c)] w fun res w_ =>
  mTup res fun l =>
  mCons l fun v l1 =>
  mInt .u64 v fun v1 =>
  mCons l1 fun v2 l2 =>
  mInt .i64 v2 fun v3 =>
  mCons l2 fun v4 l3 =>
  mInt .i64 v4 fun v5 =>
  mNil l3 (
  Br (v5 != 0) (
  R (.tuple #[(.int .i64 0), (.int .i64 0), (.int .i64 v5)]) w_) (
  Br (decide (v1 > 67108864)) (
  R (.tuple #[(.int .i64 0), (.int .i64 0), (.int .i64 3)]) w_) (
  Br (decide ((IntKind.wrap .i64 ((IntKind.wrap .i64 v1) + 4)) > (IntKind.wrap .i64 ((b_n : Int) - v3)))) (
  R (.tuple #[(.int .i64 0), (.int .i64 0), (.int .i64 11)]) w_) (
  LetW (World.drew w_) fun w_1 =>
  rRun Tryd.prog (Instr.sliceAt 41 (.slice b b_n b_c) (some (.int .i64 v3)) (some (.int .i64 (IntKind.wrap .i64 (v3 + 4)))) none) w_1 fun sr w_2 =>
  mSlice sr fun v6 v_n v_c =>
  (w_2 = w_1 ∧ 
  rRun Tryd.prog (Instr.sliceAt 41 (.slice b b_n b_c) (some (.int .i64 (IntKind.wrap .i64 (v3 + 4)))) (some (.int .i64 (IntKind.wrap .i64 ((IntKind.wrap .i64 (v3 + 4)) + (IntKind.wrap .i64 v1))))) none) w_1 fun sr1 w_3 =>
  mSlice sr1 fun v7 v_n1 v_c1 =>
  (w_3 = w_1 ∧ 
  AL w_1 (.cells #[(.slice v7 v_n1 v_c1)] 41) fun b1 w_4 =>
  ((rRun Tryd.prog (Instr.sliceAt 41 (.slice b b_n b_c) (some (.int .i64 v3)) (some (.int .i64 (IntKind.wrap .i64 (v3 + 4)))) none) w_4 fun sr2 w_5 =>
  mSlice sr2 fun v8 v_n2 v_c2 =>
  (w_5 = w_4 ∧ ((.slice v8 v_n2 v_c2) : Value) = (.slice v6 v_n v_c))) ∧ 
  CallR Tryd.prog fn_codec_Sum #[(.slice (some b1) 1 1)] w_4 fun res1 w_6 =>
  mInt .u32 res1 fun v9 =>
  ((rRun Tryd.prog (Instr.sliceAt 41 (.slice b b_n b_c) (some (.int .i64 v3)) (some (.int .i64 (IntKind.wrap .i64 (v3 + 4)))) none) w_6 fun sr3 w_7 =>
  mSlice sr3 fun v10 v_n3 v_c3 =>
  (w_7 = w_6 ∧ ((.slice v10 v_n3 v_c3) : Value) = (.slice v6 v_n v_c))) ∧ 
  (w_6 = w_6 ∧ 
  CallR Tryd.prog fn_codec_low #[(.slice none 0 0), (.int .u64 (IntKind.wrap .u64 v9)), (.int .i64 4)] w_6 fun res2 w_8 =>
  mSlice res2 fun v11 v_n4 v_c4 =>
  ((rRun Tryd.prog (Instr.sliceAt 41 (.slice b b_n b_c) (some (.int .i64 v3)) (some (.int .i64 (IntKind.wrap .i64 (v3 + 4)))) none) w_8 fun sr4 w_9 =>
  mSlice sr4 fun v12 v_n5 v_c5 =>
  (w_9 = w_8 ∧ ((.slice v12 v_n5 v_c5) : Value) = (.slice v6 v_n v_c))) ∧ 
  CallR Tryd.prog fn_slices_Equal_s_byte_byte #[(.slice v6 v_n v_c), (.slice v11 v_n4 v_c4)] w_8 fun res3 w_10 =>
  mBool res3 fun v13 =>
  (w_10 = w_10 ∧ 
  Br (!v13) (
  R (.tuple #[(.int .i64 0), (.int .i64 0), (.int .i64 13)]) w_10) (
  R (.tuple #[(.int .i64 (IntKind.wrap .i64 (v3 + 4))), (.int .i64 (IntKind.wrap .i64 ((IntKind.wrap .i64 (v3 + 4)) + (IntKind.wrap .i64 v1)))), (.int .i64 0)]) w_10))))))))))))

set_option maxRecDepth 100000 in
theorem codec_frame_sound (b : Option Addr) (b_n : Nat) (b_c : Nat) (R : Value → World → Prop) (w : World) (h : codec_frame_b0 b b_n b_c R w) :
    CallR Tryd.prog fn_codec_frame #[(.slice b b_n b_c)] w R := by
  refine CallR_intro (args := [(.slice b b_n b_c)]) Tryd.func57 rfl (Nat.le_of_ble_eq_true (by kernel_rfl)) ?_
  refine Wp_leaf_end (Q0 := fun e _ r w => match e with | .normal => retQ Tryd.prog Tryd.f57.results R .normal [] r w | .exit _ => False | .ret => retQ Tryd.prog Tryd.f57.results R .ret [] r w | _ => False) h (by kernel_rfl) ?_
  intro e _ r w h
  cases e with
  | normal => exact h
  | exit i => exact h.elim
  | ret => exact h
  | goto i => exact h.elim
  | panic c => exact h.elim
  | outgrown => exact h.elim

/- glacier/codec.Frame -/
def codec_Frame_b0 (payload : Option Addr) (payload_n : Nat) (payload_c : Nat) (R : Value → World → Prop) (w : World) : Prop :=
  CallR Tryd.prog fn_codec_Number #[(.slice none 0 0), (.int .u64 (IntKind.wrap .u64 (payload_n : Int)))] w fun res w_ =>
  mSlice res fun v v_n v_c =>
  AL w_ (.cells #[(.slice payload payload_n payload_c)] 41) fun b w_1 =>
  CallR Tryd.prog fn_codec_Sum #[(.slice (some b) 1 1)] w_1 fun res1 w_2 =>
  mInt .u32 res1 fun v1 =>
  CallR Tryd.prog fn_codec_low #[(.slice v v_n v_c), (.int .u64 (IntKind.wrap .u64 v1)), (.int .i64 4)] w_2 fun res2 w_3 =>
  mSlice res2 fun v2 v_n1 v_c1 =>
  rRun Tryd.prog (Builtin.append_ #[41, 41] 41 #[(.slice v2 v_n1 v_c1), (.slice payload payload_n payload_c)]) w_3 fun sr w_4 =>
  mSlice sr fun v3 v_n2 v_c2 =>
  R (.slice v3 v_n2 v_c2) w_4

set_option maxRecDepth 100000 in
theorem codec_Frame_sound (payload : Option Addr) (payload_n : Nat) (payload_c : Nat) (R : Value → World → Prop) (w : World) (h : codec_Frame_b0 payload payload_n payload_c R w) :
    CallR Tryd.prog fn_codec_Frame #[(.slice payload payload_n payload_c)] w R := by
  refine CallR_intro (args := [(.slice payload payload_n payload_c)]) Tryd.func63 rfl (Nat.le_of_ble_eq_true (by kernel_rfl)) ?_
  refine Wp_leaf_end (Q0 := fun e _ r w => match e with | .normal => retQ Tryd.prog Tryd.f63.results R .normal [] r w | .exit _ => False | .ret => retQ Tryd.prog Tryd.f63.results R .ret [] r w | _ => False) h (by kernel_rfl) ?_
  intro e _ r w h
  cases e with
  | normal => exact h
  | exit i => exact h.elim
  | ret => exact h
  | goto i => exact h.elim
  | panic c => exact h.elim
  | outgrown => exact h.elim

/- glacier/codec.ReadFrames -/
def codec_ReadFrames_b0 (out2 : Option Addr) (out_n2 : Nat) (out_c2 : Nat) (at_2 : Int) (R : Value → World → Prop) (w : World) : Prop :=
  R (.tuple #[(.slice out2 out_n2 out_c2), (.int .i64 at_2), (.int .i64 0)]) w

def codec_ReadFrames_b1 (b2 : Option Addr) (b_n2 : Nat) (b_c2 : Nat) (out1 : Option Addr) (out_n1 : Nat) (out_c1 : Nat) (at_1 : Int) (K0 : ((Option Addr) × Nat × Nat × (Option Addr) × Nat × Nat × Int) → World → Prop) (R : Value → World → Prop) (w : World) : Prop :=
  Br (decide (at_1 < (b_n2 : Int))) (
  rRun Tryd.prog (Instr.sliceAt 41 (.slice b2 b_n2 b_c2) (some (.int .i64 at_1)) none none) w fun sr w_ =>
  mSlice sr fun v v_n v_c =>
  CallR Tryd.prog fn_codec_frame #[(.slice v v_n v_c)] w_ fun res w_1 =>
  mTup res fun l =>
  mCons l fun v1 l1 =>
  mInt .i64 v1 fun v2 =>
  mCons l1 fun v3 l2 =>
  mInt .i64 v3 fun v4 =>
  mCons l2 fun v5 l3 =>
  mInt .i64 v5 fun v6 =>
  mNil l3 (
  Br (v6 != 0) (
  R (.tuple #[(.slice out1 out_n1 out_c1), (.int .i64 at_1), (.int .i64 v6)]) w_1) (
  rRun Tryd.prog (Instr.sliceAt 41 (.slice b2 b_n2 b_c2) (some (.int .i64 (IntKind.wrap .i64 (at_1 + v2)))) (some (.int .i64 (IntKind.wrap .i64 (at_1 + v4)))) none) w_1 fun sr1 w_2 =>
  mSlice sr1 fun v7 v_n1 v_c1 =>
  CallR Tryd.prog fn_slices_Clone_s_byte_byte #[(.slice v7 v_n1 v_c1)] w_2 fun res1 w_3 =>
  mSlice res1 fun v8 v_n2 v_c2 =>
  AL w_3 (.cells #[(.slice v8 v_n2 v_c2)] 41) fun b3 w_4 =>
  rRun Tryd.prog (Builtin.append_ #[40, 40] 40 #[(.slice out1 out_n1 out_c1), (.slice (some b3) 1 1)]) w_4 fun sr2 w_5 =>
  mSlice sr2 fun v9 v_n3 v_c3 =>
  K0 (b2, b_n2, b_c2, v9, v_n3, v_c3, IntKind.wrap .i64 (at_1 + v4)) w_5))) (
  codec_ReadFrames_b0 out1 out_n1 out_c1 at_1 R w)

def codec_ReadFrames_b2 (b1 : Option Addr) (b_n1 : Nat) (b_c1 : Nat) (out : Option Addr) (out_n : Nat) (out_c : Nat) (at_ : Int) (R : Value → World → Prop) (w : World) : Prop :=
  LoopS (σ := (Option Addr) × Nat × Nat × (Option Addr) × Nat × Nat × Int) (fun s w K0 =>
  codec_ReadFrames_b1 s.1 s.2.1 s.2.2.1 s.2.2.2.1 s.2.2.2.2.1 s.2.2.2.2.2.1 s.2.2.2.2.2.2 K0 R w) (b1, b_n1, b_c1, out, out_n, out_c, at_) w

def codec_ReadFrames_b3 (b : Option Addr) (b_n : Nat) (b_c : Nat) (R : Value → World → Prop) (w : World) : Prop :=
  codec_ReadFrames_b2 b b_n b_c none 0 0 0 R w

def codec_ReadFrames_p0 : Point ((Option Addr) × Nat × Nat × (Option Addr) × Nat × Nat × Int) := { slots := fun s => [(0, (.slice s.1 s.2.1 s.2.2.1)), (5, (.slice s.2.2.2.1 s.2.2.2.2.1 s.2.2.2.2.2.1)), (6, (.int .i64 s.2.2.2.2.2.2))], dec := fun r K => mSlice (r 0) fun x x1 x2 => mSlice (r 5) fun x3 x4 x5 => mInt .i64 (r 6) fun x6 => K (x, x1, x2, x3, x4, x5, x6) }
theorem codec_ReadFrames_p0_ok : codec_ReadFrames_p0.ok := by
  intro r K h
  unfold codec_ReadFrames_p0 at h
  obtain ⟨x, x1, x2, e0, h⟩ := mSlice_elim h
  obtain ⟨x3, x4, x5, e1, h⟩ := mSlice_elim h
  obtain ⟨x6, e2, h⟩ := mInt_elim h
  exact ⟨(x, x1, x2, x3, x4, x5, x6), regsOf_self (L := [(0, (.slice x x1 x2)), (5, (.slice x3 x4 x5)), (6, (.int .i64 x6))]) (List.forall_mem_cons.2 ⟨e0, List.forall_mem_cons.2 ⟨e1, List.forall_mem_cons.2 ⟨e2, List.forall_mem_nil _⟩⟩⟩), h⟩
theorem codec_ReadFrames_p0_re (s : (Option Addr) × Nat × Nat × (Option Addr) × Nat × Nat × Int) (r : Regs) (K : ((Option Addr) × Nat × Nat × (Option Addr) × Nat × Nat × Int) → Prop) (h : K s) : codec_ReadFrames_p0.dec (regsOf (codec_ReadFrames_p0.slots s) r) K := by
  obtain ⟨x7, x8, x9, x10, x11, x12, x13⟩ := s
  exact cast (show K (x7, x8, x9, x10, x11, x12, x13) = codec_ReadFrames_p0.dec (regsOf (codec_ReadFrames_p0.slots (x7, x8, x9, x10, x11, x12, x13)) r) K by kernel_rfl) h

def codec_ReadFrames_p1 : Point ((Option Addr) × Nat × Nat × Int) := { slots := fun s => [(5, (.slice s.1 s.2.1 s.2.2.1)), (6, (.int .i64 s.2.2.2))], dec := fun r K => mSlice (r 5) fun x x1 x2 => mInt .i64 (r 6) fun x3 => K (x, x1, x2, x3) }
theorem codec_ReadFrames_p1_ok : codec_ReadFrames_p1.ok := by
  intro r K h
  unfold codec_ReadFrames_p1 at h
  obtain ⟨x, x1, x2, e0, h⟩ := mSlice_elim h
  obtain ⟨x3, e1, h⟩ := mInt_elim h
  exact ⟨(x, x1, x2, x3), regsOf_self (L := [(5, (.slice x x1 x2)), (6, (.int .i64 x3))]) (List.forall_mem_cons.2 ⟨e0, List.forall_mem_cons.2 ⟨e1, List.forall_mem_nil _⟩⟩), h⟩
theorem codec_ReadFrames_p1_re (s : (Option Addr) × Nat × Nat × Int) (r : Regs) (K : ((Option Addr) × Nat × Nat × Int) → Prop) (h : K s) : codec_ReadFrames_p1.dec (regsOf (codec_ReadFrames_p1.slots s) r) K := by
  obtain ⟨x4, x5, x6, x7⟩ := s
  exact cast (show K (x4, x5, x6, x7) = codec_ReadFrames_p1.dec (regsOf (codec_ReadFrames_p1.slots (x4, x5, x6, x7)) r) K by kernel_rfl) h

set_option maxRecDepth 100000 in
theorem codec_ReadFrames_sound (b : Option Addr) (b_n : Nat) (b_c : Nat) (R : Value → World → Prop) (w : World) (h : codec_ReadFrames_b3 b b_n b_c R w) :
    CallR Tryd.prog fn_codec_ReadFrames #[(.slice b b_n b_c)] w R := by
  refine CallR_intro (args := [(.slice b b_n b_c)]) Tryd.func36 rfl (Nat.le_of_ble_eq_true (by kernel_rfl)) ?_
  refine Wp_glue codec_ReadFrames_p0 (fun s w => codec_ReadFrames_b2 s.1 s.2.1 s.2.2.1 s.2.2.2.1 s.2.2.2.2.1 s.2.2.2.2.2.1 s.2.2.2.2.2.2 R w) [_, _, _] (Q0 := fun e _ r w => match e with | .normal => codec_ReadFrames_p0.dec r (fun s => codec_ReadFrames_b2 s.1 s.2.1 s.2.2.1 s.2.2.2.1 s.2.2.2.2.1 s.2.2.2.2.2.1 s.2.2.2.2.2.2 R w) | .exit _ => False | .ret => retQ Tryd.prog Tryd.f36.results R .ret [] r w | _ => False) h (by kernel_rfl) (fun s r w h => ?_) codec_ReadFrames_p0_ok (fun _ _ _ h => h) ?_
  · obtain ⟨b1, b_n1, b_c1, out, out_n, out_c, at_⟩ := s
    have h : codec_ReadFrames_b2 b1 b_n1 b_c1 out out_n out_c at_ R w := h
    refine Wp_seq_via codec_ReadFrames_p1 (fun s w => codec_ReadFrames_b0 s.1 s.2.1 s.2.2.1 s.2.2.2 R w) (fun s r w h => ?_) (fun hN1 => ?_)
    · obtain ⟨out2, out_n2, out_c2, at_2⟩ := s
      have h : codec_ReadFrames_b0 out2 out_n2 out_c2 at_2 R w := h
      refine Wp_leaf_end (Q0 := fun e _ r w => match e with | .normal => retQ Tryd.prog Tryd.f36.results R .normal [] r w | .exit _ => False | .ret => retQ Tryd.prog Tryd.f36.results R .ret [] r w | _ => False) h (by kernel_rfl) ?_
      intro e _ r w h
      cases e with
      | normal => exact h
      | exit i => exact h.elim
      | ret => exact h
      | goto i => exact h.elim
      | panic c => exact h.elim
      | outgrown => exact h.elim
    · refine Wp_block_via codec_ReadFrames_p1 (fun s w => codec_ReadFrames_b0 s.1 s.2.1 s.2.2.1 s.2.2.2 R w) hN1 (fun hX2 => ?_)
      refine Wp_loop (p := codec_ReadFrames_p0) codec_ReadFrames_p0_ok (fun s r w K0 h => ?_) h
      obtain ⟨b2, b_n2, b_c2, out1, out_n1, out_c1, at_1⟩ := s
      have h : codec_ReadFrames_b1 b2 b_n2 b_c2 out1 out_n1 out_c1 at_1 K0 R w := h
      have hK3 := fun (s : (Option Addr) × Nat × Nat × (Option Addr) × Nat × Nat × Int) (r : Regs) (w : World) (h : K0 s w) => codec_ReadFrames_p0_re s r (fun s => K0 s w) h
      refine Wp_leaf_end (Q0 := fun e _ r w => match e with | .normal => codec_ReadFrames_p0.dec r (fun s => K0 s w) | .exit i => exitQ i 0 (codec_ReadFrames_p1.dec r (fun s => codec_ReadFrames_b0 s.1 s.2.1 s.2.2.1 s.2.2.2 R w)) (False) | .ret => retQ Tryd.prog Tryd.f36.results R .ret [] r w | _ => False) h (by kernel_rfl) ?_
      intro e _ r w h
      cases e with
      | normal =>
        obtain ⟨s, hs, h⟩ := codec_ReadFrames_p0_ok _ _ h
        rw [← hs]
        exact hK3 s r w h
      | exit i =>
        rcases exitQ_elim h with ⟨rfl, h⟩ | ⟨_, h⟩
        · obtain ⟨s, hs, h⟩ := codec_ReadFrames_p1_ok _ _ h
          rw [← hs]
          exact hX2 s r w h
        exact h.elim
      | ret => exact h
      | goto i => exact h.elim
      | panic c => exact h.elim
      | outgrown => exact h.elim
  · intro e _ r w hne h
    cases e with
    | normal => exact absurd rfl hne
    | exit i => exact h.elim
    | ret => exact h
    | goto i => exact h.elim
    | panic c => exact h.elim
    | outgrown => exact h.elim

/- glacier/codec.Frames -/
def codec_Frames_b0 (b3 : Option Addr) (b_n3 : Nat) (b_c3 : Nat) (R : Value → World → Prop) (w : World) : Prop :=
  R (.slice b3 b_n3 b_c3) w

def codec_Frames_b1 (b2 : Option Addr) (b_n2 : Nat) (b_c2 : Nat) (t61 : Option Addr) (t6_n1 : Nat) (t6_c1 : Nat) (t71 : Int) (t81 : Int) (K0 : ((Option Addr) × Nat × Nat × (Option Addr) × Nat × Nat × Int × Int) → World → Prop) (R : Value → World → Prop) (w : World) : Prop :=
  Br (decide (t81 < t71)) (
  IX t61 t6_n1 t81 1 fun a =>
  LDSl w a fun v v_n v_c =>
  CallR Tryd.prog fn_codec_Frame #[(.slice v v_n v_c)] w fun res w_ =>
  mSlice res fun v1 v_n1 v_c1 =>
  rRun Tryd.prog (Builtin.append_ #[41, 41] 41 #[(.slice b2 b_n2 b_c2), (.slice v1 v_n1 v_c1)]) w_ fun sr w_1 =>
  mSlice sr fun v2 v_n2 v_c2 =>
  K0 (v2, v_n2, v_c2, t61, t6_n1, t6_c1, t71, IntKind.wrap .i64 (t81 + 1)) w_1) (
  codec_Frames_b0 b2 b_n2 b_c2 R w)

def codec_Frames_b2 (b1 : Option Addr) (b_n1 : Nat) (b_c1 : Nat) (t6 : Option Addr) (t6_n : Nat) (t6_c : Nat) (t7 : Int) (t8 : Int) (R : Value → World → Prop) (w : World) : Prop :=
  LoopS (σ := (Option Addr) × Nat × Nat × (Option Addr) × Nat × Nat × Int × Int) (fun s w K0 =>
  codec_Frames_b1 s.1 s.2.1 s.2.2.1 s.2.2.2.1 s.2.2.2.2.1 s.2.2.2.2.2.1 s.2.2.2.2.2.2.1 s.2.2.2.2.2.2.2 K0 R w) (b1, b_n1, b_c1, t6, t6_n, t6_c, t7, t8) w

def codec_Frames_b3 (payloads1 : Option Addr) (payloads_n1 : Nat) (payloads_c1 : Nat) (b : Option Addr) (b_n : Nat) (b_c : Nat) (R : Value → World → Prop) (w : World) : Prop :=
  codec_Frames_b2 b b_n b_c payloads1 payloads_n1 payloads_c1 (payloads_n1 : Int) 0 R w

def codec_Frames_b4 (payloads : Option Addr) (payloads_n : Nat) (payloads_c : Nat) (R : Value → World → Prop) (w : World) : Prop :=
  codec_Frames_b3 payloads payloads_n payloads_c none 0 0 R w

def codec_Frames_p0 : Point ((Option Addr) × Nat × Nat × (Option Addr) × Nat × Nat) := { slots := fun s => [(0, (.slice s.1 s.2.1 s.2.2.1)), (3, (.slice s.2.2.2.1 s.2.2.2.2.1 s.2.2.2.2.2))], dec := fun r K => mSlice (r 0) fun x x1 x2 => mSlice (r 3) fun x3 x4 x5 => K (x, x1, x2, x3, x4, x5) }
theorem codec_Frames_p0_ok : codec_Frames_p0.ok := by
  intro r K h
  unfold codec_Frames_p0 at h
  obtain ⟨x, x1, x2, e0, h⟩ := mSlice_elim h
  obtain ⟨x3, x4, x5, e1, h⟩ := mSlice_elim h
  exact ⟨(x, x1, x2, x3, x4, x5), regsOf_self (L := [(0, (.slice x x1 x2)), (3, (.slice x3 x4 x5))]) (List.forall_mem_cons.2 ⟨e0, List.forall_mem_cons.2 ⟨e1, List.forall_mem_nil _⟩⟩), h⟩
theorem codec_Frames_p0_re (s : (Option Addr) × Nat × Nat × (Option Addr) × Nat × Nat) (r : Regs) (K : ((Option Addr) × Nat × Nat × (Option Addr) × Nat × Nat) → Prop) (h : K s) : codec_Frames_p0.dec (regsOf (codec_Frames_p0.slots s) r) K := by
  obtain ⟨x6, x7, x8, x9, x10, x11⟩ := s
  exact cast (show K (x6, x7, x8, x9, x10, x11) = codec_Frames_p0.dec (regsOf (codec_Frames_p0.slots (x6, x7, x8, x9, x10, x11)) r) K by kernel_rfl) h

def codec_Frames_p1 : Point ((Option Addr) × Nat × Nat) := { slots := fun s => [(3, (.slice s.1 s.2.1 s.2.2))], dec := fun r K => mSlice (r 3) fun x x1 x2 => K (x, x1, x2) }
theorem codec_Frames_p1_ok : codec_Frames_p1.ok := by
  intro r K h
  unfold codec_Frames_p1 at h
  obtain ⟨x, x1, x2, e0, h⟩ := mSlice_elim h
  exact ⟨(x, x1, x2), regsOf_self (L := [(3, (.slice x x1 x2))]) (List.forall_mem_cons.2 ⟨e0, List.forall_mem_nil _⟩), h⟩
theorem codec_Frames_p1_re (s : (Option Addr) × Nat × Nat) (r : Regs) (K : ((Option Addr) × Nat × Nat) → Prop) (h : K s) : codec_Frames_p1.dec (regsOf (codec_Frames_p1.slots s) r) K := by
  obtain ⟨x3, x4, x5⟩ := s
  exact cast (show K (x3, x4, x5) = codec_Frames_p1.dec (regsOf (codec_Frames_p1.slots (x3, x4, x5)) r) K by kernel_rfl) h

def codec_Frames_p2 : Point ((Option Addr) × Nat × Nat × (Option Addr) × Nat × Nat × Int × Int) := { slots := fun s => [(3, (.slice s.1 s.2.1 s.2.2.1)), (6, (.slice s.2.2.2.1 s.2.2.2.2.1 s.2.2.2.2.2.1)), (7, (.int .i64 s.2.2.2.2.2.2.1)), (8, (.int .i64 s.2.2.2.2.2.2.2))], dec := fun r K => mSlice (r 3) fun x x1 x2 => mSlice (r 6) fun x3 x4 x5 => mInt .i64 (r 7) fun x6 => mInt .i64 (r 8) fun x7 => K (x, x1, x2, x3, x4, x5, x6, x7) }
theorem codec_Frames_p2_ok : codec_Frames_p2.ok := by
  intro r K h
  unfold codec_Frames_p2 at h
  obtain ⟨x, x1, x2, e0, h⟩ := mSlice_elim h
  obtain ⟨x3, x4, x5, e1, h⟩ := mSlice_elim h
  obtain ⟨x6, e2, h⟩ := mInt_elim h
  obtain ⟨x7, e3, h⟩ := mInt_elim h
  exact ⟨(x, x1, x2, x3, x4, x5, x6, x7), regsOf_self (L := [(3, (.slice x x1 x2)), (6, (.slice x3 x4 x5)), (7, (.int .i64 x6)), (8, (.int .i64 x7))]) (List.forall_mem_cons.2 ⟨e0, List.forall_mem_cons.2 ⟨e1, List.forall_mem_cons.2 ⟨e2, List.forall_mem_cons.2 ⟨e3, List.forall_mem_nil _⟩⟩⟩⟩), h⟩
theorem codec_Frames_p2_re (s : (Option Addr) × Nat × Nat × (Option Addr) × Nat × Nat × Int × Int) (r : Regs) (K : ((Option Addr) × Nat × Nat × (Option Addr) × Nat × Nat × Int × Int) → Prop) (h : K s) : codec_Frames_p2.dec (regsOf (codec_Frames_p2.slots s) r) K := by
  obtain ⟨x8, x9, x10, x11, x12, x13, x14, x15⟩ := s
  exact cast (show K (x8, x9, x10, x11, x12, x13, x14, x15) = codec_Frames_p2.dec (regsOf (codec_Frames_p2.slots (x8, x9, x10, x11, x12, x13, x14, x15)) r) K by kernel_rfl) h

set_option maxRecDepth 100000 in
theorem codec_Frames_sound (payloads : Option Addr) (payloads_n : Nat) (payloads_c : Nat) (R : Value → World → Prop) (w : World) (h : codec_Frames_b4 payloads payloads_n payloads_c R w) :
    CallR Tryd.prog fn_codec_Frames #[(.slice payloads payloads_n payloads_c)] w R := by
  refine CallR_intro (args := [(.slice payloads payloads_n payloads_c)]) Tryd.func42 rfl (Nat.le_of_ble_eq_true (by kernel_rfl)) ?_
  refine Wp_glue codec_Frames_p0 (fun s w => codec_Frames_b3 s.1 s.2.1 s.2.2.1 s.2.2.2.1 s.2.2.2.2.1 s.2.2.2.2.2 R w) [_, _] (Q0 := fun e _ r w => match e with | .normal => codec_Frames_p0.dec r (fun s => codec_Frames_b3 s.1 s.2.1 s.2.2.1 s.2.2.2.1 s.2.2.2.2.1 s.2.2.2.2.2 R w) | .exit _ => False | .ret => retQ Tryd.prog Tryd.f42.results R .ret [] r w | _ => False) h (by kernel_rfl) (fun s r w h => ?_) codec_Frames_p0_ok (fun _ _ _ h => h) ?_
  · obtain ⟨payloads1, payloads_n1, payloads_c1, b, b_n, b_c⟩ := s
    have h : codec_Frames_b3 payloads1 payloads_n1 payloads_c1 b b_n b_c R w := h
    refine Wp_seq_via codec_Frames_p1 (fun s w => codec_Frames_b0 s.1 s.2.1 s.2.2 R w) (fun s r w h => ?_) (fun hN1 => ?_)
    · obtain ⟨b3, b_n3, b_c3⟩ := s
      have h : codec_Frames_b0 b3 b_n3 b_c3 R w := h
      refine Wp_leaf_end (Q0 := fun e _ r w => match e with | .normal => retQ Tryd.prog Tryd.f42.results R .normal [] r w | .exit _ => False | .ret => retQ Tryd.prog Tryd.f42.results R .ret [] r w | _ => False) h (by kernel_rfl) ?_
      intro e _ r w h
      cases e with
      | normal => exact h
      | exit i => exact h.elim
      | ret => exact h
      | goto i => exact h.elim
      | panic c => exact h.elim
      | outgrown => exact h.elim
    · refine Wp_glue codec_Frames_p2 (fun s w => codec_Frames_b2 s.1 s.2.1 s.2.2.1 s.2.2.2.1 s.2.2.2.2.1 s.2.2.2.2.2.1 s.2.2.2.2.2.2.1 s.2.2.2.2.2.2.2 R w) [_] (Q0 := fun e _ r w => match e with | .normal => codec_Frames_p2.dec r (fun s => codec_Frames_b2 s.1 s.2.1 s.2.2.1 s.2.2.2.1 s.2.2.2.2.1 s.2.2.2.2.2.1 s.2.2.2.2.2.2.1 s.2.2.2.2.2.2.2 R w) | .exit _ => False | .ret => retQ Tryd.prog Tryd.f42.results R .ret [] r w | _ => False) h (by kernel_rfl) (fun s r w h => ?_) codec_Frames_p2_ok (fun _ _ _ h => h) ?_
      · obtain ⟨b1, b_n1, b_c1, t6, t6_n, t6_c, t7, t8⟩ := s
        have h : codec_Frames_b2 b1 b_n1 b_c1 t6 t6_n t6_c t7 t8 R w := h
        refine Wp_block_via codec_Frames_p1 (fun s w => codec_Frames_b0 s.1 s.2.1 s.2.2 R w) hN1 (fun hX2 => ?_)
        refine Wp_loop (p := codec_Frames_p2) codec_Frames_p2_ok (fun s r w K0 h => ?_) h
        obtain ⟨b2, b_n2, b_c2, t61, t6_n1, t6_c1, t71, t81⟩ := s
        have h : codec_Frames_b1 b2 b_n2 b_c2 t61 t6_n1 t6_c1 t71 t81 K0 R w := h
        have hK3 := fun (s : (Option Addr) × Nat × Nat × (Option Addr) × Nat × Nat × Int × Int) (r : Regs) (w : World) (h : K0 s w) => codec_Frames_p2_re s r (fun s => K0 s w) h
        refine Wp_leaf_end (Q0 := fun e _ r w => match e with | .normal => codec_Frames_p2.dec r (fun s => K0 s w) | .exit i => exitQ i 0 (codec_Frames_p1.dec r (fun s => codec_Frames_b0 s.1 s.2.1 s.2.2 R w)) (False) | .ret => retQ Tryd.prog Tryd.f42.results R .ret [] r w | _ => False) h (by kernel_rfl) ?_
        intro e _ r w h
        cases e with
        | normal =>
          obtain ⟨s, hs, h⟩ := codec_Frames_p2_ok _ _ h
          rw [← hs]
          exact hK3 s r w h
        | exit i =>
          rcases exitQ_elim h with ⟨rfl, h⟩ | ⟨_, h⟩
          · obtain ⟨s, hs, h⟩ := codec_Frames_p1_ok _ _ h
            rw [← hs]
            exact hX2 s r w h
          exact h.elim
        | ret => exact h
        | goto i => exact h.elim
        | panic c => exact h.elim
        | outgrown => exact h.elim
      · intro e _ r w hne h
        cases e with
        | normal => exact absurd rfl hne
        | exit i => exact h.elim
        | ret => exact h
        | goto i => exact h.elim
        | panic c => exact h.elim
        | outgrown => exact h.elim
  · intro e _ r w hne h
    cases e with
    | normal => exact absurd rfl hne
    | exit i => exact h.elim
    | ret => exact h
    | goto i => exact h.elim
    | panic c => exact h.elim
    | outgrown => exact h.elim

end Go.Proofs.YtnhjcjnjpciifaaDoor
