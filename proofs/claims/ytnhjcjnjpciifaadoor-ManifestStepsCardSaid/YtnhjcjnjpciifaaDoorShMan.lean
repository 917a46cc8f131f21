/- Printed by a program of this claim: the shallow readings of functions, and that they are sound. -/
import Derived.Test.YtnhjcjnjpciifaaDoorShNames
namespace Go.Proofs.YtnhjcjnjpciifaaDoor
open Go.Sh

/- cmp.isNaN[int] -/
def cmp_isNaN_int_b0 (x : Int) (R : Value → World → Prop) (w : World) : Prop :=
  R (.bool (x != x)) w

theorem cmp_isNaN_int_sound (x : Int) (R : Value → World → Prop) (w : World) (h : cmp_isNaN_int_b0 x R w) :
    CallR Tryd.prog fn_cmp_isNaN_int #[(.int .i64 x)] w R := by
  refine CallR_intro (args := [(.int .i64 x)]) Tryd.func55 rfl (Nat.le_of_ble_eq_true (by kernel_rfl)) ?_
  refine Wp_leaf_end (Q0 := fun e _ r w => match e with | .normal => retQ Tryd.prog Tryd.f55.results R .normal [] r w | .exit _ => False | .ret => retQ Tryd.prog Tryd.f55.results R .ret [] r w | _ => False) h (by kernel_rfl) ?_
  intro e _ r w h
  cases e with
  | normal => exact h
  | exit i => exact h.elim
  | ret => exact h
  | goto i => exact h.elim
  | panic c => exact h.elim
  | outgrown => exact h.elim

/- cmp.isNaN[string] -/
def cmp_isNaN_string_b0 (x : ByteArray) (R : Value → World → Prop) (w : World) : Prop :=
  R (.bool (!(ByteArray.toList x == ByteArray.toList x))) w

theorem cmp_isNaN_string_sound (x : ByteArray) (R : Value → World → Prop) (w : World) (h : cmp_isNaN_string_b0 x R w) :
    CallR Tryd.prog fn_cmp_isNaN_string #[(.string x)] w R := by
  refine CallR_intro (args := [(.string x)]) Tryd.func56 rfl (Nat.le_of_ble_eq_true (by kernel_rfl)) ?_
  refine Wp_leaf_end (Q0 := fun e _ r w => match e with | .normal => retQ Tryd.prog Tryd.f56.results R .normal [] r w | .exit _ => False | .ret => retQ Tryd.prog Tryd.f56.results R .ret [] r w | _ => False) h (by kernel_rfl) ?_
  intro e _ r w h
  cases e with
  | normal => exact h
  | exit i => exact h.elim
  | ret => exact h
  | goto i => exact h.elim
  | panic c => exact h.elim
  | outgrown => exact h.elim

/- cmp.Compare[int] -/
def cmp_Compare_int_b0 (x : Int) (y : Int) (R : Value → World → Prop) (w : World) : Prop :=
  CallR Tryd.prog fn_cmp_isNaN_int #[(.int .i64 x)] w fun res w_ =>
  mBool res fun v =>
  CallR Tryd.prog fn_cmp_isNaN_int #[(.int .i64 y)] w_ fun res1 w_1 =>
  mBool res1 fun v1 =>
  Br v (
  Br v1 (
  R (.int .i64 0) w_1) (
  R (.int .i64 (-1)) w_1)) (
  Br v1 (
  R (.int .i64 1) w_1) (
  Br (decide (x < y)) (
  R (.int .i64 (-1)) w_1) (
  Br (decide (x > y)) (
  R (.int .i64 1) w_1) (
  R (.int .i64 0) w_1))))

theorem cmp_Compare_int_sound (x : Int) (y : Int) (R : Value → World → Prop) (w : World) (h : cmp_Compare_int_b0 x y R w) :
    CallR Tryd.prog fn_cmp_Compare_int #[(.int .i64 x), (.int .i64 y)] w R := by
  refine CallR_intro (args := [(.int .i64 x), (.int .i64 y)]) Tryd.func32 rfl (Nat.le_of_ble_eq_true (by kernel_rfl)) ?_
  refine Wp_leaf_end (Q0 := fun e _ r w => match e with | .normal => retQ Tryd.prog Tryd.f32.results R .normal [] r w | .exit _ => False | .ret => retQ Tryd.prog Tryd.f32.results R .ret [] r w | _ => False) h (by kernel_rfl) ?_
  intro e _ r w h
  cases e with
  | normal => exact h
  | exit i => exact h.elim
  | ret => exact h
  | goto i => exact h.elim
  | panic c => exact h.elim
  | outgrown => exact h.elim

/- cmp.Compare[string] -/
def cmp_Compare_string_b0 (x : ByteArray) (y : ByteArray) (R : Value → World → Prop) (w : World) : Prop :=
  CallR Tryd.prog fn_cmp_isNaN_string #[(.string x)] w fun res w_ =>
  mBool res fun v =>
  CallR Tryd.prog fn_cmp_isNaN_string #[(.string y)] w_ fun res1 w_1 =>
  mBool res1 fun v1 =>
  Br v (
  Br v1 (
  R (.int .i64 0) w_1) (
  R (.int .i64 (-1)) w_1)) (
  Br v1 (
  R (.int .i64 1) w_1) (
  Br (Op.bytesLess (ByteArray.toList x) (ByteArray.toList y)) (
  R (.int .i64 (-1)) w_1) (
  Br (!((Op.bytesLess (ByteArray.toList x) (ByteArray.toList y)) || (ByteArray.toList x == ByteArray.toList y))) (
  R (.int .i64 1) w_1) (
  R (.int .i64 0) w_1))))

theorem cmp_Compare_string_sound (x : ByteArray) (y : ByteArray) (R : Value → World → Prop) (w : World) (h : cmp_Compare_string_b0 x y R w) :
    CallR Tryd.prog fn_cmp_Compare_string #[(.string x), (.string y)] w R := by
  refine CallR_intro (args := [(.string x), (.string y)]) Tryd.func33 rfl (Nat.le_of_ble_eq_true (by kernel_rfl)) ?_
  refine Wp_leaf_end (Q0 := fun e _ r w => match e with | .normal => retQ Tryd.prog Tryd.f33.results R .normal [] r w | .exit _ => False | .ret => retQ Tryd.prog Tryd.f33.results R .ret [] r w | _ => False) h (by kernel_rfl) ?_
  intro e _ r w h
  cases e with
  | normal => exact h
  | exit i => exact h.elim
  | ret => exact h
  | goto i => exact h.elim
  | panic c => exact h.elim
  | outgrown => exact h.elim

/- cmp.Or[int] -/
def cmp_Or_int_b0 (zero3 : Int) (R : Value → World → Prop) (w : World) : Prop :=
  R (.int .i64 zero3) w

def cmp_Or_int_b1 (zero2 : Int) (t61 : Option Addr) (t6_n1 : Nat) (t6_c1 : Nat) (t71 : Int) (t81 : Int) (K0 : (Int × (Option Addr) × Nat × Nat × Int × Int) → World → Prop) (R : Value → World → Prop) (w : World) : Prop :=
  Br (decide (t81 < t71)) (
  IX t61 t6_n1 t81 1 fun a =>
  LDI .i64 w a fun v =>
  Br (v != zero2) (
  R (.int .i64 v) w) (
  K0 (zero2, t61, t6_n1, t6_c1, t71, IntKind.wrap .i64 (t81 + 1)) w)) (
  cmp_Or_int_b0 zero2 R w)

def cmp_Or_int_b2 (zero1 : Int) (t6 : Option Addr) (t6_n : Nat) (t6_c : Nat) (t7 : Int) (t8 : Int) (R : Value → World → Prop) (w : World) : Prop :=
  LoopS (σ := Int × (Option Addr) × Nat × Nat × Int × Int) (fun s w K0 =>
  cmp_Or_int_b1 s.1 s.2.1 s.2.2.1 s.2.2.2.1 s.2.2.2.2.1 s.2.2.2.2.2 K0 R w) (zero1, t6, t6_n, t6_c, t7, t8) w

def cmp_Or_int_b3 (vals1 : Option Addr) (vals_n1 : Nat) (vals_c1 : Nat) (zero : Int) (R : Value → World → Prop) (w : World) : Prop :=
  cmp_Or_int_b2 zero vals1 vals_n1 vals_c1 (vals_n1 : Int) 0 R w

def cmp_Or_int_b4 (vals : Option Addr) (vals_n : Nat) (vals_c : Nat) (R : Value → World → Prop) (w : World) : Prop :=
  cmp_Or_int_b3 vals vals_n vals_c 0 R w

def cmp_Or_int_p0 : Point ((Option Addr) × Nat × Nat × Int) := { slots := fun s => [(0, (.slice s.1 s.2.1 s.2.2.1)), (3, (.int .i64 s.2.2.2))], dec := fun r K => mSlice (r 0) fun x x1 x2 => mInt .i64 (r 3) fun x3 => K (x, x1, x2, x3) }
theorem cmp_Or_int_p0_ok : cmp_Or_int_p0.ok := by
  intro r K h
  unfold cmp_Or_int_p0 at h
  obtain ⟨x, x1, x2, e0, h⟩ := mSlice_elim h
  obtain ⟨x3, e1, h⟩ := mInt_elim h
  exact ⟨(x, x1, x2, x3), regsOf_self (L := [(0, (.slice x x1 x2)), (3, (.int .i64 x3))]) (List.forall_mem_cons.2 ⟨e0, List.forall_mem_cons.2 ⟨e1, List.forall_mem_nil _⟩⟩), h⟩
theorem cmp_Or_int_p0_re (s : (Option Addr) × Nat × Nat × Int) (r : Regs) (K : ((Option Addr) × Nat × Nat × Int) → Prop) (h : K s) : cmp_Or_int_p0.dec (regsOf (cmp_Or_int_p0.slots s) r) K := by
  obtain ⟨x4, x5, x6, x7⟩ := s
  exact cast (show K (x4, x5, x6, x7) = cmp_Or_int_p0.dec (regsOf (cmp_Or_int_p0.slots (x4, x5, x6, x7)) r) K by kernel_rfl) h

def cmp_Or_int_p1 : Point (Int) := { slots := fun s => [(3, (.int .i64 s))], dec := fun r K => mInt .i64 (r 3) fun x => K x }
theorem cmp_Or_int_p1_ok : cmp_Or_int_p1.ok := by
  intro r K h
  unfold cmp_Or_int_p1 at h
  obtain ⟨x, e0, h⟩ := mInt_elim h
  exact ⟨x, regsOf_self (L := [(3, (.int .i64 x))]) (List.forall_mem_cons.2 ⟨e0, List.forall_mem_nil _⟩), h⟩
theorem cmp_Or_int_p1_re (s : Int) (r : Regs) (K : Int → Prop) (h : K s) : cmp_Or_int_p1.dec (regsOf (cmp_Or_int_p1.slots s) r) K := by
  exact cast (show K s = cmp_Or_int_p1.dec (regsOf (cmp_Or_int_p1.slots s) r) K by kernel_rfl) h

def cmp_Or_int_p2 : Point (Int × (Option Addr) × Nat × Nat × Int × Int) := { slots := fun s => [(3, (.int .i64 s.1)), (6, (.slice s.2.1 s.2.2.1 s.2.2.2.1)), (7, (.int .i64 s.2.2.2.2.1)), (8, (.int .i64 s.2.2.2.2.2))], dec := fun r K => mInt .i64 (r 3) fun x => mSlice (r 6) fun x1 x2 x3 => mInt .i64 (r 7) fun x4 => mInt .i64 (r 8) fun x5 => K (x, x1, x2, x3, x4, x5) }
theorem cmp_Or_int_p2_ok : cmp_Or_int_p2.ok := by
  intro r K h
  unfold cmp_Or_int_p2 at h
  obtain ⟨x, e0, h⟩ := mInt_elim h
  obtain ⟨x1, x2, x3, e1, h⟩ := mSlice_elim h
  obtain ⟨x4, e2, h⟩ := mInt_elim h
  obtain ⟨x5, e3, h⟩ := mInt_elim h
  exact ⟨(x, x1, x2, x3, x4, x5), regsOf_self (L := [(3, (.int .i64 x)), (6, (.slice x1 x2 x3)), (7, (.int .i64 x4)), (8, (.int .i64 x5))]) (List.forall_mem_cons.2 ⟨e0, List.forall_mem_cons.2 ⟨e1, List.forall_mem_cons.2 ⟨e2, List.forall_mem_cons.2 ⟨e3, List.forall_mem_nil _⟩⟩⟩⟩), h⟩
theorem cmp_Or_int_p2_re (s : Int × (Option Addr) × Nat × Nat × Int × Int) (r : Regs) (K : (Int × (Option Addr) × Nat × Nat × Int × Int) → Prop) (h : K s) : cmp_Or_int_p2.dec (regsOf (cmp_Or_int_p2.slots s) r) K := by
  obtain ⟨x6, x7, x8, x9, x10, x11⟩ := s
  exact cast (show K (x6, x7, x8, x9, x10, x11) = cmp_Or_int_p2.dec (regsOf (cmp_Or_int_p2.slots (x6, x7, x8, x9, x10, x11)) r) K by kernel_rfl) h

theorem cmp_Or_int_sound (vals : Option Addr) (vals_n : Nat) (vals_c : Nat) (R : Value → World → Prop) (w : World) (h : cmp_Or_int_b4 vals vals_n vals_c R w) :
    CallR Tryd.prog fn_cmp_Or_int #[(.slice vals vals_n vals_c)] w R := by
  refine CallR_intro (args := [(.slice vals vals_n vals_c)]) Tryd.func31 rfl (Nat.le_of_ble_eq_true (by kernel_rfl)) ?_
  refine Wp_glue cmp_Or_int_p0 (fun s w => cmp_Or_int_b3 s.1 s.2.1 s.2.2.1 s.2.2.2 R w) [_, _] (Q0 := fun e _ r w => match e with | .normal => cmp_Or_int_p0.dec r (fun s => cmp_Or_int_b3 s.1 s.2.1 s.2.2.1 s.2.2.2 R w) | .exit _ => False | .ret => retQ Tryd.prog Tryd.f31.results R .ret [] r w | _ => False) h (by kernel_rfl) (fun s r w h => ?_) cmp_Or_int_p0_ok (fun _ _ _ h => h) ?_
  · obtain ⟨vals1, vals_n1, vals_c1, zero⟩ := s
    have h : cmp_Or_int_b3 vals1 vals_n1 vals_c1 zero R w := h
    refine Wp_seq_via cmp_Or_int_p1 (fun s w => cmp_Or_int_b0 s R w) (fun s r w h => ?_) (fun hN1 => ?_)
    · obtain ⟨zero3, rfl⟩ : ∃ y, y = s := ⟨s, rfl⟩
      have h : cmp_Or_int_b0 zero3 R w := h
      refine Wp_leaf_end (Q0 := fun e _ r w => match e with | .normal => retQ Tryd.prog Tryd.f31.results R .normal [] r w | .exit _ => False | .ret => retQ Tryd.prog Tryd.f31.results R .ret [] r w | _ => False) h (by kernel_rfl) ?_
      intro e _ r w h
      cases e with
      | normal => exact h
      | exit i => exact h.elim
      | ret => exact h
      | goto i => exact h.elim
      | panic c => exact h.elim
      | outgrown => exact h.elim
    · refine Wp_glue cmp_Or_int_p2 (fun s w => cmp_Or_int_b2 s.1 s.2.1 s.2.2.1 s.2.2.2.1 s.2.2.2.2.1 s.2.2.2.2.2 R w) [_] (Q0 := fun e _ r w => match e with | .normal => cmp_Or_int_p2.dec r (fun s => cmp_Or_int_b2 s.1 s.2.1 s.2.2.1 s.2.2.2.1 s.2.2.2.2.1 s.2.2.2.2.2 R w) | .exit _ => False | .ret => retQ Tryd.prog Tryd.f31.results R .ret [] r w | _ => False) h (by kernel_rfl) (fun s r w h => ?_) cmp_Or_int_p2_ok (fun _ _ _ h => h) ?_
      · obtain ⟨zero1, t6, t6_n, t6_c, t7, t8⟩ := s
        have h : cmp_Or_int_b2 zero1 t6 t6_n t6_c t7 t8 R w := h
        refine Wp_block_via cmp_Or_int_p1 (fun s w => cmp_Or_int_b0 s R w) hN1 (fun hX2 => ?_)
        refine Wp_loop (p := cmp_Or_int_p2) cmp_Or_int_p2_ok (fun s r w K0 h => ?_) h
        obtain ⟨zero2, t61, t6_n1, t6_c1, t71, t81⟩ := s
        have h : cmp_Or_int_b1 zero2 t61 t6_n1 t6_c1 t71 t81 K0 R w := h
        have hK3 := fun (s : Int × (Option Addr) × Nat × Nat × Int × Int) (r : Regs) (w : World) (h : K0 s w) => cmp_Or_int_p2_re s r (fun s => K0 s w) h
        refine Wp_leaf_end (Q0 := fun e _ r w => match e with | .normal => cmp_Or_int_p2.dec r (fun s => K0 s w) | .exit i => exitQ i 0 (cmp_Or_int_p1.dec r (fun s => cmp_Or_int_b0 s R w)) (False) | .ret => retQ Tryd.prog Tryd.f31.results R .ret [] r w | _ => False) h (by kernel_rfl) ?_
        intro e _ r w h
        cases e with
        | normal =>
          obtain ⟨s, hs, h⟩ := cmp_Or_int_p2_ok _ _ h
          rw [← hs]
          exact hK3 s r w h
        | exit i =>
          rcases exitQ_elim h with ⟨rfl, h⟩ | ⟨_, h⟩
          · obtain ⟨s, hs, h⟩ := cmp_Or_int_p1_ok _ _ h
            rw [← hs]
            exact hX2 s r w h
          exact h.elim
        | ret => exact h
        | goto i => exact h.elim
        | panic c => exact h.elim
        | outgrown => exact h.elim
      · intro e _ r w hne h
        cases e with
        | normal => exact absurd rfl hne
        | exit i => exact h.elim
        | ret => exact h
        | goto i => exact h.elim
        | panic c => exact h.elim
        | outgrown => exact h.elim
  · intro e _ r w hne h
    cases e with
    | normal => exact absurd rfl hne
    | exit i => exact h.elim
    | ret => exact h
    | goto i => exact h.elim
    | panic c => exact h.elim
    | outgrown => exact h.elim

/- cmp.Or[uint64] -/
def cmp_Or_uint64_b0 (zero3 : Int) (R : Value → World → Prop) (w : World) : Prop :=
  R (.int .u64 zero3) w

def cmp_Or_uint64_b1 (zero2 : Int) (t61 : Option Addr) (t6_n1 : Nat) (t6_c1 : Nat) (t71 : Int) (t81 : Int) (K0 : (Int × (Option Addr) × Nat × Nat × Int × Int) → World → Prop) (R : Value → World → Prop) (w : World) : Prop :=
  Br (decide (t81 < t71)) (
  IX t61 t6_n1 t81 1 fun a =>
  LDI .u64 w a fun v =>
  Br (v != zero2) (
  R (.int .u64 v) w) (
  K0 (zero2, t61, t6_n1, t6_c1, t71, IntKind.wrap .i64 (t81 + 1)) w)) (
  cmp_Or_uint64_b0 zero2 R w)

def cmp_Or_uint64_b2 (zero1 : Int) (t6 : Option Addr) (t6_n : Nat) (t6_c : Nat) (t7 : Int) (t8 : Int) (R : Value → World → Prop) (w : World) : Prop :=
  LoopS (σ := Int × (Option Addr) × Nat × Nat × Int × Int) (fun s w K0 =>
  cmp_Or_uint64_b1 s.1 s.2.1 s.2.2.1 s.2.2.2.1 s.2.2.2.2.1 s.2.2.2.2.2 K0 R w) (zero1, t6, t6_n, t6_c, t7, t8) w

def cmp_Or_uint64_b3 (vals1 : Option Addr) (vals_n1 : Nat) (vals_c1 : Nat) (zero : Int) (R : Value → World → Prop) (w : World) : Prop :=
  cmp_Or_uint64_b2 zero vals1 vals_n1 vals_c1 (vals_n1 : Int) 0 R w

def cmp_Or_uint64_b4 (vals : Option Addr) (vals_n : Nat) (vals_c : Nat) (R : Value → World → Prop) (w : World) : Prop :=
  cmp_Or_uint64_b3 vals vals_n vals_c 0 R w

def cmp_Or_uint64_p0 : Point ((Option Addr) × Nat × Nat × Int) := { slots := fun s => [(0, (.slice s.1 s.2.1 s.2.2.1)), (3, (.int .u64 s.2.2.2))], dec := fun r K => mSlice (r 0) fun x x1 x2 => mInt .u64 (r 3) fun x3 => K (x, x1, x2, x3) }
theorem cmp_Or_uint64_p0_ok : cmp_Or_uint64_p0.ok := by
  intro r K h
  unfold cmp_Or_uint64_p0 at h
  obtain ⟨x, x1, x2, e0, h⟩ := mSlice_elim h
  obtain ⟨x3, e1, h⟩ := mInt_elim h
  exact ⟨(x, x1, x2, x3), regsOf_self (L := [(0, (.slice x x1 x2)), (3, (.int .u64 x3))]) (List.forall_mem_cons.2 ⟨e0, List.forall_mem_cons.2 ⟨e1, List.forall_mem_nil _⟩⟩), h⟩
theorem cmp_Or_uint64_p0_re (s : (Option Addr) × Nat × Nat × Int) (r : Regs) (K : ((Option Addr) × Nat × Nat × Int) → Prop) (h : K s) : cmp_Or_uint64_p0.dec (regsOf (cmp_Or_uint64_p0.slots s) r) K := by
  obtain ⟨x4, x5, x6, x7⟩ := s
  exact cast (show K (x4, x5, x6, x7) = cmp_Or_uint64_p0.dec (regsOf (cmp_Or_uint64_p0.slots (x4, x5, x6, x7)) r) K by kernel_rfl) h

def cmp_Or_uint64_p1 : Point (Int) := { slots := fun s => [(3, (.int .u64 s))], dec := fun r K => mInt .u64 (r 3) fun x => K x }
theorem cmp_Or_uint64_p1_ok : cmp_Or_uint64_p1.ok := by
  intro r K h
  unfold cmp_Or_uint64_p1 at h
  obtain ⟨x, e0, h⟩ := mInt_elim h
  exact ⟨x, regsOf_self (L := [(3, (.int .u64 x))]) (List.forall_mem_cons.2 ⟨e0, List.forall_mem_nil _⟩), h⟩
theorem cmp_Or_uint64_p1_re (s : Int) (r : Regs) (K : Int → Prop) (h : K s) : cmp_Or_uint64_p1.dec (regsOf (cmp_Or_uint64_p1.slots s) r) K := by
  exact cast (show K s = cmp_Or_uint64_p1.dec (regsOf (cmp_Or_uint64_p1.slots s) r) K by kernel_rfl) h

def cmp_Or_uint64_p2 : Point (Int × (Option Addr) × Nat × Nat × Int × Int) := { slots := fun s => [(3, (.int .u64 s.1)), (6, (.slice s.2.1 s.2.2.1 s.2.2.2.1)), (7, (.int .i64 s.2.2.2.2.1)), (8, (.int .i64 s.2.2.2.2.2))], dec := fun r K => mInt .u64 (r 3) fun x => mSlice (r 6) fun x1 x2 x3 => mInt .i64 (r 7) fun x4 => mInt .i64 (r 8) fun x5 => K (x, x1, x2, x3, x4, x5) }
theorem cmp_Or_uint64_p2_ok : cmp_Or_uint64_p2.ok := by
  intro r K h
  unfold cmp_Or_uint64_p2 at h
  obtain ⟨x, e0, h⟩ := mInt_elim h
  obtain ⟨x1, x2, x3, e1, h⟩ := mSlice_elim h
  obtain ⟨x4, e2, h⟩ := mInt_elim h
  obtain ⟨x5, e3, h⟩ := mInt_elim h
  exact ⟨(x, x1, x2, x3, x4, x5), regsOf_self (L := [(3, (.int .u64 x)), (6, (.slice x1 x2 x3)), (7, (.int .i64 x4)), (8, (.int .i64 x5))]) (List.forall_mem_cons.2 ⟨e0, List.forall_mem_cons.2 ⟨e1, List.forall_mem_cons.2 ⟨e2, List.forall_mem_cons.2 ⟨e3, List.forall_mem_nil _⟩⟩⟩⟩), h⟩
theorem cmp_Or_uint64_p2_re (s : Int × (Option Addr) × Nat × Nat × Int × Int) (r : Regs) (K : (Int × (Option Addr) × Nat × Nat × Int × Int) → Prop) (h : K s) : cmp_Or_uint64_p2.dec (regsOf (cmp_Or_uint64_p2.slots s) r) K := by
  obtain ⟨x6, x7, x8, x9, x10, x11⟩ := s
  exact cast (show K (x6, x7, x8, x9, x10, x11) = cmp_Or_uint64_p2.dec (regsOf (cmp_Or_uint64_p2.slots (x6, x7, x8, x9, x10, x11)) r) K by kernel_rfl) h

theorem cmp_Or_uint64_sound (vals : Option Addr) (vals_n : Nat) (vals_c : Nat) (R : Value → World → Prop) (w : World) (h : cmp_Or_uint64_b4 vals vals_n vals_c R w) :
    CallR Tryd.prog fn_cmp_Or_uint64 #[(.slice vals vals_n vals_c)] w R := by
  refine CallR_intro (args := [(.slice vals vals_n vals_c)]) Tryd.func54 rfl (Nat.le_of_ble_eq_true (by kernel_rfl)) ?_
  refine Wp_glue cmp_Or_uint64_p0 (fun s w => cmp_Or_uint64_b3 s.1 s.2.1 s.2.2.1 s.2.2.2 R w) [_, _] (Q0 := fun e _ r w => match e with | .normal => cmp_Or_uint64_p0.dec r (fun s => cmp_Or_uint64_b3 s.1 s.2.1 s.2.2.1 s.2.2.2 R w) | .exit _ => False | .ret => retQ Tryd.prog Tryd.f54.results R .ret [] r w | _ => False) h (by kernel_rfl) (fun s r w h => ?_) cmp_Or_uint64_p0_ok (fun _ _ _ h => h) ?_
  · obtain ⟨vals1, vals_n1, vals_c1, zero⟩ := s
    have h : cmp_Or_uint64_b3 vals1 vals_n1 vals_c1 zero R w := h
    refine Wp_seq_via cmp_Or_uint64_p1 (fun s w => cmp_Or_uint64_b0 s R w) (fun s r w h => ?_) (fun hN1 => ?_)
    · obtain ⟨zero3, rfl⟩ : ∃ y, y = s := ⟨s, rfl⟩
      have h : cmp_Or_uint64_b0 zero3 R w := h
      refine Wp_leaf_end (Q0 := fun e _ r w => match e with | .normal => retQ Tryd.prog Tryd.f54.results R .normal [] r w | .exit _ => False | .ret => retQ Tryd.prog Tryd.f54.results R .ret [] r w | _ => False) h (by kernel_rfl) ?_
      intro e _ r w h
      cases e with
      | normal => exact h
      | exit i => exact h.elim
      | ret => exact h
      | goto i => exact h.elim
      | panic c => exact h.elim
      | outgrown => exact h.elim
    · refine Wp_glue cmp_Or_uint64_p2 (fun s w => cmp_Or_uint64_b2 s.1 s.2.1 s.2.2.1 s.2.2.2.1 s.2.2.2.2.1 s.2.2.2.2.2 R w) [_] (Q0 := fun e _ r w => match e with | .normal => cmp_Or_uint64_p2.dec r (fun s => cmp_Or_uint64_b2 s.1 s.2.1 s.2.2.1 s.2.2.2.1 s.2.2.2.2.1 s.2.2.2.2.2 R w) | .exit _ => False | .ret => retQ Tryd.prog Tryd.f54.results R .ret [] r w | _ => False) h (by kernel_rfl) (fun s r w h => ?_) cmp_Or_uint64_p2_ok (fun _ _ _ h => h) ?_
      · obtain ⟨zero1, t6, t6_n, t6_c, t7, t8⟩ := s
        have h : cmp_Or_uint64_b2 zero1 t6 t6_n t6_c t7 t8 R w := h
        refine Wp_block_via cmp_Or_uint64_p1 (fun s w => cmp_Or_uint64_b0 s R w) hN1 (fun hX2 => ?_)
        refine Wp_loop (p := cmp_Or_uint64_p2) cmp_Or_uint64_p2_ok (fun s r w K0 h => ?_) h
        obtain ⟨zero2, t61, t6_n1, t6_c1, t71, t81⟩ := s
        have h : cmp_Or_uint64_b1 zero2 t61 t6_n1 t6_c1 t71 t81 K0 R w := h
        have hK3 := fun (s : Int × (Option Addr) × Nat × Nat × Int × Int) (r : Regs) (w : World) (h : K0 s w) => cmp_Or_uint64_p2_re s r (fun s => K0 s w) h
        refine Wp_leaf_end (Q0 := fun e _ r w => match e with | .normal => cmp_Or_uint64_p2.dec r (fun s => K0 s w) | .exit i => exitQ i 0 (cmp_Or_uint64_p1.dec r (fun s => cmp_Or_uint64_b0 s R w)) (False) | .ret => retQ Tryd.prog Tryd.f54.results R .ret [] r w | _ => False) h (by kernel_rfl) ?_
        intro e _ r w h
        cases e with
        | normal =>
          obtain ⟨s, hs, h⟩ := cmp_Or_uint64_p2_ok _ _ h
          rw [← hs]
          exact hK3 s r w h
        | exit i =>
          rcases exitQ_elim h with ⟨rfl, h⟩ | ⟨_, h⟩
          · obtain ⟨s, hs, h⟩ := cmp_Or_uint64_p1_ok _ _ h
            rw [← hs]
            exact hX2 s r w h
          exact h.elim
        | ret => exact h
        | goto i => exact h.elim
        | panic c => exact h.elim
        | outgrown => exact h.elim
      · intro e _ r w hne h
        cases e with
        | normal => exact absurd rfl hne
        | exit i => exact h.elim
        | ret => exact h
        | goto i => exact h.elim
        | panic c => exact h.elim
        | outgrown => exact h.elim
  · intro e _ r w hne h
    cases e with
    | normal => exact absurd rfl hne
    | exit i => exact h.elim
    | ret => exact h
    | goto i => exact h.elim
    | panic c => exact h.elim
    | outgrown => exact h.elim

/- glacier/manifest.Compare -/
def manifest_Compare_b0 (a_File : Int) (a_Level : Int) (a_First : ByteArray) (a_Last : ByteArray) (a_Size : Int) (b_File : Int) (b_Level : Int) (b_First : ByteArray) (b_Last : ByteArray) (b_Size : Int) (R : Value → World → Prop) (w : World) : Prop :=
  AL w (.cells #[(.int .i64 a_File), (.int .i64 a_Level), (.string a_First), (.string a_Last), (.int .i64 a_Size)] 38) fun a w_ =>
  AL w_ (.cells #[(.int .i64 b_File), (.int .i64 b_Level), (.string b_First), (.string b_Last), (.int .i64 b_Size)] 38) fun b w_1 =>
  LetW (World.drew w_1) fun w_2 =>
  LDI .i64 w_2 (Addr.add a 1) fun v =>
  LDI .i64 w_2 (Addr.add b 1) fun v1 =>
  LDS w_2 (Addr.add a 2) fun v2 =>
  LDS w_2 (Addr.add b 2) fun v3 =>
  LDI .i64 w_2 a fun v4 =>
  LDI .i64 w_2 b fun v5 =>
  CallR Tryd.prog fn_cmp_Compare_int #[(.int .i64 v), (.int .i64 v1)] w_2 fun res w_3 =>
  mInt .i64 res fun v6 =>
  (World.cell? w_3 b = some (.int .i64 v5) ∧ 
  (World.cell? w_3 a = some (.int .i64 v4) ∧ 
  (World.cell? w_3 (Addr.add b 2) = some (.string v3) ∧ 
  (World.cell? w_3 (Addr.add a 2) = some (.string v2) ∧ 
  CallR Tryd.prog fn_cmp_Compare_string #[(.string v2), (.string v3)] w_3 fun res1 w_4 =>
  mInt .i64 res1 fun v7 =>
  (World.cell? w_4 b = some (.int .i64 v5) ∧ 
  (World.cell? w_4 a = some (.int .i64 v4) ∧ 
  CallR Tryd.prog fn_cmp_Compare_int #[(.int .i64 v4), (.int .i64 v5)] w_4 fun res2 w_5 =>
  mInt .i64 res2 fun v8 =>
  AL w_5 (.cells #[(.int .i64 v6), (.int .i64 v7), (.int .i64 v8)] 3) fun b1 w_6 =>
  CallR Tryd.prog fn_cmp_Or_int #[(.slice (some b1) 3 3)] w_6 fun res3 w_7 =>
  mInt .i64 res3 fun v9 =>
  R (.int .i64 v9) w_7))))))

theorem manifest_Compare_sound (a_File : Int) (a_Level : Int) (a_First : ByteArray) (a_Last : ByteArray) (a_Size : Int) (b_File : Int) (b_Level : Int) (b_First : ByteArray) (b_Last : ByteArray) (b_Size : Int) (R : Value → World → Prop) (w : World) (h : manifest_Compare_b0 a_File a_Level a_First a_Last a_Size b_File b_Level b_First b_Last b_Size R w) :
    CallR Tryd.prog fn_manifest_Compare #[(.agg #[(.int .i64 a_File), (.int .i64 a_Level), (.string a_First), (.string a_Last), (.int .i64 a_Size)]), (.agg #[(.int .i64 b_File), (.int .i64 b_Level), (.string b_First), (.string b_Last), (.int .i64 b_Size)])] w R := by
  refine CallR_intro (args := [(.agg #[(.int .i64 a_File), (.int .i64 a_Level), (.string a_First), (.string a_Last), (.int .i64 a_Size)]), (.agg #[(.int .i64 b_File), (.int .i64 b_Level), (.string b_First), (.string b_Last), (.int .i64 b_Size)])]) Tryd.func11 rfl (Nat.le_of_ble_eq_true (by kernel_rfl)) ?_
  refine Wp_leaf_end (Q0 := fun e _ r w => match e with | .normal => retQ Tryd.prog Tryd.f11.results R .normal [] r w | .exit _ => False | .ret => retQ Tryd.prog Tryd.f11.results R .ret [] r w | _ => False) h (by kernel_rfl) ?_
  intro e _ r w h
  cases e with
  | normal => exact h
  | exit i => exact h.elim
  | ret => exact h
  | goto i => exact h.elim
  | panic c => exact h.elim
  | outgrown => exact h.elim

/- slices.Clone[[]glacier/api.Table,glacier/api.Table] -/
def slices_Clone_s_api_Table_api_Table_b0 (s : Option Addr) (s_n : Nat) (s_c : Nat) (R : Value → World → Prop) (w : World) : Prop :=
  Br (Option.isNone s) (
  R (.slice none 0 0) w) (
  AL w (.cells #[] 38) fun b w_ =>
  rRun Tryd.prog (Builtin.append_ #[24, 24] 24 #[(.slice (some b) 0 0), (.slice s s_n s_c)]) w_ fun sr w_1 =>
  mSlice sr fun v v_n v_c =>
  R (.slice v v_n v_c) w_1)

theorem slices_Clone_s_api_Table_api_Table_sound (s : Option Addr) (s_n : Nat) (s_c : Nat) (R : Value → World → Prop) (w : World) (h : slices_Clone_s_api_Table_api_Table_b0 s s_n s_c R w) :
    CallR Tryd.prog fn_slices_Clone_s_api_Table_api_Table #[(.slice s s_n s_c)] w R := by
  refine CallR_intro (args := [(.slice s s_n s_c)]) Tryd.func47 rfl (Nat.le_of_ble_eq_true (by kernel_rfl)) ?_
  refine Wp_leaf_end (Q0 := fun e _ r w => match e with | .normal => retQ Tryd.prog Tryd.f47.results R .normal [] r w | .exit _ => False | .ret => retQ Tryd.prog Tryd.f47.results R .ret [] r w | _ => False) h (by kernel_rfl) ?_
  intro e _ r w h
  cases e with
  | normal => exact h
  | exit i => exact h.elim
  | ret => exact h
  | goto i => exact h.elim
  | panic c => exact h.elim
  | outgrown => exact h.elim

/- slices.IndexFunc[[]glacier/api.Table,glacier/api.Table] -/
def slices_IndexFunc_s_api_Table_api_Table_b0 (R : Value → World → Prop) (w : World) : Prop :=
  R (.int .i64 (-1)) w

def slices_IndexFunc_s_api_Table_api_Table_b1 (s3 : Option Addr) (s_n3 : Nat) (s_c3 : Nat) (f3 : Value) (t71 : Int) (t81 : Int) (K0 : ((Option Addr) × Nat × Nat × Value × Int × Int) → World → Prop) (R : Value → World → Prop) (w : World) : Prop :=
  Br (decide (t81 < t71)) (
  IX s3 s_n3 t81 5 fun a =>
  LDI .i64 w a fun File =>
  LDI .i64 w (Addr.add a 1) fun Level =>
  LDS w (Addr.add a 2) fun First =>
  LDS w (Addr.add a 3) fun Last =>
  LDI .i64 w (Addr.add a 4) fun Size =>
  CallV Tryd.prog f3 [(.agg #[(.int .i64 File), (.int .i64 Level), (.string First), (.string Last), (.int .i64 Size)])] w fun res w_ =>
  mBool res fun v =>
  Br v (
  R (.int .i64 t81) w_) (
  K0 (s3, s_n3, s_c3, f3, t71, IntKind.wrap .i64 (t81 + 1)) w_)) (
  slices_IndexFunc_s_api_Table_api_Table_b0 R w)

def slices_IndexFunc_s_api_Table_api_Table_b2 (s2 : Option Addr) (s_n2 : Nat) (s_c2 : Nat) (f2 : Value) (t7 : Int) (t8 : Int) (R : Value → World → Prop) (w : World) : Prop :=
  LoopS (σ := (Option Addr) × Nat × Nat × Value × Int × Int) (fun s w K0 =>
  slices_IndexFunc_s_api_Table_api_Table_b1 s.1 s.2.1 s.2.2.1 s.2.2.2.1 s.2.2.2.2.1 s.2.2.2.2.2 K0 R w) (s2, s_n2, s_c2, f2, t7, t8) w

def slices_IndexFunc_s_api_Table_api_Table_b3 (s1 : Option Addr) (s_n1 : Nat) (s_c1 : Nat) (f1 : Value) (R : Value → World → Prop) (w : World) : Prop :=
  slices_IndexFunc_s_api_Table_api_Table_b2 s1 s_n1 s_c1 f1 (s_n1 : Int) 0 R w

def slices_IndexFunc_s_api_Table_api_Table_b4 (s : Option Addr) (s_n : Nat) (s_c : Nat) (f : Value) (R : Value → World → Prop) (w : World) : Prop :=
  slices_IndexFunc_s_api_Table_api_Table_b3 s s_n s_c f R w

def slices_IndexFunc_s_api_Table_api_Table_p0 : Point ((Option Addr) × Nat × Nat × Value) := { slots := fun s => [(0, (.slice s.1 s.2.1 s.2.2.1)), (1, s.2.2.2)], dec := fun r K => mSlice (r 0) fun x x1 x2 => K (x, x1, x2, (r 1)) }
theorem slices_IndexFunc_s_api_Table_api_Table_p0_ok : slices_IndexFunc_s_api_Table_api_Table_p0.ok := by
  intro r K h
  unfold slices_IndexFunc_s_api_Table_api_Table_p0 at h
  obtain ⟨x, x1, x2, e0, h⟩ := mSlice_elim h
  exact ⟨(x, x1, x2, (r 1)), regsOf_self (L := [(0, (.slice x x1 x2)), (1, (r 1))]) (List.forall_mem_cons.2 ⟨e0, List.forall_mem_cons.2 ⟨rfl, List.forall_mem_nil _⟩⟩), h⟩
theorem slices_IndexFunc_s_api_Table_api_Table_p0_re (s : (Option Addr) × Nat × Nat × Value) (r : Regs) (K : ((Option Addr) × Nat × Nat × Value) → Prop) (h : K s) : slices_IndexFunc_s_api_Table_api_Table_p0.dec (regsOf (slices_IndexFunc_s_api_Table_api_Table_p0.slots s) r) K := by
  obtain ⟨x3, x4, x5, x6⟩ := s
  exact cast (show K (x3, x4, x5, x6) = slices_IndexFunc_s_api_Table_api_Table_p0.dec (regsOf (slices_IndexFunc_s_api_Table_api_Table_p0.slots (x3, x4, x5, x6)) r) K by kernel_rfl) h

def slices_IndexFunc_s_api_Table_api_Table_p1 : Point (Unit) := { slots := fun _ => [], dec := fun _ K => K () }
theorem slices_IndexFunc_s_api_Table_api_Table_p1_ok : slices_IndexFunc_s_api_Table_api_Table_p1.ok := by
  intro r K h
  unfold slices_IndexFunc_s_api_Table_api_Table_p1 at h
  exact ⟨(), regsOf_self (L := []) (List.forall_mem_nil _), h⟩
theorem slices_IndexFunc_s_api_Table_api_Table_p1_re (s : Unit) (r : Regs) (K : Unit → Prop) (h : K s) : slices_IndexFunc_s_api_Table_api_Table_p1.dec (regsOf (slices_IndexFunc_s_api_Table_api_Table_p1.slots s) r) K := by
  exact cast (show K () = slices_IndexFunc_s_api_Table_api_Table_p1.dec (regsOf (slices_IndexFunc_s_api_Table_api_Table_p1.slots ()) r) K by kernel_rfl) h

def slices_IndexFunc_s_api_Table_api_Table_p2 : Point ((Option Addr) × Nat × Nat × Value × Int × Int) := { slots := fun s => [(0, (.slice s.1 s.2.1 s.2.2.1)), (1, s.2.2.2.1), (7, (.int .i64 s.2.2.2.2.1)), (8, (.int .i64 s.2.2.2.2.2))], dec := fun r K => mSlice (r 0) fun x x1 x2 => mInt .i64 (r 7) fun x3 => mInt .i64 (r 8) fun x4 => K (x, x1, x2, (r 1), x3, x4) }
theorem slices_IndexFunc_s_api_Table_api_Table_p2_ok : slices_IndexFunc_s_api_Table_api_Table_p2.ok := by
  intro r K h
  unfold slices_IndexFunc_s_api_Table_api_Table_p2 at h
  obtain ⟨x, x1, x2, e0, h⟩ := mSlice_elim h
  obtain ⟨x3, e2, h⟩ := mInt_elim h
  obtain ⟨x4, e3, h⟩ := mInt_elim h
  exact ⟨(x, x1, x2, (r 1), x3, x4), regsOf_self (L := [(0, (.slice x x1 x2)), (1, (r 1)), (7, (.int .i64 x3)), (8, (.int .i64 x4))]) (List.forall_mem_cons.2 ⟨e0, List.forall_mem_cons.2 ⟨rfl, List.forall_mem_cons.2 ⟨e2, List.forall_mem_cons.2 ⟨e3, List.forall_mem_nil _⟩⟩⟩⟩), h⟩
theorem slices_IndexFunc_s_api_Table_api_Table_p2_re (s : (Option Addr) × Nat × Nat × Value × Int × Int) (r : Regs) (K : ((Option Addr) × Nat × Nat × Value × Int × Int) → Prop) (h : K s) : slices_IndexFunc_s_api_Table_api_Table_p2.dec (regsOf (slices_IndexFunc_s_api_Table_api_Table_p2.slots s) r) K := by
  obtain ⟨x5, x6, x7, x8, x9, x10⟩ := s
  exact cast (show K (x5, x6, x7, x8, x9, x10) = slices_IndexFunc_s_api_Table_api_Table_p2.dec (regsOf (slices_IndexFunc_s_api_Table_api_Table_p2.slots (x5, x6, x7, x8, x9, x10)) r) K by kernel_rfl) h

theorem slices_IndexFunc_s_api_Table_api_Table_sound (s : Option Addr) (s_n : Nat) (s_c : Nat) (f : Value) (R : Value → World → Prop) (w : World) (h : slices_IndexFunc_s_api_Table_api_Table_b4 s s_n s_c f R w) :
    CallR Tryd.prog fn_slices_IndexFunc_s_api_Table_api_Table #[(.slice s s_n s_c), f] w R := by
  refine CallR_intro (args := [(.slice s s_n s_c), f]) Tryd.func72 rfl (Nat.le_of_ble_eq_true (by kernel_rfl)) ?_
  refine Wp_glue slices_IndexFunc_s_api_Table_api_Table_p0 (fun s w => slices_IndexFunc_s_api_Table_api_Table_b3 s.1 s.2.1 s.2.2.1 s.2.2.2 R w) [_] (Q0 := fun e _ r w => match e with | .normal => slices_IndexFunc_s_api_Table_api_Table_p0.dec r (fun s => slices_IndexFunc_s_api_Table_api_Table_b3 s.1 s.2.1 s.2.2.1 s.2.2.2 R w) | .exit _ => False | .ret => retQ Tryd.prog Tryd.f72.results R .ret [] r w | _ => False) h (by kernel_rfl) (fun s r w h => ?_) slices_IndexFunc_s_api_Table_api_Table_p0_ok (fun _ _ _ h => h) ?_
  · obtain ⟨s1, s_n1, s_c1, f1⟩ := s
    have h : slices_IndexFunc_s_api_Table_api_Table_b3 s1 s_n1 s_c1 f1 R w := h
    refine Wp_seq_via slices_IndexFunc_s_api_Table_api_Table_p1 (fun _ w => slices_IndexFunc_s_api_Table_api_Table_b0 R w) (fun s r w h => ?_) (fun hN1 => ?_)
    · cases s
      have h : slices_IndexFunc_s_api_Table_api_Table_b0 R w := h
      refine Wp_leaf_end (Q0 := fun e _ r w => match e with | .normal => retQ Tryd.prog Tryd.f72.results R .normal [] r w | .exit _ => False | .ret => retQ Tryd.prog Tryd.f72.results R .ret [] r w | _ => False) h (by kernel_rfl) ?_
      intro e _ r w h
      cases e with
      | normal => exact h
      | exit i => exact h.elim
      | ret => exact h
      | goto i => exact h.elim
      | panic c => exact h.elim
      | outgrown => exact h.elim
    · refine Wp_glue slices_IndexFunc_s_api_Table_api_Table_p2 (fun s w => slices_IndexFunc_s_api_Table_api_Table_b2 s.1 s.2.1 s.2.2.1 s.2.2.2.1 s.2.2.2.2.1 s.2.2.2.2.2 R w) [_] (Q0 := fun e _ r w => match e with | .normal => slices_IndexFunc_s_api_Table_api_Table_p2.dec r (fun s => slices_IndexFunc_s_api_Table_api_Table_b2 s.1 s.2.1 s.2.2.1 s.2.2.2.1 s.2.2.2.2.1 s.2.2.2.2.2 R w) | .exit _ => False | .ret => retQ Tryd.prog Tryd.f72.results R .ret [] r w | _ => False) h (by kernel_rfl) (fun s r w h => ?_) slices_IndexFunc_s_api_Table_api_Table_p2_ok (fun _ _ _ h => h) ?_
      · obtain ⟨s2, s_n2, s_c2, f2, t7, t8⟩ := s
        have h : slices_IndexFunc_s_api_Table_api_Table_b2 s2 s_n2 s_c2 f2 t7 t8 R w := h
        refine Wp_block_via slices_IndexFunc_s_api_Table_api_Table_p1 (fun _ w => slices_IndexFunc_s_api_Table_api_Table_b0 R w) hN1 (fun hX2 => ?_)
        refine Wp_loop (p := slices_IndexFunc_s_api_Table_api_Table_p2) slices_IndexFunc_s_api_Table_api_Table_p2_ok (fun s r w K0 h => ?_) h
        obtain ⟨s3, s_n3, s_c3, f3, t71, t81⟩ := s
        have h : slices_IndexFunc_s_api_Table_api_Table_b1 s3 s_n3 s_c3 f3 t71 t81 K0 R w := h
        have hK3 := fun (s : (Option Addr) × Nat × Nat × Value × Int × Int) (r : Regs) (w : World) (h : K0 s w) => slices_IndexFunc_s_api_Table_api_Table_p2_re s r (fun s => K0 s w) h
        refine Wp_leaf_end (Q0 := fun e _ r w => match e with | .normal => slices_IndexFunc_s_api_Table_api_Table_p2.dec r (fun s => K0 s w) | .exit i => exitQ i 0 (slices_IndexFunc_s_api_Table_api_Table_p1.dec r (fun _ => slices_IndexFunc_s_api_Table_api_Table_b0 R w)) (False) | .ret => retQ Tryd.prog Tryd.f72.results R .ret [] r w | _ => False) h (by kernel_rfl) ?_
        intro e _ r w h
        cases e with
        | normal =>
          obtain ⟨s, hs, h⟩ := slices_IndexFunc_s_api_Table_api_Table_p2_ok _ _ h
          rw [← hs]
          exact hK3 s r w h
        | exit i =>
          rcases exitQ_elim h with ⟨rfl, h⟩ | ⟨_, h⟩
          · obtain ⟨s, hs, h⟩ := slices_IndexFunc_s_api_Table_api_Table_p1_ok _ _ h
            rw [← hs]
            exact hX2 s r w h
          exact h.elim
        | ret => exact h
        | goto i => exact h.elim
        | panic c => exact h.elim
        | outgrown => exact h.elim
      · intro e _ r w hne h
        cases e with
        | normal => exact absurd rfl hne
        | exit i => exact h.elim
        | ret => exact h
        | goto i => exact h.elim
        | panic c => exact h.elim
        | outgrown => exact h.elim
  · intro e _ r w hne h
    cases e with
    | normal => exact absurd rfl hne
    | exit i => exact h.elim
    | ret => exact h
    | goto i => exact h.elim
    | panic c => exact h.elim
    | outgrown => exact h.elim

/- slices.ContainsFunc[[]glacier/api.Table,glacier/api.Table] -/
def slices_ContainsFunc_s_api_Table_api_Table_b0 (s : Option Addr) (s_n : Nat) (s_c : Nat) (f : Value) (R : Value → World → Prop) (w : World) : Prop :=
  CallR Tryd.prog fn_slices_IndexFunc_s_api_Table_api_Table #[(.slice s s_n s_c), f] w fun res w_ =>
  mInt .i64 res fun v =>
  R (.bool (decide (v ≥ 0))) w_

theorem slices_ContainsFunc_s_api_Table_api_Table_sound (s : Option Addr) (s_n : Nat) (s_c : Nat) (f : Value) (R : Value → World → Prop) (w : World) (h : slices_ContainsFunc_s_api_Table_api_Table_b0 s s_n s_c f R w) :
    CallR Tryd.prog fn_slices_ContainsFunc_s_api_Table_api_Table #[(.slice s s_n s_c), f] w R := by
  refine CallR_intro (args := [(.slice s s_n s_c), f]) Tryd.func69 rfl (Nat.le_of_ble_eq_true (by kernel_rfl)) ?_
  refine Wp_leaf_end (Q0 := fun e _ r w => match e with | .normal => retQ Tryd.prog Tryd.f69.results R .normal [] r w | .exit _ => False | .ret => retQ Tryd.prog Tryd.f69.results R .ret [] r w | _ => False) h (by kernel_rfl) ?_
  intro e _ r w h
  cases e with
  | normal => exact h
  | exit i => exact h.elim
  | ret => exact h
  | goto i => exact h.elim
  | panic c => exact h.elim
  | outgrown => exact h.elim

/- glacier/manifest.has$1 -/
def manifest_has_1_b0 (t_File : Int) (t_Level : Int) (t_First : ByteArray) (t_Last : ByteArray) (t_Size : Int) (cap : Addr) (R : Value → World → Prop) (w : World) : Prop :=
  AL w (.cells #[(.int .i64 t_File), (.int .i64 t_Level), (.string t_First), (.string t_Last), (.int .i64 t_Size)] 38) fun t w_ =>
  LDI .i64 w_ t fun v =>
  LDI .i64 w_ cap fun v1 =>
  R (.bool (v == v1)) w_

theorem manifest_has_1_sound (t_File : Int) (t_Level : Int) (t_First : ByteArray) (t_Last : ByteArray) (t_Size : Int) (cap : Addr) (R : Value → World → Prop) (w : World) (h : manifest_has_1_b0 t_File t_Level t_First t_Last t_Size cap R w) :
    CallR Tryd.prog fn_manifest_has_1 #[(.agg #[(.int .i64 t_File), (.int .i64 t_Level), (.string t_First), (.string t_Last), (.int .i64 t_Size)]), (.pointer (some cap))] w R := by
  refine CallR_intro (args := [(.agg #[(.int .i64 t_File), (.int .i64 t_Level), (.string t_First), (.string t_Last), (.int .i64 t_Size)]), (.pointer (some cap))]) Tryd.func70 rfl (Nat.le_of_ble_eq_true (by kernel_rfl)) ?_
  refine Wp_leaf_end (Q0 := fun e _ r w => match e with | .normal => retQ Tryd.prog Tryd.f70.results R .normal [] r w | .exit _ => False | .ret => retQ Tryd.prog Tryd.f70.results R .ret [] r w | _ => False) h (by kernel_rfl) ?_
  intro e _ r w h
  cases e with
  | normal => exact h
  | exit i => exact h.elim
  | ret => exact h
  | goto i => exact h.elim
  | panic c => exact h.elim
  | outgrown => exact h.elim

/- glacier/manifest.has -/
def manifest_has_b0 (l : Option Addr) (l_n : Nat) (l_c : Nat) (file : Int) (R : Value → World → Prop) (w : World) : Prop :=
  AL w (.cells #[(.int .i64 file)] 3) fun file1 w_ =>
  CallR Tryd.prog fn_slices_ContainsFunc_s_api_Table_api_Table #[(.slice l l_n l_c), (.func (.func fn_manifest_has_1) #[] #[(.pointer (some file1))])] w_ fun res w_1 =>
  mBool res fun v =>
  R (.bool v) w_1

theorem manifest_has_sound (l : Option Addr) (l_n : Nat) (l_c : Nat) (file : Int) (R : Value → World → Prop) (w : World) (h : manifest_has_b0 l l_n l_c file R w) :
    CallR Tryd.prog fn_manifest_has #[(.slice l l_n l_c), (.int .i64 file)] w R := by
  refine CallR_intro (args := [(.slice l l_n l_c), (.int .i64 file)]) Tryd.func48 rfl (Nat.le_of_ble_eq_true (by kernel_rfl)) ?_
  refine Wp_leaf_end (Q0 := fun e _ r w => match e with | .normal => retQ Tryd.prog Tryd.f48.results R .normal [] r w | .exit _ => False | .ret => retQ Tryd.prog Tryd.f48.results R .ret [] r w | _ => False) h (by kernel_rfl) ?_
  intro e _ r w h
  cases e with
  | normal => exact h
  | exit i => exact h.elim
  | ret => exact h
  | goto i => exact h.elim
  | panic c => exact h.elim
  | outgrown => exact h.elim

/- slices.Index[[]int,int] -/
def slices_Index_s_int_int_b0 (R : Value → World → Prop) (w : World) : Prop :=
  R (.int .i64 (-1)) w

def slices_Index_s_int_int_b1 (s3 : Option Addr) (s_n3 : Nat) (s_c3 : Nat) (t12 : Int) (t71 : Int) (t81 : Int) (K0 : ((Option Addr) × Nat × Nat × Int × Int × Int) → World → Prop) (R : Value → World → Prop) (w : World) : Prop :=
  Br (decide (t81 < t71)) (
  IX s3 s_n3 t81 1 fun a =>
  LDI .i64 w a fun v1 =>
  Br (t12 == v1) (
  R (.int .i64 t81) w) (
  K0 (s3, s_n3, s_c3, t12, t71, IntKind.wrap .i64 (t81 + 1)) w)) (
  slices_Index_s_int_int_b0 R w)

def slices_Index_s_int_int_b2 (s2 : Option Addr) (s_n2 : Nat) (s_c2 : Nat) (t11 : Int) (t7 : Int) (t8 : Int) (R : Value → World → Prop) (w : World) : Prop :=
  LoopS (σ := (Option Addr) × Nat × Nat × Int × Int × Int) (fun s w K0 =>
  slices_Index_s_int_int_b1 s.1 s.2.1 s.2.2.1 s.2.2.2.1 s.2.2.2.2.1 s.2.2.2.2.2 K0 R w) (s2, s_n2, s_c2, t11, t7, t8) w

def slices_Index_s_int_int_b3 (s1 : Option Addr) (s_n1 : Nat) (s_c1 : Nat) (t1 : Int) (R : Value → World → Prop) (w : World) : Prop :=
  slices_Index_s_int_int_b2 s1 s_n1 s_c1 t1 (s_n1 : Int) 0 R w

def slices_Index_s_int_int_b4 (s : Option Addr) (s_n : Nat) (s_c : Nat) (v : Int) (R : Value → World → Prop) (w : World) : Prop :=
  slices_Index_s_int_int_b3 s s_n s_c v R w

def slices_Index_s_int_int_p0 : Point ((Option Addr) × Nat × Nat × Int) := { slots := fun s => [(0, (.slice s.1 s.2.1 s.2.2.1)), (1, (.int .i64 s.2.2.2))], dec := fun r K => mSlice (r 0) fun x x1 x2 => mInt .i64 (r 1) fun x3 => K (x, x1, x2, x3) }
theorem slices_Index_s_int_int_p0_ok : slices_Index_s_int_int_p0.ok := by
  intro r K h
  unfold slices_Index_s_int_int_p0 at h
  obtain ⟨x, x1, x2, e0, h⟩ := mSlice_elim h
  obtain ⟨x3, e1, h⟩ := mInt_elim h
  exact ⟨(x, x1, x2, x3), regsOf_self (L := [(0, (.slice x x1 x2)), (1, (.int .i64 x3))]) (List.forall_mem_cons.2 ⟨e0, List.forall_mem_cons.2 ⟨e1, List.forall_mem_nil _⟩⟩), h⟩
theorem slices_Index_s_int_int_p0_re (s : (Option Addr) × Nat × Nat × Int) (r : Regs) (K : ((Option Addr) × Nat × Nat × Int) → Prop) (h : K s) : slices_Index_s_int_int_p0.dec (regsOf (slices_Index_s_int_int_p0.slots s) r) K := by
  obtain ⟨x4, x5, x6, x7⟩ := s
  exact cast (show K (x4, x5, x6, x7) = slices_Index_s_int_int_p0.dec (regsOf (slices_Index_s_int_int_p0.slots (x4, x5, x6, x7)) r) K by kernel_rfl) h

def slices_Index_s_int_int_p1 : Point (Unit) := { slots := fun _ => [], dec := fun _ K => K () }
theorem slices_Index_s_int_int_p1_ok : slices_Index_s_int_int_p1.ok := by
  intro r K h
  unfold slices_Index_s_int_int_p1 at h
  exact ⟨(), regsOf_self (L := []) (List.forall_mem_nil _), h⟩
theorem slices_Index_s_int_int_p1_re (s : Unit) (r : Regs) (K : Unit → Prop) (h : K s) : slices_Index_s_int_int_p1.dec (regsOf (slices_Index_s_int_int_p1.slots s) r) K := by
  exact cast (show K () = slices_Index_s_int_int_p1.dec (regsOf (slices_Index_s_int_int_p1.slots ()) r) K by kernel_rfl) h

def slices_Index_s_int_int_p2 : Point ((Option Addr) × Nat × Nat × Int × Int × Int) := { slots := fun s => [(0, (.slice s.1 s.2.1 s.2.2.1)), (1, (.int .i64 s.2.2.2.1)), (7, (.int .i64 s.2.2.2.2.1)), (8, (.int .i64 s.2.2.2.2.2))], dec := fun r K => mSlice (r 0) fun x x1 x2 => mInt .i64 (r 1) fun x3 => mInt .i64 (r 7) fun x4 => mInt .i64 (r 8) fun x5 => K (x, x1, x2, x3, x4, x5) }
theorem slices_Index_s_int_int_p2_ok : slices_Index_s_int_int_p2.ok := by
  intro r K h
  unfold slices_Index_s_int_int_p2 at h
  obtain ⟨x, x1, x2, e0, h⟩ := mSlice_elim h
  obtain ⟨x3, e1, h⟩ := mInt_elim h
  obtain ⟨x4, e2, h⟩ := mInt_elim h
  obtain ⟨x5, e3, h⟩ := mInt_elim h
  exact ⟨(x, x1, x2, x3, x4, x5), regsOf_self (L := [(0, (.slice x x1 x2)), (1, (.int .i64 x3)), (7, (.int .i64 x4)), (8, (.int .i64 x5))]) (List.forall_mem_cons.2 ⟨e0, List.forall_mem_cons.2 ⟨e1, List.forall_mem_cons.2 ⟨e2, List.forall_mem_cons.2 ⟨e3, List.forall_mem_nil _⟩⟩⟩⟩), h⟩
theorem slices_Index_s_int_int_p2_re (s : (Option Addr) × Nat × Nat × Int × Int × Int) (r : Regs) (K : ((Option Addr) × Nat × Nat × Int × Int × Int) → Prop) (h : K s) : slices_Index_s_int_int_p2.dec (regsOf (slices_Index_s_int_int_p2.slots s) r) K := by
  obtain ⟨x6, x7, x8, x9, x10, x11⟩ := s
  exact cast (show K (x6, x7, x8, x9, x10, x11) = slices_Index_s_int_int_p2.dec (regsOf (slices_Index_s_int_int_p2.slots (x6, x7, x8, x9, x10, x11)) r) K by kernel_rfl) h

theorem slices_Index_s_int_int_sound (s : Option Addr) (s_n : Nat) (s_c : Nat) (v : Int) (R : Value → World → Prop) (w : World) (h : slices_Index_s_int_int_b4 s s_n s_c v R w) :
    CallR Tryd.prog fn_slices_Index_s_int_int #[(.slice s s_n s_c), (.int .i64 v)] w R := by
  refine CallR_intro (args := [(.slice s s_n s_c), (.int .i64 v)]) Tryd.func71 rfl (Nat.le_of_ble_eq_true (by kernel_rfl)) ?_
  refine Wp_glue slices_Index_s_int_int_p0 (fun s w => slices_Index_s_int_int_b3 s.1 s.2.1 s.2.2.1 s.2.2.2 R w) [_] (Q0 := fun e _ r w => match e with | .normal => slices_Index_s_int_int_p0.dec r (fun s => slices_Index_s_int_int_b3 s.1 s.2.1 s.2.2.1 s.2.2.2 R w) | .exit _ => False | .ret => retQ Tryd.prog Tryd.f71.results R .ret [] r w | _ => False) h (by kernel_rfl) (fun s r w h => ?_) slices_Index_s_int_int_p0_ok (fun _ _ _ h => h) ?_
  · obtain ⟨s1, s_n1, s_c1, t1⟩ := s
    have h : slices_Index_s_int_int_b3 s1 s_n1 s_c1 t1 R w := h
    refine Wp_seq_via slices_Index_s_int_int_p1 (fun _ w => slices_Index_s_int_int_b0 R w) (fun s r w h => ?_) (fun hN1 => ?_)
    · cases s
      have h : slices_Index_s_int_int_b0 R w := h
      refine Wp_leaf_end (Q0 := fun e _ r w => match e with | .normal => retQ Tryd.prog Tryd.f71.results R .normal [] r w | .exit _ => False | .ret => retQ Tryd.prog Tryd.f71.results R .ret [] r w | _ => False) h (by kernel_rfl) ?_
      intro e _ r w h
      cases e with
      | normal => exact h
      | exit i => exact h.elim
      | ret => exact h
      | goto i => exact h.elim
      | panic c => exact h.elim
      | outgrown => exact h.elim
    · refine Wp_glue slices_Index_s_int_int_p2 (fun s w => slices_Index_s_int_int_b2 s.1 s.2.1 s.2.2.1 s.2.2.2.1 s.2.2.2.2.1 s.2.2.2.2.2 R w) [_] (Q0 := fun e _ r w => match e with | .normal => slices_Index_s_int_int_p2.dec r (fun s => slices_Index_s_int_int_b2 s.1 s.2.1 s.2.2.1 s.2.2.2.1 s.2.2.2.2.1 s.2.2.2.2.2 R w) | .exit _ => False | .ret => retQ Tryd.prog Tryd.f71.results R .ret [] r w | _ => False) h (by kernel_rfl) (fun s r w h => ?_) slices_Index_s_int_int_p2_ok (fun _ _ _ h => h) ?_
      · obtain ⟨s2, s_n2, s_c2, t11, t7, t8⟩ := s
        have h : slices_Index_s_int_int_b2 s2 s_n2 s_c2 t11 t7 t8 R w := h
        refine Wp_block_via slices_Index_s_int_int_p1 (fun _ w => slices_Index_s_int_int_b0 R w) hN1 (fun hX2 => ?_)
        refine Wp_loop (p := slices_Index_s_int_int_p2) slices_Index_s_int_int_p2_ok (fun s r w K0 h => ?_) h
        obtain ⟨s3, s_n3, s_c3, t12, t71, t81⟩ := s
        have h : slices_Index_s_int_int_b1 s3 s_n3 s_c3 t12 t71 t81 K0 R w := h
        have hK3 := fun (s : (Option Addr) × Nat × Nat × Int × Int × Int) (r : Regs) (w : World) (h : K0 s w) => slices_Index_s_int_int_p2_re s r (fun s => K0 s w) h
        refine Wp_leaf_end (Q0 := fun e _ r w => match e with | .normal => slices_Index_s_int_int_p2.dec r (fun s => K0 s w) | .exit i => exitQ i 0 (slices_Index_s_int_int_p1.dec r (fun _ => slices_Index_s_int_int_b0 R w)) (False) | .ret => retQ Tryd.prog Tryd.f71.results R .ret [] r w | _ => False) h (by kernel_rfl) ?_
        intro e _ r w h
        cases e with
        | normal =>
          obtain ⟨s, hs, h⟩ := slices_Index_s_int_int_p2_ok _ _ h
          rw [← hs]
          exact hK3 s r w h
        | exit i =>
          rcases exitQ_elim h with ⟨rfl, h⟩ | ⟨_, h⟩
          · obtain ⟨s, hs, h⟩ := slices_Index_s_int_int_p1_ok _ _ h
            rw [← hs]
            exact hX2 s r w h
          exact h.elim
        | ret => exact h
        | goto i => exact h.elim
        | panic c => exact h.elim
        | outgrown => exact h.elim
      · intro e _ r w hne h
        cases e with
        | normal => exact absurd rfl hne
        | exit i => exact h.elim
        | ret => exact h
        | goto i => exact h.elim
        | panic c => exact h.elim
        | outgrown => exact h.elim
  · intro e _ r w hne h
    cases e with
    | normal => exact absurd rfl hne
    | exit i => exact h.elim
    | ret => exact h
    | goto i => exact h.elim
    | panic c => exact h.elim
    | outgrown => exact h.elim

/- slices.Contains[[]int,int] -/
def slices_Contains_s_int_int_b0 (s : Option Addr) (s_n : Nat) (s_c : Nat) (v : Int) (R : Value → World → Prop) (w : World) : Prop :=
  CallR Tryd.prog fn_slices_Index_s_int_int #[(.slice s s_n s_c), (.int .i64 v)] w fun res w_ =>
  mInt .i64 res fun v1 =>
  R (.bool (decide (v1 ≥ 0))) w_

theorem slices_Contains_s_int_int_sound (s : Option Addr) (s_n : Nat) (s_c : Nat) (v : Int) (R : Value → World → Prop) (w : World) (h : slices_Contains_s_int_int_b0 s s_n s_c v R w) :
    CallR Tryd.prog fn_slices_Contains_s_int_int #[(.slice s s_n s_c), (.int .i64 v)] w R := by
  refine CallR_intro (args := [(.slice s s_n s_c), (.int .i64 v)]) Tryd.func49 rfl (Nat.le_of_ble_eq_true (by kernel_rfl)) ?_
  refine Wp_leaf_end (Q0 := fun e _ r w => match e with | .normal => retQ Tryd.prog Tryd.f49.results R .normal [] r w | .exit _ => False | .ret => retQ Tryd.prog Tryd.f49.results R .ret [] r w | _ => False) h (by kernel_rfl) ?_
  intro e _ r w h
  cases e with
  | normal => exact h
  | exit i => exact h.elim
  | ret => exact h
  | goto i => exact h.elim
  | panic c => exact h.elim
  | outgrown => exact h.elim

/- slices.DeleteFunc[[]glacier/api.Table,glacier/api.Table] -/
def slices_DeleteFunc_s_api_Table_api_Table_b0 (s4 : Option Addr) (s_n4 : Nat) (s_c4 : Nat) (i3 : Int) (R : Value → World → Prop) (w : World) : Prop :=
  rRun Tryd.prog (Instr.sliceAt 24 (.slice s4 s_n4 s_c4) (some (.int .i64 i3)) none none) w fun sr w_13 =>
  mSlice sr fun v2 v_n v_c =>
  rRun Tryd.prog (Builtin.clear_ #[24] 0 #[(.slice v2 v_n v_c)]) w_13 fun sr1 w_14 =>
  mTup sr1 fun l =>
  mNil l (
  rRun Tryd.prog (Instr.sliceAt 24 (.slice s4 s_n4 s_c4) none (some (.int .i64 i3)) none) w_14 fun sr2 w_15 =>
  mSlice sr2 fun v3 v_n1 v_c1 =>
  R (.slice v3 v_n1 v_c1) w_15)

def slices_DeleteFunc_s_api_Table_api_Table_b1 (s3 : Option Addr) (s_n3 : Nat) (s_c3 : Nat) (del3 : Value) (i2 : Int) (j1 : Int) (K0 : ((Option Addr) × Nat × Nat × Value × Int × Int) → World → Prop) (R : Value → World → Prop) (w : World) : Prop :=
  Br (decide (j1 < (s_n3 : Int))) (
  IX s3 s_n3 j1 5 fun a =>
  LDI .i64 w a fun File =>
  LDI .i64 w (Addr.add a 1) fun Level =>
  LDS w (Addr.add a 2) fun First =>
  LDS w (Addr.add a 3) fun Last =>
  LDI .i64 w (Addr.add a 4) fun Size =>
  AL w (.cells #[(.int .i64 0), (.int .i64 0), (.string (ByteArray.mk #[])), (.string (ByteArray.mk #[])), (.int .i64 0)] 38) fun p w_1 =>
  ST w_1 p (.int .i64 File) fun w_2 =>
  ST w_2 (Addr.add p 1) (.int .i64 Level) fun w_3 =>
  ST w_3 (Addr.add p 2) (.string First) fun w_4 =>
  ST w_4 (Addr.add p 3) (.string Last) fun w_5 =>
  ST w_5 (Addr.add p 4) (.int .i64 Size) fun w_6 =>
  LDI .i64 w_6 p fun File1 =>
  LDI .i64 w_6 (Addr.add p 1) fun Level1 =>
  LDS w_6 (Addr.add p 2) fun First1 =>
  LDS w_6 (Addr.add p 3) fun Last1 =>
  LDI .i64 w_6 (Addr.add p 4) fun Size1 =>
  CallV Tryd.prog del3 [(.agg #[(.int .i64 File1), (.int .i64 Level1), (.string First1), (.string Last1), (.int .i64 Size1)])] w_6 fun res1 w_7 =>
  mBool res1 fun v1 =>
  Br (!v1) (
  LDI .i64 w_7 p fun File2 =>
  LDI .i64 w_7 (Addr.add p 1) fun Level2 =>
  LDS w_7 (Addr.add p 2) fun First2 =>
  LDS w_7 (Addr.add p 3) fun Last2 =>
  LDI .i64 w_7 (Addr.add p 4) fun Size2 =>
  IX s3 s_n3 i2 5 fun a1 =>
  ST w_7 a1 (.int .i64 File2) fun w_8 =>
  ST w_8 (Addr.add a1 1) (.int .i64 Level2) fun w_9 =>
  ST w_9 (Addr.add a1 2) (.string First2) fun w_10 =>
  ST w_10 (Addr.add a1 3) (.string Last2) fun w_11 =>
  ST w_11 (Addr.add a1 4) (.int .i64 Size2) fun w_12 =>
  K0 (s3, s_n3, s_c3, del3, IntKind.wrap .i64 (i2 + 1), IntKind.wrap .i64 (j1 + 1)) w_12) (
  K0 (s3, s_n3, s_c3, del3, i2, IntKind.wrap .i64 (j1 + 1)) w_7)) (
  slices_DeleteFunc_s_api_Table_api_Table_b0 s3 s_n3 s_c3 i2 R w)

def slices_DeleteFunc_s_api_Table_api_Table_b2 (s2 : Option Addr) (s_n2 : Nat) (s_c2 : Nat) (del2 : Value) (i1 : Int) (j : Int) (R : Value → World → Prop) (w : World) : Prop :=
  LoopS (σ := (Option Addr) × Nat × Nat × Value × Int × Int) (fun s w K0 =>
  slices_DeleteFunc_s_api_Table_api_Table_b1 s.1 s.2.1 s.2.2.1 s.2.2.2.1 s.2.2.2.2.1 s.2.2.2.2.2 K0 R w) (s2, s_n2, s_c2, del2, i1, j) w

def slices_DeleteFunc_s_api_Table_api_Table_b3 (s1 : Option Addr) (s_n1 : Nat) (s_c1 : Nat) (del1 : Value) (i : Int) (R : Value → World → Prop) (w : World) : Prop :=
  slices_DeleteFunc_s_api_Table_api_Table_b2 s1 s_n1 s_c1 del1 i (IntKind.wrap .i64 (i + 1)) R w

def slices_DeleteFunc_s_api_Table_api_Table_b4 (s : Option Addr) (s_n : Nat) (s_c : Nat) (del : Value) (R : Value → World → Prop) (w : World) : Prop :=
  CallR Tryd.prog fn_slices_IndexFunc_s_api_Table_api_Table #[(.slice s s_n s_c), del] w fun res w_ =>
  mInt .i64 res fun v =>
  Br (v == (-1)) (
  R (.slice s s_n s_c) w_) (
  slices_DeleteFunc_s_api_Table_api_Table_b3 s s_n s_c del v R w_)

def slices_DeleteFunc_s_api_Table_api_Table_p0 : Point ((Option Addr) × Nat × Nat × Value × Int) := { slots := fun s => [(0, (.slice s.1 s.2.1 s.2.2.1)), (1, s.2.2.2.1), (5, (.int .i64 s.2.2.2.2))], dec := fun r K => mSlice (r 0) fun x x1 x2 => mInt .i64 (r 5) fun x3 => K (x, x1, x2, (r 1), x3) }
theorem slices_DeleteFunc_s_api_Table_api_Table_p0_ok : slices_DeleteFunc_s_api_Table_api_Table_p0.ok := by
  intro r K h
  unfold slices_DeleteFunc_s_api_Table_api_Table_p0 at h
  obtain ⟨x, x1, x2, e0, h⟩ := mSlice_elim h
  obtain ⟨x3, e2, h⟩ := mInt_elim h
  exact ⟨(x, x1, x2, (r 1), x3), regsOf_self (L := [(0, (.slice x x1 x2)), (1, (r 1)), (5, (.int .i64 x3))]) (List.forall_mem_cons.2 ⟨e0, List.forall_mem_cons.2 ⟨rfl, List.forall_mem_cons.2 ⟨e2, List.forall_mem_nil _⟩⟩⟩), h⟩
theorem slices_DeleteFunc_s_api_Table_api_Table_p0_re (s : (Option Addr) × Nat × Nat × Value × Int) (r : Regs) (K : ((Option Addr) × Nat × Nat × Value × Int) → Prop) (h : K s) : slices_DeleteFunc_s_api_Table_api_Table_p0.dec (regsOf (slices_DeleteFunc_s_api_Table_api_Table_p0.slots s) r) K := by
  obtain ⟨x4, x5, x6, x7, x8⟩ := s
  exact cast (show K (x4, x5, x6, x7, x8) = slices_DeleteFunc_s_api_Table_api_Table_p0.dec (regsOf (slices_DeleteFunc_s_api_Table_api_Table_p0.slots (x4, x5, x6, x7, x8)) r) K by kernel_rfl) h

def slices_DeleteFunc_s_api_Table_api_Table_p1 : Point ((Option Addr) × Nat × Nat × Int) := { slots := fun s => [(0, (.slice s.1 s.2.1 s.2.2.1)), (5, (.int .i64 s.2.2.2))], dec := fun r K => mSlice (r 0) fun x x1 x2 => mInt .i64 (r 5) fun x3 => K (x, x1, x2, x3) }
theorem slices_DeleteFunc_s_api_Table_api_Table_p1_ok : slices_DeleteFunc_s_api_Table_api_Table_p1.ok := by
  intro r K h
  unfold slices_DeleteFunc_s_api_Table_api_Table_p1 at h
  obtain ⟨x, x1, x2, e0, h⟩ := mSlice_elim h
  obtain ⟨x3, e1, h⟩ := mInt_elim h
  exact ⟨(x, x1, x2, x3), regsOf_self (L := [(0, (.slice x x1 x2)), (5, (.int .i64 x3))]) (List.forall_mem_cons.2 ⟨e0, List.forall_mem_cons.2 ⟨e1, List.forall_mem_nil _⟩⟩), h⟩
theorem slices_DeleteFunc_s_api_Table_api_Table_p1_re (s : (Option Addr) × Nat × Nat × Int) (r : Regs) (K : ((Option Addr) × Nat × Nat × Int) → Prop) (h : K s) : slices_DeleteFunc_s_api_Table_api_Table_p1.dec (regsOf (slices_DeleteFunc_s_api_Table_api_Table_p1.slots s) r) K := by
  obtain ⟨x4, x5, x6, x7⟩ := s
  exact cast (show K (x4, x5, x6, x7) = slices_DeleteFunc_s_api_Table_api_Table_p1.dec (regsOf (slices_DeleteFunc_s_api_Table_api_Table_p1.slots (x4, x5, x6, x7)) r) K by kernel_rfl) h

def slices_DeleteFunc_s_api_Table_api_Table_p2 : Point ((Option Addr) × Nat × Nat × Value × Int × Int) := { slots := fun s => [(0, (.slice s.1 s.2.1 s.2.2.1)), (1, s.2.2.2.1), (5, (.int .i64 s.2.2.2.2.1)), (6, (.int .i64 s.2.2.2.2.2))], dec := fun r K => mSlice (r 0) fun x x1 x2 => mInt .i64 (r 5) fun x3 => mInt .i64 (r 6) fun x4 => K (x, x1, x2, (r 1), x3, x4) }
theorem slices_DeleteFunc_s_api_Table_api_Table_p2_ok : slices_DeleteFunc_s_api_Table_api_Table_p2.ok := by
  intro r K h
  unfold slices_DeleteFunc_s_api_Table_api_Table_p2 at h
  obtain ⟨x, x1, x2, e0, h⟩ := mSlice_elim h
  obtain ⟨x3, e2, h⟩ := mInt_elim h
  obtain ⟨x4, e3, h⟩ := mInt_elim h
  exact ⟨(x, x1, x2, (r 1), x3, x4), regsOf_self (L := [(0, (.slice x x1 x2)), (1, (r 1)), (5, (.int .i64 x3)), (6, (.int .i64 x4))]) (List.forall_mem_cons.2 ⟨e0, List.forall_mem_cons.2 ⟨rfl, List.forall_mem_cons.2 ⟨e2, List.forall_mem_cons.2 ⟨e3, List.forall_mem_nil _⟩⟩⟩⟩), h⟩
theorem slices_DeleteFunc_s_api_Table_api_Table_p2_re (s : (Option Addr) × Nat × Nat × Value × Int × Int) (r : Regs) (K : ((Option Addr) × Nat × Nat × Value × Int × Int) → Prop) (h : K s) : slices_DeleteFunc_s_api_Table_api_Table_p2.dec (regsOf (slices_DeleteFunc_s_api_Table_api_Table_p2.slots s) r) K := by
  obtain ⟨x5, x6, x7, x8, x9, x10⟩ := s
  exact cast (show K (x5, x6, x7, x8, x9, x10) = slices_DeleteFunc_s_api_Table_api_Table_p2.dec (regsOf (slices_DeleteFunc_s_api_Table_api_Table_p2.slots (x5, x6, x7, x8, x9, x10)) r) K by kernel_rfl) h

set_option maxRecDepth 100000 in
theorem slices_DeleteFunc_s_api_Table_api_Table_sound (s : Option Addr) (s_n : Nat) (s_c : Nat) (del : Value) (R : Value → World → Prop) (w : World) (h : slices_DeleteFunc_s_api_Table_api_Table_b4 s s_n s_c del R w) :
    CallR Tryd.prog fn_slices_DeleteFunc_s_api_Table_api_Table #[(.slice s s_n s_c), del] w R := by
  refine CallR_intro (args := [(.slice s s_n s_c), del]) Tryd.func50 rfl (Nat.le_of_ble_eq_true (by kernel_rfl)) ?_
  refine Wp_glue slices_DeleteFunc_s_api_Table_api_Table_p0 (fun s w => slices_DeleteFunc_s_api_Table_api_Table_b3 s.1 s.2.1 s.2.2.1 s.2.2.2.1 s.2.2.2.2 R w) [_, _, _] (Q0 := fun e _ r w => match e with | .normal => slices_DeleteFunc_s_api_Table_api_Table_p0.dec r (fun s => slices_DeleteFunc_s_api_Table_api_Table_b3 s.1 s.2.1 s.2.2.1 s.2.2.2.1 s.2.2.2.2 R w) | .exit _ => False | .ret => retQ Tryd.prog Tryd.f50.results R .ret [] r w | _ => False) h (by kernel_rfl) (fun s r w h => ?_) slices_DeleteFunc_s_api_Table_api_Table_p0_ok (fun _ _ _ h => h) ?_
  · obtain ⟨s1, s_n1, s_c1, del1, i⟩ := s
    have h : slices_DeleteFunc_s_api_Table_api_Table_b3 s1 s_n1 s_c1 del1 i R w := h
    refine Wp_seq_via slices_DeleteFunc_s_api_Table_api_Table_p1 (fun s w => slices_DeleteFunc_s_api_Table_api_Table_b0 s.1 s.2.1 s.2.2.1 s.2.2.2 R w) (fun s r w h => ?_) (fun hN1 => ?_)
    · obtain ⟨s4, s_n4, s_c4, i3⟩ := s
      have h : slices_DeleteFunc_s_api_Table_api_Table_b0 s4 s_n4 s_c4 i3 R w := h
      refine Wp_leaf_end (Q0 := fun e _ r w => match e with | .normal => retQ Tryd.prog Tryd.f50.results R .normal [] r w | .exit _ => False | .ret => retQ Tryd.prog Tryd.f50.results R .ret [] r w | _ => False) h (by kernel_rfl) ?_
      intro e _ r w h
      cases e with
      | normal => exact h
      | exit i => exact h.elim
      | ret => exact h
      | goto i => exact h.elim
      | panic c => exact h.elim
      | outgrown => exact h.elim
    · refine Wp_glue slices_DeleteFunc_s_api_Table_api_Table_p2 (fun s w => slices_DeleteFunc_s_api_Table_api_Table_b2 s.1 s.2.1 s.2.2.1 s.2.2.2.1 s.2.2.2.2.1 s.2.2.2.2.2 R w) [_] (Q0 := fun e _ r w => match e with | .normal => slices_DeleteFunc_s_api_Table_api_Table_p2.dec r (fun s => slices_DeleteFunc_s_api_Table_api_Table_b2 s.1 s.2.1 s.2.2.1 s.2.2.2.1 s.2.2.2.2.1 s.2.2.2.2.2 R w) | .exit _ => False | .ret => retQ Tryd.prog Tryd.f50.results R .ret [] r w | _ => False) h (by kernel_rfl) (fun s r w h => ?_) slices_DeleteFunc_s_api_Table_api_Table_p2_ok (fun _ _ _ h => h) ?_
      · obtain ⟨s2, s_n2, s_c2, del2, i1, j⟩ := s
        have h : slices_DeleteFunc_s_api_Table_api_Table_b2 s2 s_n2 s_c2 del2 i1 j R w := h
        refine Wp_block_via slices_DeleteFunc_s_api_Table_api_Table_p1 (fun s w => slices_DeleteFunc_s_api_Table_api_Table_b0 s.1 s.2.1 s.2.2.1 s.2.2.2 R w) hN1 (fun hX2 => ?_)
        refine Wp_loop (p := slices_DeleteFunc_s_api_Table_api_Table_p2) slices_DeleteFunc_s_api_Table_api_Table_p2_ok (fun s r w K0 h => ?_) h
        obtain ⟨s3, s_n3, s_c3, del3, i2, j1⟩ := s
        have h : slices_DeleteFunc_s_api_Table_api_Table_b1 s3 s_n3 s_c3 del3 i2 j1 K0 R w := h
        have hK3 := fun (s : (Option Addr) × Nat × Nat × Value × Int × Int) (r : Regs) (w : World) (h : K0 s w) => slices_DeleteFunc_s_api_Table_api_Table_p2_re s r (fun s => K0 s w) h
        refine Wp_leaf_end (Q0 := fun e _ r w => match e with | .normal => slices_DeleteFunc_s_api_Table_api_Table_p2.dec r (fun s => K0 s w) | .exit i => exitQ i 0 (slices_DeleteFunc_s_api_Table_api_Table_p1.dec r (fun s => slices_DeleteFunc_s_api_Table_api_Table_b0 s.1 s.2.1 s.2.2.1 s.2.2.2 R w)) (False) | .ret => retQ Tryd.prog Tryd.f50.results R .ret [] r w | _ => False) h (by kernel_rfl) ?_
        intro e _ r w h
        cases e with
        | normal =>
          obtain ⟨s, hs, h⟩ := slices_DeleteFunc_s_api_Table_api_Table_p2_ok _ _ h
          rw [← hs]
          exact hK3 s r w h
        | exit i =>
          rcases exitQ_elim h with ⟨rfl, h⟩ | ⟨_, h⟩
          · obtain ⟨s, hs, h⟩ := slices_DeleteFunc_s_api_Table_api_Table_p1_ok _ _ h
            rw [← hs]
            exact hX2 s r w h
          exact h.elim
        | ret => exact h
        | goto i => exact h.elim
        | panic c => exact h.elim
        | outgrown => exact h.elim
      · intro e _ r w hne h
        cases e with
        | normal => exact absurd rfl hne
        | exit i => exact h.elim
        | ret => exact h
        | goto i => exact h.elim
        | panic c => exact h.elim
        | outgrown => exact h.elim
  · intro e _ r w hne h
    cases e with
    | normal => exact absurd rfl hne
    | exit i => exact h.elim
    | ret => exact h
    | goto i => exact h.elim
    | panic c => exact h.elim
    | outgrown => exact h.elim

/- glacier/manifest.apply$1 -/
def manifest_apply_1_b0 (t_File : Int) (t_Level : Int) (t_First : ByteArray) (t_Last : ByteArray) (t_Size : Int) (cap : Addr) (R : Value → World → Prop) (w : World) : Prop :=
  AL w (.cells #[(.int .i64 t_File), (.int .i64 t_Level), (.string t_First), (.string t_Last), (.int .i64 t_Size)] 38) fun t w_ =>
  LDSl w_ (Addr.add cap 1) fun v v_n v_c =>
  LDI .i64 w_ t fun v1 =>
  CallR Tryd.prog fn_slices_Contains_s_int_int #[(.slice v v_n v_c), (.int .i64 v1)] w_ fun res w_1 =>
  mBool res fun v2 =>
  R (.bool v2) w_1

theorem manifest_apply_1_sound (t_File : Int) (t_Level : Int) (t_First : ByteArray) (t_Last : ByteArray) (t_Size : Int) (cap : Addr) (R : Value → World → Prop) (w : World) (h : manifest_apply_1_b0 t_File t_Level t_First t_Last t_Size cap R w) :
    CallR Tryd.prog fn_manifest_apply_1 #[(.agg #[(.int .i64 t_File), (.int .i64 t_Level), (.string t_First), (.string t_Last), (.int .i64 t_Size)]), (.pointer (some cap))] w R := by
  refine CallR_intro (args := [(.agg #[(.int .i64 t_File), (.int .i64 t_Level), (.string t_First), (.string t_Last), (.int .i64 t_Size)]), (.pointer (some cap))]) Tryd.func51 rfl (Nat.le_of_ble_eq_true (by kernel_rfl)) ?_
  refine Wp_leaf_end (Q0 := fun e _ r w => match e with | .normal => retQ Tryd.prog Tryd.f51.results R .normal [] r w | .exit _ => False | .ret => retQ Tryd.prog Tryd.f51.results R .ret [] r w | _ => False) h (by kernel_rfl) ?_
  intro e _ r w h
  cases e with
  | normal => exact h
  | exit i => exact h.elim
  | ret => exact h
  | goto i => exact h.elim
  | panic c => exact h.elim
  | outgrown => exact h.elim

/- glacier/manifest.shared -/
def manifest_shared_b0 (R : Value → World → Prop) (w : World) : Prop :=
  R (.bool false) w

def manifest_shared_b1 (l3 : Option Addr) (l_n3 : Nat) (l_c3 : Nat) (i1 : Int) (K0 : ((Option Addr) × Nat × Nat × Int) → World → Prop) (R : Value → World → Prop) (w : World) : Prop :=
  Br (decide (i1 < (l_n3 : Int))) (
  LetW (World.drew w) fun w_ =>
  IX l3 l_n3 i1 5 fun a =>
  LDI .i64 w_ (Addr.add a 1) fun v =>
  Br (decide (v > 0)) (
  IX l3 l_n3 i1 5 fun a1 =>
  LDI .i64 w_ (Addr.add a1 1) fun v1 =>
  IX l3 l_n3 (IntKind.wrap .i64 (i1 - 1)) 5 fun a2 =>
  LDI .i64 w_ (Addr.add a2 1) fun v2 =>
  Br (v1 == v2) (
  IX l3 l_n3 i1 5 fun a3 =>
  LDS w_ (Addr.add a3 2) fun v3 =>
  IX l3 l_n3 (IntKind.wrap .i64 (i1 - 1)) 5 fun a4 =>
  LDS w_ (Addr.add a4 3) fun v4 =>
  Br ((Op.bytesLess (ByteArray.toList v3) (ByteArray.toList v4)) || (ByteArray.toList v3 == ByteArray.toList v4)) (
  R (.bool true) w_) (
  K0 (l3, l_n3, l_c3, IntKind.wrap .i64 (i1 + 1)) w_)) (
  K0 (l3, l_n3, l_c3, IntKind.wrap .i64 (i1 + 1)) w_)) (
  K0 (l3, l_n3, l_c3, IntKind.wrap .i64 (i1 + 1)) w_)) (
  manifest_shared_b0 R w)

def manifest_shared_b2 (l2 : Option Addr) (l_n2 : Nat) (l_c2 : Nat) (i : Int) (R : Value → World → Prop) (w : World) : Prop :=
  LoopS (σ := (Option Addr) × Nat × Nat × Int) (fun s w K0 =>
  manifest_shared_b1 s.1 s.2.1 s.2.2.1 s.2.2.2 K0 R w) (l2, l_n2, l_c2, i) w

def manifest_shared_b3 (l1 : Option Addr) (l_n1 : Nat) (l_c1 : Nat) (R : Value → World → Prop) (w : World) : Prop :=
  manifest_shared_b2 l1 l_n1 l_c1 1 R w

def manifest_shared_b4 (l : Option Addr) (l_n : Nat) (l_c : Nat) (R : Value → World → Prop) (w : World) : Prop :=
  manifest_shared_b3 l l_n l_c R w

def manifest_shared_p0 : Point ((Option Addr) × Nat × Nat) := { slots := fun s => [(0, (.slice s.1 s.2.1 s.2.2))], dec := fun r K => mSlice (r 0) fun x x1 x2 => K (x, x1, x2) }
theorem manifest_shared_p0_ok : manifest_shared_p0.ok := by
  intro r K h
  unfold manifest_shared_p0 at h
  obtain ⟨x, x1, x2, e0, h⟩ := mSlice_elim h
  exact ⟨(x, x1, x2), regsOf_self (L := [(0, (.slice x x1 x2))]) (List.forall_mem_cons.2 ⟨e0, List.forall_mem_nil _⟩), h⟩
theorem manifest_shared_p0_re (s : (Option Addr) × Nat × Nat) (r : Regs) (K : ((Option Addr) × Nat × Nat) → Prop) (h : K s) : manifest_shared_p0.dec (regsOf (manifest_shared_p0.slots s) r) K := by
  obtain ⟨x3, x4, x5⟩ := s
  exact cast (show K (x3, x4, x5) = manifest_shared_p0.dec (regsOf (manifest_shared_p0.slots (x3, x4, x5)) r) K by kernel_rfl) h

def manifest_shared_p1 : Point (Unit) := { slots := fun _ => [], dec := fun _ K => K () }
theorem manifest_shared_p1_ok : manifest_shared_p1.ok := by
  intro r K h
  unfold manifest_shared_p1 at h
  exact ⟨(), regsOf_self (L := []) (List.forall_mem_nil _), h⟩
theorem manifest_shared_p1_re (s : Unit) (r : Regs) (K : Unit → Prop) (h : K s) : manifest_shared_p1.dec (regsOf (manifest_shared_p1.slots s) r) K := by
  exact cast (show K () = manifest_shared_p1.dec (regsOf (manifest_shared_p1.slots ()) r) K by kernel_rfl) h

def manifest_shared_p2 : Point ((Option Addr) × Nat × Nat × Int) := { slots := fun s => [(0, (.slice s.1 s.2.1 s.2.2.1)), (3, (.int .i64 s.2.2.2))], dec := fun r K => mSlice (r 0) fun x x1 x2 => mInt .i64 (r 3) fun x3 => K (x, x1, x2, x3) }
theorem manifest_shared_p2_ok : manifest_shared_p2.ok := by
  intro r K h
  unfold manifest_shared_p2 at h
  obtain ⟨x, x1, x2, e0, h⟩ := mSlice_elim h
  obtain ⟨x3, e1, h⟩ := mInt_elim h
  exact ⟨(x, x1, x2, x3), regsOf_self (L := [(0, (.slice x x1 x2)), (3, (.int .i64 x3))]) (List.forall_mem_cons.2 ⟨e0, List.forall_mem_cons.2 ⟨e1, List.forall_mem_nil _⟩⟩), h⟩
theorem manifest_shared_p2_re (s : (Option Addr) × Nat × Nat × Int) (r : Regs) (K : ((Option Addr) × Nat × Nat × Int) → Prop) (h : K s) : manifest_shared_p2.dec (regsOf (manifest_shared_p2.slots s) r) K := by
  obtain ⟨x4, x5, x6, x7⟩ := s
  exact cast (show K (x4, x5, x6, x7) = manifest_shared_p2.dec (regsOf (manifest_shared_p2.slots (x4, x5, x6, x7)) r) K by kernel_rfl) h

theorem manifest_shared_sound (l : Option Addr) (l_n : Nat) (l_c : Nat) (R : Value → World → Prop) (w : World) (h : manifest_shared_b4 l l_n l_c R w) :
    CallR Tryd.prog fn_manifest_shared #[(.slice l l_n l_c)] w R := by
  refine CallR_intro (args := [(.slice l l_n l_c)]) Tryd.func53 rfl (Nat.le_of_ble_eq_true (by kernel_rfl)) ?_
  refine Wp_glue manifest_shared_p0 (fun s w => manifest_shared_b3 s.1 s.2.1 s.2.2 R w) [_] (Q0 := fun e _ r w => match e with | .normal => manifest_shared_p0.dec r (fun s => manifest_shared_b3 s.1 s.2.1 s.2.2 R w) | .exit _ => False | .ret => retQ Tryd.prog Tryd.f53.results R .ret [] r w | _ => False) h (by kernel_rfl) (fun s r w h => ?_) manifest_shared_p0_ok (fun _ _ _ h => h) ?_
  · obtain ⟨l1, l_n1, l_c1⟩ := s
    have h : manifest_shared_b3 l1 l_n1 l_c1 R w := h
    refine Wp_seq_via manifest_shared_p1 (fun _ w => manifest_shared_b0 R w) (fun s r w h => ?_) (fun hN1 => ?_)
    · cases s
      have h : manifest_shared_b0 R w := h
      refine Wp_leaf_end (Q0 := fun e _ r w => match e with | .normal => retQ Tryd.prog Tryd.f53.results R .normal [] r w | .exit _ => False | .ret => retQ Tryd.prog Tryd.f53.results R .ret [] r w | _ => False) h (by kernel_rfl) ?_
      intro e _ r w h
      cases e with
      | normal => exact h
      | exit i => exact h.elim
      | ret => exact h
      | goto i => exact h.elim
      | panic c => exact h.elim
      | outgrown => exact h.elim
    · refine Wp_glue manifest_shared_p2 (fun s w => manifest_shared_b2 s.1 s.2.1 s.2.2.1 s.2.2.2 R w) [_] (Q0 := fun e _ r w => match e with | .normal => manifest_shared_p2.dec r (fun s => manifest_shared_b2 s.1 s.2.1 s.2.2.1 s.2.2.2 R w) | .exit _ => False | .ret => retQ Tryd.prog Tryd.f53.results R .ret [] r w | _ => False) h (by kernel_rfl) (fun s r w h => ?_) manifest_shared_p2_ok (fun _ _ _ h => h) ?_
      · obtain ⟨l2, l_n2, l_c2, i⟩ := s
        have h : manifest_shared_b2 l2 l_n2 l_c2 i R w := h
        refine Wp_block_via manifest_shared_p1 (fun _ w => manifest_shared_b0 R w) hN1 (fun hX2 => ?_)
        refine Wp_loop (p := manifest_shared_p2) manifest_shared_p2_ok (fun s r w K0 h => ?_) h
        obtain ⟨l3, l_n3, l_c3, i1⟩ := s
        have h : manifest_shared_b1 l3 l_n3 l_c3 i1 K0 R w := h
        have hK3 := fun (s : (Option Addr) × Nat × Nat × Int) (r : Regs) (w : World) (h : K0 s w) => manifest_shared_p2_re s r (fun s => K0 s w) h
        refine Wp_leaf_end (Q0 := fun e _ r w => match e with | .normal => manifest_shared_p2.dec r (fun s => K0 s w) | .exit i => exitQ i 0 (manifest_shared_p1.dec r (fun _ => manifest_shared_b0 R w)) (False) | .ret => retQ Tryd.prog Tryd.f53.results R .ret [] r w | _ => False) h (by kernel_rfl) ?_
        intro e _ r w h
        cases e with
        | normal =>
          obtain ⟨s, hs, h⟩ := manifest_shared_p2_ok _ _ h
          rw [← hs]
          exact hK3 s r w h
        | exit i =>
          rcases exitQ_elim h with ⟨rfl, h⟩ | ⟨_, h⟩
          · obtain ⟨s, hs, h⟩ := manifest_shared_p1_ok _ _ h
            rw [← hs]
            exact hX2 s r w h
          exact h.elim
        | ret => exact h
        | goto i => exact h.elim
        | panic c => exact h.elim
        | outgrown => exact h.elim
      · intro e _ r w hne h
        cases e with
        | normal => exact absurd rfl hne
        | exit i => exact h.elim
        | ret => exact h
        | goto i => exact h.elim
        | panic c => exact h.elim
        | outgrown => exact h.elim
  · intro e _ r w hne h
    cases e with
    | normal => exact absurd rfl hne
    | exit i => exact h.elim
    | ret => exact h
    | goto i => exact h.elim
    | panic c => exact h.elim
    | outgrown => exact h.elim

/- slices.SortFunc[[]glacier/api.Table,glacier/api.Table] -/
def slices_SortFunc_s_api_Table_api_Table_b0 (x : Option Addr) (x_n : Nat) (x_c : Nat) (cmp : Value) (R : Value → World → Prop) (w : World) : Prop :=
  CallR Tryd.prog fn_math_bits_Len #[(.int .u64 (IntKind.wrap .u64 (x_n : Int)))] w fun res w_ =>
  mInt .i64 res fun v =>
  CallR Tryd.prog fn_slices_pdqsortCmpFunc_api_Table #[(.slice x x_n x_c), (.int .i64 0), (.int .i64 (x_n : Int)), (.int .i64 v), cmp] w_ fun res1 w_1 =>
  mTup res1 fun l =>
  mNil l (
  R (.tuple #[]) w_1)

theorem slices_SortFunc_s_api_Table_api_Table_sound (x : Option Addr) (x_n : Nat) (x_c : Nat) (cmp : Value) (R : Value → World → Prop) (w : World) (h : slices_SortFunc_s_api_Table_api_Table_b0 x x_n x_c cmp R w) :
    CallR Tryd.prog fn_slices_SortFunc_s_api_Table_api_Table #[(.slice x x_n x_c), cmp] w R := by
  refine CallR_intro (args := [(.slice x x_n x_c), cmp]) Tryd.func52 rfl (Nat.le_of_ble_eq_true (by kernel_rfl)) ?_
  refine Wp_leaf_end (Q0 := fun e _ r w => match e with | .normal => retQ Tryd.prog Tryd.f52.results R .normal [] r w | .exit _ => False | .ret => retQ Tryd.prog Tryd.f52.results R .ret [] r w | _ => False) h (by kernel_rfl) ?_
  intro e _ r w h
  cases e with
  | normal => exact h
  | exit i => exact h.elim
  | ret => exact h
  | goto i => exact h.elim
  | panic c => exact h.elim
  | outgrown => exact h.elim

/- slices.pdqsortCmpFunc[glacier/api.Table] -/
def slices_pdqsortCmpFunc_api_Table_b0 (data5 : Option Addr) (data_n5 : Nat) (data_c5 : Nat) (a5 : Int) (b5 : Int) (limit5 : Int) (cmp5 : Value) (wasBalanced4 : Bool) (wasPartitioned4 : Bool) (length2 : Int) (pivot1 : Int) (K0 : ((Option Addr) × Nat × Nat × Int × Int × Int × Value × Bool × Bool) → World → Prop) (w : World) : Prop :=
  LetW (World.drew w) fun w_6 =>
  Br (decide (a5 > 0)) (
  IX data5 data_n5 (IntKind.wrap .i64 (a5 - 1)) 5 fun a6 =>
  LDI .i64 w_6 a6 fun File =>
  LDI .i64 w_6 (Addr.add a6 1) fun Level =>
  LDS w_6 (Addr.add a6 2) fun First =>
  LDS w_6 (Addr.add a6 3) fun Last =>
  LDI .i64 w_6 (Addr.add a6 4) fun Size =>
  IX data5 data_n5 pivot1 5 fun a7 =>
  LDI .i64 w_6 a7 fun File1 =>
  LDI .i64 w_6 (Addr.add a7 1) fun Level1 =>
  LDS w_6 (Addr.add a7 2) fun First1 =>
  LDS w_6 (Addr.add a7 3) fun Last1 =>
  LDI .i64 w_6 (Addr.add a7 4) fun Size1 =>
  CallV Tryd.prog cmp5 [(.agg #[(.int .i64 File), (.int .i64 Level), (.string First), (.string Last), (.int .i64 Size)]), (.agg #[(.int .i64 File1), (.int .i64 Level1), (.string First1), (.string Last1), (.int .i64 Size1)])] w_6 fun res6 w_7 =>
  mInt .i64 res6 fun v5 =>
  (w_7 = w_7 ∧ 
  Br (!(decide (v5 < 0))) (
  CallR Tryd.prog fn_slices_partitionEqualCmpFunc_api_Table #[(.slice data5 data_n5 data_c5), (.int .i64 a5), (.int .i64 b5), (.int .i64 pivot1), cmp5] w_7 fun res7 w_8 =>
  mInt .i64 res7 fun v6 =>
  K0 (data5, data_n5, data_c5, v6, b5, limit5, cmp5, wasBalanced4, wasPartitioned4) w_8) (
  CallR Tryd.prog fn_slices_partitionCmpFunc_api_Table #[(.slice data5 data_n5 data_c5), (.int .i64 a5), (.int .i64 b5), (.int .i64 pivot1), cmp5] w_7 fun res8 w_9 =>
  mTup res8 fun l7 =>
  mCons l7 fun v7 l8 =>
  mInt .i64 v7 fun v8 =>
  mCons l8 fun v9 l9 =>
  mBool v9 fun v10 =>
  mNil l9 (
  Req ((8 : Int) ≠ 0) (
  Br (decide ((IntKind.wrap .i64 (v8 - a5)) < (IntKind.wrap .i64 (b5 - v8)))) (
  CallR Tryd.prog fn_slices_pdqsortCmpFunc_api_Table #[(.slice data5 data_n5 data_c5), (.int .i64 a5), (.int .i64 v8), (.int .i64 limit5), cmp5] w_9 fun res9 w_10 =>
  mTup res9 fun l10 =>
  mNil l10 (
  K0 (data5, data_n5, data_c5, IntKind.wrap .i64 (v8 + 1), b5, limit5, cmp5, decide ((IntKind.wrap .i64 (v8 - a5)) ≥ (IntKind.wrap .i64 (Int.tdiv length2 8))), v10) w_10)) (
  CallR Tryd.prog fn_slices_pdqsortCmpFunc_api_Table #[(.slice data5 data_n5 data_c5), (.int .i64 (IntKind.wrap .i64 (v8 + 1))), (.int .i64 b5), (.int .i64 limit5), cmp5] w_9 fun res10 w_11 =>
  mTup res10 fun l11 =>
  mNil l11 (
  K0 (data5, data_n5, data_c5, a5, v8, limit5, cmp5, decide ((IntKind.wrap .i64 (b5 - v8)) ≥ (IntKind.wrap .i64 (Int.tdiv length2 8))), v10) w_11))))))) (
  CallR Tryd.prog fn_slices_partitionCmpFunc_api_Table #[(.slice data5 data_n5 data_c5), (.int .i64 a5), (.int .i64 b5), (.int .i64 pivot1), cmp5] w_6 fun res11 w_12 =>
  mTup res11 fun l12 =>
  mCons l12 fun v11 l13 =>
  mInt .i64 v11 fun v12 =>
  mCons l13 fun v13 l14 =>
  mBool v13 fun v14 =>
  mNil l14 (
  Req ((8 : Int) ≠ 0) (
  Br (decide ((IntKind.wrap .i64 (v12 - a5)) < (IntKind.wrap .i64 (b5 - v12)))) (
  CallR Tryd.prog fn_slices_pdqsortCmpFunc_api_Table #[(.slice data5 data_n5 data_c5), (.int .i64 a5), (.int .i64 v12), (.int .i64 limit5), cmp5] w_12 fun res12 w_13 =>
  mTup res12 fun l15 =>
  mNil l15 (
  K0 (data5, data_n5, data_c5, IntKind.wrap .i64 (v12 + 1), b5, limit5, cmp5, decide ((IntKind.wrap .i64 (v12 - a5)) ≥ (IntKind.wrap .i64 (Int.tdiv length2 8))), v14) w_13)) (
  CallR Tryd.prog fn_slices_pdqsortCmpFunc_api_Table #[(.slice data5 data_n5 data_c5), (.int .i64 (IntKind.wrap .i64 (v12 + 1))), (.int .i64 b5), (.int .i64 limit5), cmp5] w_12 fun res13 w_14 =>
  mTup res13 fun l16 =>
  mNil l16 (
  K0 (data5, data_n5, data_c5, a5, v12, limit5, cmp5, decide ((IntKind.wrap .i64 (b5 - v12)) ≥ (IntKind.wrap .i64 (Int.tdiv length2 8))), v14) w_14)))))

def slices_pdqsortCmpFunc_api_Table_b1 (data4 : Option Addr) (data_n4 : Nat) (data_c4 : Nat) (a4 : Int) (b4 : Int) (limit4 : Int) (cmp4 : Value) (wasBalanced3 : Bool) (wasPartitioned3 : Bool) (length1 : Int) (pivot : Int) (hint : Int) (K0 : ((Option Addr) × Nat × Nat × Int × Int × Int × Value × Bool × Bool) → World → Prop) (R : Value → World → Prop) (w : World) : Prop :=
  Br wasBalanced3 (
  Br wasPartitioned3 (
  Br (hint == 1) (
  CallR Tryd.prog fn_slices_partialInsertionSortCmpFunc_api_Table #[(.slice data4 data_n4 data_c4), (.int .i64 a4), (.int .i64 b4), cmp4] w fun res5 w_5 =>
  mBool res5 fun v4 =>
  Br v4 (
  R (.tuple #[]) w_5) (
  slices_pdqsortCmpFunc_api_Table_b0 data4 data_n4 data_c4 a4 b4 limit4 cmp4 wasBalanced3 wasPartitioned3 length1 pivot K0 w_5)) (
  slices_pdqsortCmpFunc_api_Table_b0 data4 data_n4 data_c4 a4 b4 limit4 cmp4 wasBalanced3 wasPartitioned3 length1 pivot K0 w)) (
  slices_pdqsortCmpFunc_api_Table_b0 data4 data_n4 data_c4 a4 b4 limit4 cmp4 wasBalanced3 wasPartitioned3 length1 pivot K0 w)) (
  slices_pdqsortCmpFunc_api_Table_b0 data4 data_n4 data_c4 a4 b4 limit4 cmp4 wasBalanced3 wasPartitioned3 length1 pivot K0 w)

def slices_pdqsortCmpFunc_api_Table_b2 (data3 : Option Addr) (data_n3 : Nat) (data_c3 : Nat) (a3 : Int) (b3 : Int) (limit3 : Int) (cmp3 : Value) (wasBalanced2 : Bool) (wasPartitioned2 : Bool) (length : Int) (K0 : ((Option Addr) × Nat × Nat × Int × Int × Int × Value × Bool × Bool) → World → Prop) (R : Value → World → Prop) (w : World) : Prop :=
  CallR Tryd.prog fn_slices_choosePivotCmpFunc_api_Table #[(.slice data3 data_n3 data_c3), (.int .i64 a3), (.int .i64 b3), cmp3] w fun res3 w_3 =>
  mTup res3 fun l3 =>
  mCons l3 fun v l4 =>
  mInt .i64 v fun v1 =>
  mCons l4 fun v2 l5 =>
  mInt .i64 v2 fun v3 =>
  mNil l5 (
  Br (v3 == 2) (
  CallR Tryd.prog fn_slices_reverseRangeCmpFunc_api_Table #[(.slice data3 data_n3 data_c3), (.int .i64 a3), (.int .i64 b3), cmp3] w_3 fun res4 w_4 =>
  mTup res4 fun l6 =>
  mNil l6 (
  slices_pdqsortCmpFunc_api_Table_b1 data3 data_n3 data_c3 a3 b3 limit3 cmp3 wasBalanced2 wasPartitioned2 length (IntKind.wrap .i64 ((IntKind.wrap .i64 (b3 - 1)) - (IntKind.wrap .i64 (v1 - a3)))) 1 K0 R w_4)) (
  slices_pdqsortCmpFunc_api_Table_b1 data3 data_n3 data_c3 a3 b3 limit3 cmp3 wasBalanced2 wasPartitioned2 length v1 v3 K0 R w_3))

def slices_pdqsortCmpFunc_api_Table_b3 (data2 : Option Addr) (data_n2 : Nat) (data_c2 : Nat) (a2 : Int) (b2 : Int) (limit2 : Int) (cmp2 : Value) (wasBalanced1 : Bool) (wasPartitioned1 : Bool) (K0 : ((Option Addr) × Nat × Nat × Int × Int × Int × Value × Bool × Bool) → World → Prop) (R : Value → World → Prop) (w : World) : Prop :=
  Br (decide ((IntKind.wrap .i64 (b2 - a2)) ≤ 12)) (
  CallR Tryd.prog fn_slices_insertionSortCmpFunc_api_Table #[(.slice data2 data_n2 data_c2), (.int .i64 a2), (.int .i64 b2), cmp2] w fun res w_ =>
  mTup res fun l =>
  mNil l (
  R (.tuple #[]) w_)) (
  Br (limit2 == 0) (
  CallR Tryd.prog fn_slices_heapSortCmpFunc_api_Table #[(.slice data2 data_n2 data_c2), (.int .i64 a2), (.int .i64 b2), cmp2] w fun res1 w_1 =>
  mTup res1 fun l1 =>
  mNil l1 (
  R (.tuple #[]) w_1)) (
  Br (!wasBalanced1) (
  CallR Tryd.prog fn_slices_breakPatternsCmpFunc_api_Table #[(.slice data2 data_n2 data_c2), (.int .i64 a2), (.int .i64 b2), cmp2] w fun res2 w_2 =>
  mTup res2 fun l2 =>
  mNil l2 (
  slices_pdqsortCmpFunc_api_Table_b2 data2 data_n2 data_c2 a2 b2 (IntKind.wrap .i64 (limit2 - 1)) cmp2 wasBalanced1 wasPartitioned1 (IntKind.wrap .i64 (b2 - a2)) K0 R w_2)) (
  slices_pdqsortCmpFunc_api_Table_b2 data2 data_n2 data_c2 a2 b2 limit2 cmp2 wasBalanced1 wasPartitioned1 (IntKind.wrap .i64 (b2 - a2)) K0 R w)))

def slices_pdqsortCmpFunc_api_Table_b4 (data1 : Option Addr) (data_n1 : Nat) (data_c1 : Nat) (a1 : Int) (b1 : Int) (limit1 : Int) (cmp1 : Value) (wasBalanced : Bool) (wasPartitioned : Bool) (R : Value → World → Prop) (w : World) : Prop :=
  LoopS (σ := (Option Addr) × Nat × Nat × Int × Int × Int × Value × Bool × Bool) (fun s w K0 =>
  slices_pdqsortCmpFunc_api_Table_b3 s.1 s.2.1 s.2.2.1 s.2.2.2.1 s.2.2.2.2.1 s.2.2.2.2.2.1 s.2.2.2.2.2.2.1 s.2.2.2.2.2.2.2.1 s.2.2.2.2.2.2.2.2 K0 R w) (data1, data_n1, data_c1, a1, b1, limit1, cmp1, wasBalanced, wasPartitioned) w

def slices_pdqsortCmpFunc_api_Table_b5 (data : Option Addr) (data_n : Nat) (data_c : Nat) (a : Int) (b : Int) (limit : Int) (cmp : Value) (R : Value → World → Prop) (w : World) : Prop :=
  slices_pdqsortCmpFunc_api_Table_b4 data data_n data_c a b limit cmp true true R w

def slices_pdqsortCmpFunc_api_Table_p0 : Point ((Option Addr) × Nat × Nat × Int × Int × Int × Value × Bool × Bool) := { slots := fun s => [(0, (.slice s.1 s.2.1 s.2.2.1)), (1, (.int .i64 s.2.2.2.1)), (2, (.int .i64 s.2.2.2.2.1)), (3, (.int .i64 s.2.2.2.2.2.1)), (4, s.2.2.2.2.2.2.1), (10, (.bool s.2.2.2.2.2.2.2.1)), (11, (.bool s.2.2.2.2.2.2.2.2))], dec := fun r K => mSlice (r 0) fun x x1 x2 => mInt .i64 (r 1) fun x3 => mInt .i64 (r 2) fun x4 => mInt .i64 (r 3) fun x5 => mBool (r 10) fun x6 => mBool (r 11) fun x7 => K (x, x1, x2, x3, x4, x5, (r 4), x6, x7) }
theorem slices_pdqsortCmpFunc_api_Table_p0_ok : slices_pdqsortCmpFunc_api_Table_p0.ok := by
  intro r K h
  unfold slices_pdqsortCmpFunc_api_Table_p0 at h
  obtain ⟨x, x1, x2, e0, h⟩ := mSlice_elim h
  obtain ⟨x3, e1, h⟩ := mInt_elim h
  obtain ⟨x4, e2, h⟩ := mInt_elim h
  obtain ⟨x5, e3, h⟩ := mInt_elim h
  obtain ⟨x6, e5, h⟩ := mBool_elim h
  obtain ⟨x7, e6, h⟩ := mBool_elim h
  exact ⟨(x, x1, x2, x3, x4, x5, (r 4), x6, x7), regsOf_self (L := [(0, (.slice x x1 x2)), (1, (.int .i64 x3)), (2, (.int .i64 x4)), (3, (.int .i64 x5)), (4, (r 4)), (10, (.bool x6)), (11, (.bool x7))]) (List.forall_mem_cons.2 ⟨e0, List.forall_mem_cons.2 ⟨e1, List.forall_mem_cons.2 ⟨e2, List.forall_mem_cons.2 ⟨e3, List.forall_mem_cons.2 ⟨rfl, List.forall_mem_cons.2 ⟨e5, List.forall_mem_cons.2 ⟨e6, List.forall_mem_nil _⟩⟩⟩⟩⟩⟩⟩), h⟩
theorem slices_pdqsortCmpFunc_api_Table_p0_re (s : (Option Addr) × Nat × Nat × Int × Int × Int × Value × Bool × Bool) (r : Regs) (K : ((Option Addr) × Nat × Nat × Int × Int × Int × Value × Bool × Bool) → Prop) (h : K s) : slices_pdqsortCmpFunc_api_Table_p0.dec (regsOf (slices_pdqsortCmpFunc_api_Table_p0.slots s) r) K := by
  obtain ⟨x8, x9, x10, x11, x12, x13, x14, x15, x16⟩ := s
  exact cast (show K (x8, x9, x10, x11, x12, x13, x14, x15, x16) = slices_pdqsortCmpFunc_api_Table_p0.dec (regsOf (slices_pdqsortCmpFunc_api_Table_p0.slots (x8, x9, x10, x11, x12, x13, x14, x15, x16)) r) K by kernel_rfl) h

def slices_pdqsortCmpFunc_api_Table_p1 : Point ((Option Addr) × Nat × Nat × Int × Int × Int × Value × Bool × Bool × Int) := { slots := fun s => [(0, (.slice s.1 s.2.1 s.2.2.1)), (1, (.int .i64 s.2.2.2.1)), (2, (.int .i64 s.2.2.2.2.1)), (3, (.int .i64 s.2.2.2.2.2.1)), (4, s.2.2.2.2.2.2.1), (10, (.bool s.2.2.2.2.2.2.2.1)), (11, (.bool s.2.2.2.2.2.2.2.2.1)), (12, (.int .i64 s.2.2.2.2.2.2.2.2.2))], dec := fun r K => mSlice (r 0) fun x x1 x2 => mInt .i64 (r 1) fun x3 => mInt .i64 (r 2) fun x4 => mInt .i64 (r 3) fun x5 => mBool (r 10) fun x6 => mBool (r 11) fun x7 => mInt .i64 (r 12) fun x8 => K (x, x1, x2, x3, x4, x5, (r 4), x6, x7, x8) }
theorem slices_pdqsortCmpFunc_api_Table_p1_ok : slices_pdqsortCmpFunc_api_Table_p1.ok := by
  intro r K h
  unfold slices_pdqsortCmpFunc_api_Table_p1 at h
  obtain ⟨x, x1, x2, e0, h⟩ := mSlice_elim h
  obtain ⟨x3, e1, h⟩ := mInt_elim h
  obtain ⟨x4, e2, h⟩ := mInt_elim h
  obtain ⟨x5, e3, h⟩ := mInt_elim h
  obtain ⟨x6, e5, h⟩ := mBool_elim h
  obtain ⟨x7, e6, h⟩ := mBool_elim h
  obtain ⟨x8, e7, h⟩ := mInt_elim h
  exact ⟨(x, x1, x2, x3, x4, x5, (r 4), x6, x7, x8), regsOf_self (L := [(0, (.slice x x1 x2)), (1, (.int .i64 x3)), (2, (.int .i64 x4)), (3, (.int .i64 x5)), (4, (r 4)), (10, (.bool x6)), (11, (.bool x7)), (12, (.int .i64 x8))]) (List.forall_mem_cons.2 ⟨e0, List.forall_mem_cons.2 ⟨e1, List.forall_mem_cons.2 ⟨e2, List.forall_mem_cons.2 ⟨e3, List.forall_mem_cons.2 ⟨rfl, List.forall_mem_cons.2 ⟨e5, List.forall_mem_cons.2 ⟨e6, List.forall_mem_cons.2 ⟨e7, List.forall_mem_nil _⟩⟩⟩⟩⟩⟩⟩⟩), h⟩
theorem slices_pdqsortCmpFunc_api_Table_p1_re (s : (Option Addr) × Nat × Nat × Int × Int × Int × Value × Bool × Bool × Int) (r : Regs) (K : ((Option Addr) × Nat × Nat × Int × Int × Int × Value × Bool × Bool × Int) → Prop) (h : K s) : slices_pdqsortCmpFunc_api_Table_p1.dec (regsOf (slices_pdqsortCmpFunc_api_Table_p1.slots s) r) K := by
  obtain ⟨x9, x10, x11, x12, x13, x14, x15, x16, x17, x18⟩ := s
  exact cast (show K (x9, x10, x11, x12, x13, x14, x15, x16, x17, x18) = slices_pdqsortCmpFunc_api_Table_p1.dec (regsOf (slices_pdqsortCmpFunc_api_Table_p1.slots (x9, x10, x11, x12, x13, x14, x15, x16, x17, x18)) r) K by kernel_rfl) h

def slices_pdqsortCmpFunc_api_Table_p2 : Point ((Option Addr) × Nat × Nat × Int × Int × Int × Value × Bool × Bool × Int × Int × Int) := { slots := fun s => [(0, (.slice s.1 s.2.1 s.2.2.1)), (1, (.int .i64 s.2.2.2.1)), (2, (.int .i64 s.2.2.2.2.1)), (3, (.int .i64 s.2.2.2.2.2.1)), (4, s.2.2.2.2.2.2.1), (10, (.bool s.2.2.2.2.2.2.2.1)), (11, (.bool s.2.2.2.2.2.2.2.2.1)), (12, (.int .i64 s.2.2.2.2.2.2.2.2.2.1)), (13, (.int .i64 s.2.2.2.2.2.2.2.2.2.2.1)), (14, (.int .i64 s.2.2.2.2.2.2.2.2.2.2.2))], dec := fun r K => mSlice (r 0) fun x x1 x2 => mInt .i64 (r 1) fun x3 => mInt .i64 (r 2) fun x4 => mInt .i64 (r 3) fun x5 => mBool (r 10) fun x6 => mBool (r 11) fun x7 => mInt .i64 (r 12) fun x8 => mInt .i64 (r 13) fun x9 => mInt .i64 (r 14) fun x10 => K (x, x1, x2, x3, x4, x5, (r 4), x6, x7, x8, x9, x10) }
theorem slices_pdqsortCmpFunc_api_Table_p2_ok : slices_pdqsortCmpFunc_api_Table_p2.ok := by
  intro r K h
  unfold slices_pdqsortCmpFunc_api_Table_p2 at h
  obtain ⟨x, x1, x2, e0, h⟩ := mSlice_elim h
  obtain ⟨x3, e1, h⟩ := mInt_elim h
  obtain ⟨x4, e2, h⟩ := mInt_elim h
  obtain ⟨x5, e3, h⟩ := mInt_elim h
  obtain ⟨x6, e5, h⟩ := mBool_elim h
  obtain ⟨x7, e6, h⟩ := mBool_elim h
  obtain ⟨x8, e7, h⟩ := mInt_elim h
  obtain ⟨x9, e8, h⟩ := mInt_elim h
  obtain ⟨x10, e9, h⟩ := mInt_elim h
  exact ⟨(x, x1, x2, x3, x4, x5, (r 4), x6, x7, x8, x9, x10), regsOf_self (L := [(0, (.slice x x1 x2)), (1, (.int .i64 x3)), (2, (.int .i64 x4)), (3, (.int .i64 x5)), (4, (r 4)), (10, (.bool x6)), (11, (.bool x7)), (12, (.int .i64 x8)), (13, (.int .i64 x9)), (14, (.int .i64 x10))]) (List.forall_mem_cons.2 ⟨e0, List.forall_mem_cons.2 ⟨e1, List.forall_mem_cons.2 ⟨e2, List.forall_mem_cons.2 ⟨e3, List.forall_mem_cons.2 ⟨rfl, List.forall_mem_cons.2 ⟨e5, List.forall_mem_cons.2 ⟨e6, List.forall_mem_cons.2 ⟨e7, List.forall_mem_cons.2 ⟨e8, List.forall_mem_cons.2 ⟨e9, List.forall_mem_nil _⟩⟩⟩⟩⟩⟩⟩⟩⟩⟩), h⟩
theorem slices_pdqsortCmpFunc_api_Table_p2_re (s : (Option Addr) × Nat × Nat × Int × Int × Int × Value × Bool × Bool × Int × Int × Int) (r : Regs) (K : ((Option Addr) × Nat × Nat × Int × Int × Int × Value × Bool × Bool × Int × Int × Int) → Prop) (h : K s) : slices_pdqsortCmpFunc_api_Table_p2.dec (regsOf (slices_pdqsortCmpFunc_api_Table_p2.slots s) r) K := by
  obtain ⟨x11, x12, x13, x14, x15, x16, x17, x18, x19, x20, x21, x22⟩ := s
  exact cast (show K (x11, x12, x13, x14, x15, x16, x17, x18, x19, x20, x21, x22) = slices_pdqsortCmpFunc_api_Table_p2.dec (regsOf (slices_pdqsortCmpFunc_api_Table_p2.slots (x11, x12, x13, x14, x15, x16, x17, x18, x19, x20, x21, x22)) r) K by kernel_rfl) h

def slices_pdqsortCmpFunc_api_Table_p3 : Point ((Option Addr) × Nat × Nat × Int × Int × Int × Value × Bool × Bool × Int × Int) := { slots := fun s => [(0, (.slice s.1 s.2.1 s.2.2.1)), (1, (.int .i64 s.2.2.2.1)), (2, (.int .i64 s.2.2.2.2.1)), (3, (.int .i64 s.2.2.2.2.2.1)), (4, s.2.2.2.2.2.2.1), (10, (.bool s.2.2.2.2.2.2.2.1)), (11, (.bool s.2.2.2.2.2.2.2.2.1)), (12, (.int .i64 s.2.2.2.2.2.2.2.2.2.1)), (13, (.int .i64 s.2.2.2.2.2.2.2.2.2.2))], dec := fun r K => mSlice (r 0) fun x x1 x2 => mInt .i64 (r 1) fun x3 => mInt .i64 (r 2) fun x4 => mInt .i64 (r 3) fun x5 => mBool (r 10) fun x6 => mBool (r 11) fun x7 => mInt .i64 (r 12) fun x8 => mInt .i64 (r 13) fun x9 => K (x, x1, x2, x3, x4, x5, (r 4), x6, x7, x8, x9) }
theorem slices_pdqsortCmpFunc_api_Table_p3_ok : slices_pdqsortCmpFunc_api_Table_p3.ok := by
  intro r K h
  unfold slices_pdqsortCmpFunc_api_Table_p3 at h
  obtain ⟨x, x1, x2, e0, h⟩ := mSlice_elim h
  obtain ⟨x3, e1, h⟩ := mInt_elim h
  obtain ⟨x4, e2, h⟩ := mInt_elim h
  obtain ⟨x5, e3, h⟩ := mInt_elim h
  obtain ⟨x6, e5, h⟩ := mBool_elim h
  obtain ⟨x7, e6, h⟩ := mBool_elim h
  obtain ⟨x8, e7, h⟩ := mInt_elim h
  obtain ⟨x9, e8, h⟩ := mInt_elim h
  exact ⟨(x, x1, x2, x3, x4, x5, (r 4), x6, x7, x8, x9), regsOf_self (L := [(0, (.slice x x1 x2)), (1, (.int .i64 x3)), (2, (.int .i64 x4)), (3, (.int .i64 x5)), (4, (r 4)), (10, (.bool x6)), (11, (.bool x7)), (12, (.int .i64 x8)), (13, (.int .i64 x9))]) (List.forall_mem_cons.2 ⟨e0, List.forall_mem_cons.2 ⟨e1, List.forall_mem_cons.2 ⟨e2, List.forall_mem_cons.2 ⟨e3, List.forall_mem_cons.2 ⟨rfl, List.forall_mem_cons.2 ⟨e5, List.forall_mem_cons.2 ⟨e6, List.forall_mem_cons.2 ⟨e7, List.forall_mem_cons.2 ⟨e8, List.forall_mem_nil _⟩⟩⟩⟩⟩⟩⟩⟩⟩), h⟩
theorem slices_pdqsortCmpFunc_api_Table_p3_re (s : (Option Addr) × Nat × Nat × Int × Int × Int × Value × Bool × Bool × Int × Int) (r : Regs) (K : ((Option Addr) × Nat × Nat × Int × Int × Int × Value × Bool × Bool × Int × Int) → Prop) (h : K s) : slices_pdqsortCmpFunc_api_Table_p3.dec (regsOf (slices_pdqsortCmpFunc_api_Table_p3.slots s) r) K := by
  obtain ⟨x10, x11, x12, x13, x14, x15, x16, x17, x18, x19, x20⟩ := s
  exact cast (show K (x10, x11, x12, x13, x14, x15, x16, x17, x18, x19, x20) = slices_pdqsortCmpFunc_api_Table_p3.dec (regsOf (slices_pdqsortCmpFunc_api_Table_p3.slots (x10, x11, x12, x13, x14, x15, x16, x17, x18, x19, x20)) r) K by kernel_rfl) h

theorem slices_pdqsortCmpFunc_api_Table_sound (data : Option Addr) (data_n : Nat) (data_c : Nat) (a : Int) (b : Int) (limit : Int) (cmp : Value) (R : Value → World → Prop) (w : World) (h : slices_pdqsortCmpFunc_api_Table_b5 data data_n data_c a b limit cmp R w) :
    CallR Tryd.prog fn_slices_pdqsortCmpFunc_api_Table #[(.slice data data_n data_c), (.int .i64 a), (.int .i64 b), (.int .i64 limit), cmp] w R := by
  refine CallR_intro (args := [(.slice data data_n data_c), (.int .i64 a), (.int .i64 b), (.int .i64 limit), cmp]) Tryd.func73 rfl (Nat.le_of_ble_eq_true (by kernel_rfl)) ?_
  refine Wp_glue slices_pdqsortCmpFunc_api_Table_p0 (fun s w => slices_pdqsortCmpFunc_api_Table_b4 s.1 s.2.1 s.2.2.1 s.2.2.2.1 s.2.2.2.2.1 s.2.2.2.2.2.1 s.2.2.2.2.2.2.1 s.2.2.2.2.2.2.2.1 s.2.2.2.2.2.2.2.2 R w) [_, _] (Q0 := fun e _ r w => match e with | .normal => slices_pdqsortCmpFunc_api_Table_p0.dec r (fun s => slices_pdqsortCmpFunc_api_Table_b4 s.1 s.2.1 s.2.2.1 s.2.2.2.1 s.2.2.2.2.1 s.2.2.2.2.2.1 s.2.2.2.2.2.2.1 s.2.2.2.2.2.2.2.1 s.2.2.2.2.2.2.2.2 R w) | .exit _ => False | .ret => retQ Tryd.prog Tryd.f73.results R .ret [] r w | _ => False) h (by kernel_rfl) (fun s r w h => ?_) slices_pdqsortCmpFunc_api_Table_p0_ok (fun _ _ _ h => h) ?_
  · obtain ⟨data1, data_n1, data_c1, a1, b1, limit1, cmp1, wasBalanced, wasPartitioned⟩ := s
    have h : slices_pdqsortCmpFunc_api_Table_b4 data1 data_n1 data_c1 a1 b1 limit1 cmp1 wasBalanced wasPartitioned R w := h
    refine Wp_block ?_
    refine Wp_loop (p := slices_pdqsortCmpFunc_api_Table_p0) slices_pdqsortCmpFunc_api_Table_p0_ok (fun s r w K0 h => ?_) h
    obtain ⟨data2, data_n2, data_c2, a2, b2, limit2, cmp2, wasBalanced1, wasPartitioned1⟩ := s
    have h : slices_pdqsortCmpFunc_api_Table_b3 data2 data_n2 data_c2 a2 b2 limit2 cmp2 wasBalanced1 wasPartitioned1 K0 R w := h
    have hK2 := fun (s : (Option Addr) × Nat × Nat × Int × Int × Int × Value × Bool × Bool) (r : Regs) (w : World) (h : K0 s w) => slices_pdqsortCmpFunc_api_Table_p0_re s r (fun s => K0 s w) h
    refine Wp_block_via slices_pdqsortCmpFunc_api_Table_p0 (fun s w => K0 s w) hK2 (fun hX3 => ?_)
    refine Wp_glue slices_pdqsortCmpFunc_api_Table_p1 (fun s w => slices_pdqsortCmpFunc_api_Table_b2 s.1 s.2.1 s.2.2.1 s.2.2.2.1 s.2.2.2.2.1 s.2.2.2.2.2.1 s.2.2.2.2.2.2.1 s.2.2.2.2.2.2.2.1 s.2.2.2.2.2.2.2.2.1 s.2.2.2.2.2.2.2.2.2 K0 R w) [_, _, _, _] (Q0 := fun e _ r w => match e with | .normal => slices_pdqsortCmpFunc_api_Table_p1.dec r (fun s => slices_pdqsortCmpFunc_api_Table_b2 s.1 s.2.1 s.2.2.1 s.2.2.2.1 s.2.2.2.2.1 s.2.2.2.2.2.1 s.2.2.2.2.2.2.1 s.2.2.2.2.2.2.2.1 s.2.2.2.2.2.2.2.2.1 s.2.2.2.2.2.2.2.2.2 K0 R w) | .exit i => exitQ i 1 (slices_pdqsortCmpFunc_api_Table_p0.dec r (fun s => K0 s w)) (False) | .ret => retQ Tryd.prog Tryd.f73.results R .ret [] r w | _ => False) h (by kernel_rfl) (fun s r w h => ?_) slices_pdqsortCmpFunc_api_Table_p1_ok (fun _ _ _ h => h) ?_
    · obtain ⟨data3, data_n3, data_c3, a3, b3, limit3, cmp3, wasBalanced2, wasPartitioned2, length⟩ := s
      have h : slices_pdqsortCmpFunc_api_Table_b2 data3 data_n3 data_c3 a3 b3 limit3 cmp3 wasBalanced2 wasPartitioned2 length K0 R w := h
      refine Wp_glue slices_pdqsortCmpFunc_api_Table_p2 (fun s w => slices_pdqsortCmpFunc_api_Table_b1 s.1 s.2.1 s.2.2.1 s.2.2.2.1 s.2.2.2.2.1 s.2.2.2.2.2.1 s.2.2.2.2.2.2.1 s.2.2.2.2.2.2.2.1 s.2.2.2.2.2.2.2.2.1 s.2.2.2.2.2.2.2.2.2.1 s.2.2.2.2.2.2.2.2.2.2.1 s.2.2.2.2.2.2.2.2.2.2.2 K0 R w) [_, _] (Q0 := fun e _ r w => match e with | .normal => slices_pdqsortCmpFunc_api_Table_p2.dec r (fun s => slices_pdqsortCmpFunc_api_Table_b1 s.1 s.2.1 s.2.2.1 s.2.2.2.1 s.2.2.2.2.1 s.2.2.2.2.2.1 s.2.2.2.2.2.2.1 s.2.2.2.2.2.2.2.1 s.2.2.2.2.2.2.2.2.1 s.2.2.2.2.2.2.2.2.2.1 s.2.2.2.2.2.2.2.2.2.2.1 s.2.2.2.2.2.2.2.2.2.2.2 K0 R w) | .exit i => exitQ i 1 (slices_pdqsortCmpFunc_api_Table_p0.dec r (fun s => K0 s w)) (False) | .ret => retQ Tryd.prog Tryd.f73.results R .ret [] r w | _ => False) h (by kernel_rfl) (fun s r w h => ?_) slices_pdqsortCmpFunc_api_Table_p2_ok (fun _ _ _ h => h) ?_
      · obtain ⟨data4, data_n4, data_c4, a4, b4, limit4, cmp4, wasBalanced3, wasPartitioned3, length1, pivot, hint⟩ := s
        have h : slices_pdqsortCmpFunc_api_Table_b1 data4 data_n4 data_c4 a4 b4 limit4 cmp4 wasBalanced3 wasPartitioned3 length1 pivot hint K0 R w := h
        refine Wp_glue slices_pdqsortCmpFunc_api_Table_p3 (fun s w => slices_pdqsortCmpFunc_api_Table_b0 s.1 s.2.1 s.2.2.1 s.2.2.2.1 s.2.2.2.2.1 s.2.2.2.2.2.1 s.2.2.2.2.2.2.1 s.2.2.2.2.2.2.2.1 s.2.2.2.2.2.2.2.2.1 s.2.2.2.2.2.2.2.2.2.1 s.2.2.2.2.2.2.2.2.2.2 K0 w) [_] (Q0 := fun e _ r w => match e with | .normal => slices_pdqsortCmpFunc_api_Table_p3.dec r (fun s => slices_pdqsortCmpFunc_api_Table_b0 s.1 s.2.1 s.2.2.1 s.2.2.2.1 s.2.2.2.2.1 s.2.2.2.2.2.1 s.2.2.2.2.2.2.1 s.2.2.2.2.2.2.2.1 s.2.2.2.2.2.2.2.2.1 s.2.2.2.2.2.2.2.2.2.1 s.2.2.2.2.2.2.2.2.2.2 K0 w) | .exit i => exitQ i 1 (slices_pdqsortCmpFunc_api_Table_p0.dec r (fun s => K0 s w)) (False) | .ret => retQ Tryd.prog Tryd.f73.results R .ret [] r w | _ => False) h (by kernel_rfl) (fun s r w h => ?_) slices_pdqsortCmpFunc_api_Table_p3_ok (fun _ _ _ h => h) ?_
        · obtain ⟨data5, data_n5, data_c5, a5, b5, limit5, cmp5, wasBalanced4, wasPartitioned4, length2, pivot1⟩ := s
          have h : slices_pdqsortCmpFunc_api_Table_b0 data5 data_n5 data_c5 a5 b5 limit5 cmp5 wasBalanced4 wasPartitioned4 length2 pivot1 K0 w := h
          refine Wp_leaf_end (Q0 := fun e _ r w => match e with | .normal => slices_pdqsortCmpFunc_api_Table_p0.dec r (fun s => K0 s w) | .exit i => exitQ i 1 (slices_pdqsortCmpFunc_api_Table_p0.dec r (fun s => K0 s w)) (False) | .ret => retQ Tryd.prog Tryd.f73.results R .ret [] r w | _ => False) h (by kernel_rfl) ?_
          intro e _ r w h
          cases e with
          | normal =>
            obtain ⟨s, hs, h⟩ := slices_pdqsortCmpFunc_api_Table_p0_ok _ _ h
            rw [← hs]
            exact hK2 s r w h
          | exit i =>
            rcases exitQ_elim h with ⟨rfl, h⟩ | ⟨_, h⟩
            · obtain ⟨s, hs, h⟩ := slices_pdqsortCmpFunc_api_Table_p0_ok _ _ h
              rw [← hs]
              exact hX3 s r w h
            exact h.elim
          | ret => exact h
          | goto i => exact h.elim
          | panic c => exact h.elim
          | outgrown => exact h.elim
        · intro e _ r w hne h
          cases e with
          | normal => exact absurd rfl hne
          | exit i =>
            rcases exitQ_elim h with ⟨rfl, h⟩ | ⟨_, h⟩
            · obtain ⟨s, hs, h⟩ := slices_pdqsortCmpFunc_api_Table_p0_ok _ _ h
              rw [← hs]
              exact hX3 s r w h
            exact h.elim
          | ret => exact h
          | goto i => exact h.elim
          | panic c => exact h.elim
          | outgrown => exact h.elim
      · intro e _ r w hne h
        cases e with
        | normal => exact absurd rfl hne
        | exit i =>
          rcases exitQ_elim h with ⟨rfl, h⟩ | ⟨_, h⟩
          · obtain ⟨s, hs, h⟩ := slices_pdqsortCmpFunc_api_Table_p0_ok _ _ h
            rw [← hs]
            exact hX3 s r w h
          exact h.elim
        | ret => exact h
        | goto i => exact h.elim
        | panic c => exact h.elim
        | outgrown => exact h.elim
    · intro e _ r w hne h
      cases e with
      | normal => exact absurd rfl hne
      | exit i =>
        rcases exitQ_elim h with ⟨rfl, h⟩ | ⟨_, h⟩
        · obtain ⟨s, hs, h⟩ := slices_pdqsortCmpFunc_api_Table_p0_ok _ _ h
          rw [← hs]
          exact hX3 s r w h
        exact h.elim
      | ret => exact h
      | goto i => exact h.elim
      | panic c => exact h.elim
      | outgrown => exact h.elim
  · intro e _ r w hne h
    cases e with
    | normal => exact absurd rfl hne
    | exit i => exact h.elim
    | ret => exact h
    | goto i => exact h.elim
    | panic c => exact h.elim
    | outgrown => exact h.elim

/- slices.insertionSortCmpFunc[glacier/api.Table] -/
def slices_insertionSortCmpFunc_api_Table_b0 (data6 : Option Addr) (data_n6 : Nat) (data_c6 : Nat) (a12 : Int) (b6 : Int) (cmp6 : Value) (i5 : Int) (K0 : ((Option Addr) × Nat × Nat × Int × Int × Value × Int) → World → Prop) (w : World) : Prop :=
  K0 (data6, data_n6, data_c6, a12, b6, cmp6, IntKind.wrap .i64 (i5 + 1)) w

def slices_insertionSortCmpFunc_api_Table_b1 (data5 : Option Addr) (data_n5 : Nat) (data_c5 : Nat) (a5 : Int) (b5 : Int) (cmp5 : Value) (i4 : Int) (j1 : Int) (K0 : ((Option Addr) × Nat × Nat × Int × Int × Value × Int) → World → Prop) (K1 : ((Option Addr) × Nat × Nat × Int × Int × Value × Int × Int) → World → Prop) (w : World) : Prop :=
  LetW (World.drew w) fun w_ =>
  Br (decide (j1 > a5)) (
  IX data5 data_n5 j1 5 fun a6 =>
  LDI .i64 w_ a6 fun File =>
  LDI .i64 w_ (Addr.add a6 1) fun Level =>
  LDS w_ (Addr.add a6 2) fun First =>
  LDS w_ (Addr.add a6 3) fun Last =>
  LDI .i64 w_ (Addr.add a6 4) fun Size =>
  IX data5 data_n5 (IntKind.wrap .i64 (j1 - 1)) 5 fun a7 =>
  LDI .i64 w_ a7 fun File1 =>
  LDI .i64 w_ (Addr.add a7 1) fun Level1 =>
  LDS w_ (Addr.add a7 2) fun First1 =>
  LDS w_ (Addr.add a7 3) fun Last1 =>
  LDI .i64 w_ (Addr.add a7 4) fun Size1 =>
  CallV Tryd.prog cmp5 [(.agg #[(.int .i64 File), (.int .i64 Level), (.string First), (.string Last), (.int .i64 Size)]), (.agg #[(.int .i64 File1), (.int .i64 Level1), (.string First1), (.string Last1), (.int .i64 Size1)])] w_ fun res w_1 =>
  mInt .i64 res fun v =>
  Br (decide (v < 0)) (
  LetW (World.drew w_1) fun w_2 =>
  IX data5 data_n5 (IntKind.wrap .i64 (j1 - 1)) 5 fun a8 =>
  LDI .i64 w_2 a8 fun File2 =>
  LDI .i64 w_2 (Addr.add a8 1) fun Level2 =>
  LDS w_2 (Addr.add a8 2) fun First2 =>
  LDS w_2 (Addr.add a8 3) fun Last2 =>
  LDI .i64 w_2 (Addr.add a8 4) fun Size2 =>
  IX data5 data_n5 j1 5 fun a9 =>
  LDI .i64 w_2 a9 fun File3 =>
  LDI .i64 w_2 (Addr.add a9 1) fun Level3 =>
  LDS w_2 (Addr.add a9 2) fun First3 =>
  LDS w_2 (Addr.add a9 3) fun Last3 =>
  LDI .i64 w_2 (Addr.add a9 4) fun Size3 =>
  IX data5 data_n5 j1 5 fun a10 =>
  ST w_2 a10 (.int .i64 File2) fun w_3 =>
  ST w_3 (Addr.add a10 1) (.int .i64 Level2) fun w_4 =>
  ST w_4 (Addr.add a10 2) (.string First2) fun w_5 =>
  ST w_5 (Addr.add a10 3) (.string Last2) fun w_6 =>
  ST w_6 (Addr.add a10 4) (.int .i64 Size2) fun w_7 =>
  IX data5 data_n5 (IntKind.wrap .i64 (j1 - 1)) 5 fun a11 =>
  ST w_7 a11 (.int .i64 File3) fun w_8 =>
  ST w_8 (Addr.add a11 1) (.int .i64 Level3) fun w_9 =>
  ST w_9 (Addr.add a11 2) (.string First3) fun w_10 =>
  ST w_10 (Addr.add a11 3) (.string Last3) fun w_11 =>
  ST w_11 (Addr.add a11 4) (.int .i64 Size3) fun w_12 =>
  K1 (data5, data_n5, data_c5, a5, b5, cmp5, i4, IntKind.wrap .i64 (j1 - 1)) w_12) (
  slices_insertionSortCmpFunc_api_Table_b0 data5 data_n5 data_c5 a5 b5 cmp5 i4 K0 w_1)) (
  slices_insertionSortCmpFunc_api_Table_b0 data5 data_n5 data_c5 a5 b5 cmp5 i4 K0 w_)

def slices_insertionSortCmpFunc_api_Table_b2 (data4 : Option Addr) (data_n4 : Nat) (data_c4 : Nat) (a4 : Int) (b4 : Int) (cmp4 : Value) (i3 : Int) (j : Int) (K0 : ((Option Addr) × Nat × Nat × Int × Int × Value × Int) → World → Prop) (w : World) : Prop :=
  LoopS (σ := (Option Addr) × Nat × Nat × Int × Int × Value × Int × Int) (fun s w K1 =>
  slices_insertionSortCmpFunc_api_Table_b1 s.1 s.2.1 s.2.2.1 s.2.2.2.1 s.2.2.2.2.1 s.2.2.2.2.2.1 s.2.2.2.2.2.2.1 s.2.2.2.2.2.2.2 K0 K1 w) (data4, data_n4, data_c4, a4, b4, cmp4, i3, j) w

def slices_insertionSortCmpFunc_api_Table_b3 (data3 : Option Addr) (data_n3 : Nat) (data_c3 : Nat) (a3 : Int) (b3 : Int) (cmp3 : Value) (i2 : Int) (K0 : ((Option Addr) × Nat × Nat × Int × Int × Value × Int) → World → Prop) (w : World) : Prop :=
  slices_insertionSortCmpFunc_api_Table_b2 data3 data_n3 data_c3 a3 b3 cmp3 i2 i2 K0 w

def slices_insertionSortCmpFunc_api_Table_b4 (R : Value → World → Prop) (w : World) : Prop :=
  R (.tuple #[]) w

def slices_insertionSortCmpFunc_api_Table_b5 (data2 : Option Addr) (data_n2 : Nat) (data_c2 : Nat) (a2 : Int) (b2 : Int) (cmp2 : Value) (i1 : Int) (K0 : ((Option Addr) × Nat × Nat × Int × Int × Value × Int) → World → Prop) (R : Value → World → Prop) (w : World) : Prop :=
  Br (decide (i1 < b2)) (
  slices_insertionSortCmpFunc_api_Table_b3 data2 data_n2 data_c2 a2 b2 cmp2 i1 K0 w) (
  slices_insertionSortCmpFunc_api_Table_b4 R w)

def slices_insertionSortCmpFunc_api_Table_b6 (data1 : Option Addr) (data_n1 : Nat) (data_c1 : Nat) (a1 : Int) (b1 : Int) (cmp1 : Value) (i : Int) (R : Value → World → Prop) (w : World) : Prop :=
  LoopS (σ := (Option Addr) × Nat × Nat × Int × Int × Value × Int) (fun s w K0 =>
  slices_insertionSortCmpFunc_api_Table_b5 s.1 s.2.1 s.2.2.1 s.2.2.2.1 s.2.2.2.2.1 s.2.2.2.2.2.1 s.2.2.2.2.2.2 K0 R w) (data1, data_n1, data_c1, a1, b1, cmp1, i) w

def slices_insertionSortCmpFunc_api_Table_b7 (data : Option Addr) (data_n : Nat) (data_c : Nat) (a : Int) (b : Int) (cmp : Value) (R : Value → World → Prop) (w : World) : Prop :=
  slices_insertionSortCmpFunc_api_Table_b6 data data_n data_c a b cmp (IntKind.wrap .i64 (a + 1)) R w

def slices_insertionSortCmpFunc_api_Table_p0 : Point ((Option Addr) × Nat × Nat × Int × Int × Value × Int) := { slots := fun s => [(0, (.slice s.1 s.2.1 s.2.2.1)), (1, (.int .i64 s.2.2.2.1)), (2, (.int .i64 s.2.2.2.2.1)), (3, s.2.2.2.2.2.1), (8, (.int .i64 s.2.2.2.2.2.2))], dec := fun r K => mSlice (r 0) fun x x1 x2 => mInt .i64 (r 1) fun x3 => mInt .i64 (r 2) fun x4 => mInt .i64 (r 8) fun x5 => K (x, x1, x2, x3, x4, (r 3), x5) }
theorem slices_insertionSortCmpFunc_api_Table_p0_ok : slices_insertionSortCmpFunc_api_Table_p0.ok := by
  intro r K h
  unfold slices_insertionSortCmpFunc_api_Table_p0 at h
  obtain ⟨x, x1, x2, e0, h⟩ := mSlice_elim h
  obtain ⟨x3, e1, h⟩ := mInt_elim h
  obtain ⟨x4, e2, h⟩ := mInt_elim h
  obtain ⟨x5, e4, h⟩ := mInt_elim h
  exact ⟨(x, x1, x2, x3, x4, (r 3), x5), regsOf_self (L := [(0, (.slice x x1 x2)), (1, (.int .i64 x3)), (2, (.int .i64 x4)), (3, (r 3)), (8, (.int .i64 x5))]) (List.forall_mem_cons.2 ⟨e0, List.forall_mem_cons.2 ⟨e1, List.forall_mem_cons.2 ⟨e2, List.forall_mem_cons.2 ⟨rfl, List.forall_mem_cons.2 ⟨e4, List.forall_mem_nil _⟩⟩⟩⟩⟩), h⟩
theorem slices_insertionSortCmpFunc_api_Table_p0_re (s : (Option Addr) × Nat × Nat × Int × Int × Value × Int) (r : Regs) (K : ((Option Addr) × Nat × Nat × Int × Int × Value × Int) → Prop) (h : K s) : slices_insertionSortCmpFunc_api_Table_p0.dec (regsOf (slices_insertionSortCmpFunc_api_Table_p0.slots s) r) K := by
  obtain ⟨x6, x7, x8, x9, x10, x11, x12⟩ := s
  exact cast (show K (x6, x7, x8, x9, x10, x11, x12) = slices_insertionSortCmpFunc_api_Table_p0.dec (regsOf (slices_insertionSortCmpFunc_api_Table_p0.slots (x6, x7, x8, x9, x10, x11, x12)) r) K by kernel_rfl) h

def slices_insertionSortCmpFunc_api_Table_p1 : Point ((Option Addr) × Nat × Nat × Int × Int × Value × Int) := { slots := fun s => [(0, (.slice s.1 s.2.1 s.2.2.1)), (1, (.int .i64 s.2.2.2.1)), (2, (.int .i64 s.2.2.2.2.1)), (3, s.2.2.2.2.2.1), (8, (.int .i64 s.2.2.2.2.2.2))], dec := fun r K => mSlice (r 0) fun x x1 x2 => mInt .i64 (r 1) fun x3 => mInt .i64 (r 2) fun x4 => mInt .i64 (r 8) fun x5 => K (x, x1, x2, x3, x4, (r 3), x5) }
theorem slices_insertionSortCmpFunc_api_Table_p1_ok : slices_insertionSortCmpFunc_api_Table_p1.ok := by
  intro r K h
  unfold slices_insertionSortCmpFunc_api_Table_p1 at h
  obtain ⟨x, x1, x2, e0, h⟩ := mSlice_elim h
  obtain ⟨x3, e1, h⟩ := mInt_elim h
  obtain ⟨x4, e2, h⟩ := mInt_elim h
  obtain ⟨x5, e4, h⟩ := mInt_elim h
  exact ⟨(x, x1, x2, x3, x4, (r 3), x5), regsOf_self (L := [(0, (.slice x x1 x2)), (1, (.int .i64 x3)), (2, (.int .i64 x4)), (3, (r 3)), (8, (.int .i64 x5))]) (List.forall_mem_cons.2 ⟨e0, List.forall_mem_cons.2 ⟨e1, List.forall_mem_cons.2 ⟨e2, List.forall_mem_cons.2 ⟨rfl, List.forall_mem_cons.2 ⟨e4, List.forall_mem_nil _⟩⟩⟩⟩⟩), h⟩
theorem slices_insertionSortCmpFunc_api_Table_p1_re (s : (Option Addr) × Nat × Nat × Int × Int × Value × Int) (r : Regs) (K : ((Option Addr) × Nat × Nat × Int × Int × Value × Int) → Prop) (h : K s) : slices_insertionSortCmpFunc_api_Table_p1.dec (regsOf (slices_insertionSortCmpFunc_api_Table_p1.slots s) r) K := by
  obtain ⟨x6, x7, x8, x9, x10, x11, x12⟩ := s
  exact cast (show K (x6, x7, x8, x9, x10, x11, x12) = slices_insertionSortCmpFunc_api_Table_p1.dec (regsOf (slices_insertionSortCmpFunc_api_Table_p1.slots (x6, x7, x8, x9, x10, x11, x12)) r) K by kernel_rfl) h

def slices_insertionSortCmpFunc_api_Table_p2 : Point ((Option Addr) × Nat × Nat × Int × Int × Value × Int) := { slots := fun s => [(0, (.slice s.1 s.2.1 s.2.2.1)), (1, (.int .i64 s.2.2.2.1)), (2, (.int .i64 s.2.2.2.2.1)), (3, s.2.2.2.2.2.1), (8, (.int .i64 s.2.2.2.2.2.2))], dec := fun r K => mSlice (r 0) fun x x1 x2 => mInt .i64 (r 1) fun x3 => mInt .i64 (r 2) fun x4 => mInt .i64 (r 8) fun x5 => K (x, x1, x2, x3, x4, (r 3), x5) }
theorem slices_insertionSortCmpFunc_api_Table_p2_ok : slices_insertionSortCmpFunc_api_Table_p2.ok := by
  intro r K h
  unfold slices_insertionSortCmpFunc_api_Table_p2 at h
  obtain ⟨x, x1, x2, e0, h⟩ := mSlice_elim h
  obtain ⟨x3, e1, h⟩ := mInt_elim h
  obtain ⟨x4, e2, h⟩ := mInt_elim h
  obtain ⟨x5, e4, h⟩ := mInt_elim h
  exact ⟨(x, x1, x2, x3, x4, (r 3), x5), regsOf_self (L := [(0, (.slice x x1 x2)), (1, (.int .i64 x3)), (2, (.int .i64 x4)), (3, (r 3)), (8, (.int .i64 x5))]) (List.forall_mem_cons.2 ⟨e0, List.forall_mem_cons.2 ⟨e1, List.forall_mem_cons.2 ⟨e2, List.forall_mem_cons.2 ⟨rfl, List.forall_mem_cons.2 ⟨e4, List.forall_mem_nil _⟩⟩⟩⟩⟩), h⟩
theorem slices_insertionSortCmpFunc_api_Table_p2_re (s : (Option Addr) × Nat × Nat × Int × Int × Value × Int) (r : Regs) (K : ((Option Addr) × Nat × Nat × Int × Int × Value × Int) → Prop) (h : K s) : slices_insertionSortCmpFunc_api_Table_p2.dec (regsOf (slices_insertionSortCmpFunc_api_Table_p2.slots s) r) K := by
  obtain ⟨x6, x7, x8, x9, x10, x11, x12⟩ := s
  exact cast (show K (x6, x7, x8, x9, x10, x11, x12) = slices_insertionSortCmpFunc_api_Table_p2.dec (regsOf (slices_insertionSortCmpFunc_api_Table_p2.slots (x6, x7, x8, x9, x10, x11, x12)) r) K by kernel_rfl) h

def slices_insertionSortCmpFunc_api_Table_p3 : Point ((Option Addr) × Nat × Nat × Int × Int × Value × Int × Int) := { slots := fun s => [(0, (.slice s.1 s.2.1 s.2.2.1)), (1, (.int .i64 s.2.2.2.1)), (2, (.int .i64 s.2.2.2.2.1)), (3, s.2.2.2.2.2.1), (8, (.int .i64 s.2.2.2.2.2.2.1)), (9, (.int .i64 s.2.2.2.2.2.2.2))], dec := fun r K => mSlice (r 0) fun x x1 x2 => mInt .i64 (r 1) fun x3 => mInt .i64 (r 2) fun x4 => mInt .i64 (r 8) fun x5 => mInt .i64 (r 9) fun x6 => K (x, x1, x2, x3, x4, (r 3), x5, x6) }
theorem slices_insertionSortCmpFunc_api_Table_p3_ok : slices_insertionSortCmpFunc_api_Table_p3.ok := by
  intro r K h
  unfold slices_insertionSortCmpFunc_api_Table_p3 at h
  obtain ⟨x, x1, x2, e0, h⟩ := mSlice_elim h
  obtain ⟨x3, e1, h⟩ := mInt_elim h
  obtain ⟨x4, e2, h⟩ := mInt_elim h
  obtain ⟨x5, e4, h⟩ := mInt_elim h
  obtain ⟨x6, e5, h⟩ := mInt_elim h
  exact ⟨(x, x1, x2, x3, x4, (r 3), x5, x6), regsOf_self (L := [(0, (.slice x x1 x2)), (1, (.int .i64 x3)), (2, (.int .i64 x4)), (3, (r 3)), (8, (.int .i64 x5)), (9, (.int .i64 x6))]) (List.forall_mem_cons.2 ⟨e0, List.forall_mem_cons.2 ⟨e1, List.forall_mem_cons.2 ⟨e2, List.forall_mem_cons.2 ⟨rfl, List.forall_mem_cons.2 ⟨e4, List.forall_mem_cons.2 ⟨e5, List.forall_mem_nil _⟩⟩⟩⟩⟩⟩), h⟩
theorem slices_insertionSortCmpFunc_api_Table_p3_re (s : (Option Addr) × Nat × Nat × Int × Int × Value × Int × Int) (r : Regs) (K : ((Option Addr) × Nat × Nat × Int × Int × Value × Int × Int) → Prop) (h : K s) : slices_insertionSortCmpFunc_api_Table_p3.dec (regsOf (slices_insertionSortCmpFunc_api_Table_p3.slots s) r) K := by
  obtain ⟨x7, x8, x9, x10, x11, x12, x13, x14⟩ := s
  exact cast (show K (x7, x8, x9, x10, x11, x12, x13, x14) = slices_insertionSortCmpFunc_api_Table_p3.dec (regsOf (slices_insertionSortCmpFunc_api_Table_p3.slots (x7, x8, x9, x10, x11, x12, x13, x14)) r) K by kernel_rfl) h

def slices_insertionSortCmpFunc_api_Table_p4 : Point (Unit) := { slots := fun _ => [], dec := fun _ K => K () }
theorem slices_insertionSortCmpFunc_api_Table_p4_ok : slices_insertionSortCmpFunc_api_Table_p4.ok := by
  intro r K h
  unfold slices_insertionSortCmpFunc_api_Table_p4 at h
  exact ⟨(), regsOf_self (L := []) (List.forall_mem_nil _), h⟩
theorem slices_insertionSortCmpFunc_api_Table_p4_re (s : Unit) (r : Regs) (K : Unit → Prop) (h : K s) : slices_insertionSortCmpFunc_api_Table_p4.dec (regsOf (slices_insertionSortCmpFunc_api_Table_p4.slots s) r) K := by
  exact cast (show K () = slices_insertionSortCmpFunc_api_Table_p4.dec (regsOf (slices_insertionSortCmpFunc_api_Table_p4.slots ()) r) K by kernel_rfl) h

theorem slices_insertionSortCmpFunc_api_Table_sound (data : Option Addr) (data_n : Nat) (data_c : Nat) (a : Int) (b : Int) (cmp : Value) (R : Value → World → Prop) (w : World) (h : slices_insertionSortCmpFunc_api_Table_b7 data data_n data_c a b cmp R w) :
    CallR Tryd.prog fn_slices_insertionSortCmpFunc_api_Table #[(.slice data data_n data_c), (.int .i64 a), (.int .i64 b), cmp] w R := by
  refine CallR_intro (args := [(.slice data data_n data_c), (.int .i64 a), (.int .i64 b), cmp]) Tryd.func88 rfl (Nat.le_of_ble_eq_true (by kernel_rfl)) ?_
  have hEnd : ∀ (s : Unit) (r : Regs) (w : World), slices_insertionSortCmpFunc_api_Table_b4 R w → retQ Tryd.prog Tryd.f88.results R .normal [] (regsOf (slices_insertionSortCmpFunc_api_Table_p4.slots s) r) w := by
    intro s r w h
    cases s
    have h : slices_insertionSortCmpFunc_api_Table_b4 R w := h
    exact cast (show (slices_insertionSortCmpFunc_api_Table_b4 R w) = retQ Tryd.prog Tryd.f88.results R .normal [] (regsOf (slices_insertionSortCmpFunc_api_Table_p4.slots ()) r) w by kernel_rfl) h
  refine Wp_glue slices_insertionSortCmpFunc_api_Table_p0 (fun s w => slices_insertionSortCmpFunc_api_Table_b6 s.1 s.2.1 s.2.2.1 s.2.2.2.1 s.2.2.2.2.1 s.2.2.2.2.2.1 s.2.2.2.2.2.2 R w) [_] (Q0 := fun e _ r w => match e with | .normal => slices_insertionSortCmpFunc_api_Table_p0.dec r (fun s => slices_insertionSortCmpFunc_api_Table_b6 s.1 s.2.1 s.2.2.1 s.2.2.2.1 s.2.2.2.2.1 s.2.2.2.2.2.1 s.2.2.2.2.2.2 R w) | .exit _ => False | .ret => retQ Tryd.prog Tryd.f88.results R .ret [] r w | _ => False) h (by kernel_rfl) (fun s r w h => ?_) slices_insertionSortCmpFunc_api_Table_p0_ok (fun _ _ _ h => h) ?_
  · obtain ⟨data1, data_n1, data_c1, a1, b1, cmp1, i⟩ := s
    have h : slices_insertionSortCmpFunc_api_Table_b6 data1 data_n1 data_c1 a1 b1 cmp1 i R w := h
    refine Wp_block_via slices_insertionSortCmpFunc_api_Table_p4 (fun _ w => slices_insertionSortCmpFunc_api_Table_b4 R w) hEnd (fun hX1 => ?_)
    refine Wp_loop (p := slices_insertionSortCmpFunc_api_Table_p0) slices_insertionSortCmpFunc_api_Table_p0_ok (fun s r w K0 h => ?_) h
    obtain ⟨data2, data_n2, data_c2, a2, b2, cmp2, i1⟩ := s
    have h : slices_insertionSortCmpFunc_api_Table_b5 data2 data_n2 data_c2 a2 b2 cmp2 i1 K0 R w := h
    have hK2 := fun (s : (Option Addr) × Nat × Nat × Int × Int × Value × Int) (r : Regs) (w : World) (h : K0 s w) => slices_insertionSortCmpFunc_api_Table_p0_re s r (fun s => K0 s w) h
    refine Wp_glue slices_insertionSortCmpFunc_api_Table_p1 (fun s w => slices_insertionSortCmpFunc_api_Table_b3 s.1 s.2.1 s.2.2.1 s.2.2.2.1 s.2.2.2.2.1 s.2.2.2.2.2.1 s.2.2.2.2.2.2 K0 w) [_] (Q0 := fun e _ r w => match e with | .normal => slices_insertionSortCmpFunc_api_Table_p1.dec r (fun s => slices_insertionSortCmpFunc_api_Table_b3 s.1 s.2.1 s.2.2.1 s.2.2.2.1 s.2.2.2.2.1 s.2.2.2.2.2.1 s.2.2.2.2.2.2 K0 w) | .exit i => exitQ i 0 (slices_insertionSortCmpFunc_api_Table_p4.dec r (fun _ => slices_insertionSortCmpFunc_api_Table_b4 R w)) (False) | .ret => retQ Tryd.prog Tryd.f88.results R .ret [] r w | _ => False) h (by kernel_rfl) (fun s r w h => ?_) slices_insertionSortCmpFunc_api_Table_p1_ok (fun _ _ _ h => h) ?_
    · obtain ⟨data3, data_n3, data_c3, a3, b3, cmp3, i2⟩ := s
      have h : slices_insertionSortCmpFunc_api_Table_b3 data3 data_n3 data_c3 a3 b3 cmp3 i2 K0 w := h
      refine Wp_seq_via slices_insertionSortCmpFunc_api_Table_p2 (fun s w => slices_insertionSortCmpFunc_api_Table_b0 s.1 s.2.1 s.2.2.1 s.2.2.2.1 s.2.2.2.2.1 s.2.2.2.2.2.1 s.2.2.2.2.2.2 K0 w) (fun s r w h => ?_) (fun hN3 => ?_)
      · obtain ⟨data6, data_n6, data_c6, a12, b6, cmp6, i5⟩ := s
        have h : slices_insertionSortCmpFunc_api_Table_b0 data6 data_n6 data_c6 a12 b6 cmp6 i5 K0 w := h
        refine Wp_leaf_end (Q0 := fun e _ r w => match e with | .normal => slices_insertionSortCmpFunc_api_Table_p0.dec r (fun s => K0 s w) | .exit i => exitQ i 0 (slices_insertionSortCmpFunc_api_Table_p4.dec r (fun _ => slices_insertionSortCmpFunc_api_Table_b4 R w)) (False) | .ret => retQ Tryd.prog Tryd.f88.results R .ret [] r w | _ => False) h (by kernel_rfl) ?_
        intro e _ r w h
        cases e with
        | normal =>
          obtain ⟨s, hs, h⟩ := slices_insertionSortCmpFunc_api_Table_p0_ok _ _ h
          rw [← hs]
          exact hK2 s r w h
        | exit i =>
          rcases exitQ_elim h with ⟨rfl, h⟩ | ⟨_, h⟩
          · obtain ⟨s, hs, h⟩ := slices_insertionSortCmpFunc_api_Table_p4_ok _ _ h
            rw [← hs]
            exact hX1 s r w h
          exact h.elim
        | ret => exact h
        | goto i => exact h.elim
        | panic c => exact h.elim
        | outgrown => exact h.elim
      · refine Wp_block_via slices_insertionSortCmpFunc_api_Table_p2 (fun s w => slices_insertionSortCmpFunc_api_Table_b0 s.1 s.2.1 s.2.2.1 s.2.2.2.1 s.2.2.2.2.1 s.2.2.2.2.2.1 s.2.2.2.2.2.2 K0 w) hN3 (fun hX4 => ?_)
        refine Wp_glue slices_insertionSortCmpFunc_api_Table_p3 (fun s w => slices_insertionSortCmpFunc_api_Table_b2 s.1 s.2.1 s.2.2.1 s.2.2.2.1 s.2.2.2.2.1 s.2.2.2.2.2.1 s.2.2.2.2.2.2.1 s.2.2.2.2.2.2.2 K0 w) [_] (Q0 := fun e _ r w => match e with | .normal => slices_insertionSortCmpFunc_api_Table_p3.dec r (fun s => slices_insertionSortCmpFunc_api_Table_b2 s.1 s.2.1 s.2.2.1 s.2.2.2.1 s.2.2.2.2.1 s.2.2.2.2.2.1 s.2.2.2.2.2.2.1 s.2.2.2.2.2.2.2 K0 w) | .exit i => exitQ i 0 (slices_insertionSortCmpFunc_api_Table_p4.dec r (fun _ => slices_insertionSortCmpFunc_api_Table_b4 R w)) (exitQ i 1 (slices_insertionSortCmpFunc_api_Table_p2.dec r (fun s => slices_insertionSortCmpFunc_api_Table_b0 s.1 s.2.1 s.2.2.1 s.2.2.2.1 s.2.2.2.2.1 s.2.2.2.2.2.1 s.2.2.2.2.2.2 K0 w)) (False)) | .ret => retQ Tryd.prog Tryd.f88.results R .ret [] r w | _ => False) h (by kernel_rfl) (fun s r w h => ?_) slices_insertionSortCmpFunc_api_Table_p3_ok (fun _ _ _ h => h) ?_
        · obtain ⟨data4, data_n4, data_c4, a4, b4, cmp4, i3, j⟩ := s
          have h : slices_insertionSortCmpFunc_api_Table_b2 data4 data_n4 data_c4 a4 b4 cmp4 i3 j K0 w := h
          refine Wp_block_via slices_insertionSortCmpFunc_api_Table_p2 (fun s w => slices_insertionSortCmpFunc_api_Table_b0 s.1 s.2.1 s.2.2.1 s.2.2.2.1 s.2.2.2.2.1 s.2.2.2.2.2.1 s.2.2.2.2.2.2 K0 w) hN3 (fun hX5 => ?_)
          refine Wp_loop (p := slices_insertionSortCmpFunc_api_Table_p3) slices_insertionSortCmpFunc_api_Table_p3_ok (fun s r w K1 h => ?_) h
          obtain ⟨data5, data_n5, data_c5, a5, b5, cmp5, i4, j1⟩ := s
          have h : slices_insertionSortCmpFunc_api_Table_b1 data5 data_n5 data_c5 a5 b5 cmp5 i4 j1 K0 K1 w := h
          have hK6 := fun (s : (Option Addr) × Nat × Nat × Int × Int × Value × Int × Int) (r : Regs) (w : World) (h : K1 s w) => slices_insertionSortCmpFunc_api_Table_p3_re s r (fun s => K1 s w) h
          refine Wp_leaf_end (Q0 := fun e _ r w => match e with | .normal => slices_insertionSortCmpFunc_api_Table_p3.dec r (fun s => K1 s w) | .exit i => exitQ i 0 (slices_insertionSortCmpFunc_api_Table_p4.dec r (fun _ => slices_insertionSortCmpFunc_api_Table_b4 R w)) (exitQ i 1 (slices_insertionSortCmpFunc_api_Table_p2.dec r (fun s => slices_insertionSortCmpFunc_api_Table_b0 s.1 s.2.1 s.2.2.1 s.2.2.2.1 s.2.2.2.2.1 s.2.2.2.2.2.1 s.2.2.2.2.2.2 K0 w)) (exitQ i 2 (slices_insertionSortCmpFunc_api_Table_p2.dec r (fun s => slices_insertionSortCmpFunc_api_Table_b0 s.1 s.2.1 s.2.2.1 s.2.2.2.1 s.2.2.2.2.1 s.2.2.2.2.2.1 s.2.2.2.2.2.2 K0 w)) (False))) | .ret => retQ Tryd.prog Tryd.f88.results R .ret [] r w | _ => False) h (by kernel_rfl) ?_
          intro e _ r w h
          cases e with
          | normal =>
            obtain ⟨s, hs, h⟩ := slices_insertionSortCmpFunc_api_Table_p3_ok _ _ h
            rw [← hs]
            exact hK6 s r w h
          | exit i =>
            rcases exitQ_elim h with ⟨rfl, h⟩ | ⟨_, h⟩
            · obtain ⟨s, hs, h⟩ := slices_insertionSortCmpFunc_api_Table_p4_ok _ _ h
              rw [← hs]
              exact (fun s r w h => blockQ_other (id := 2) (j := 0) (by decide) ((fun s r w h => blockQ_other (id := 1) (j := 0) (by decide) (hX1 s r w h)) s r w h)) s r w h
            rcases exitQ_elim h with ⟨rfl, h⟩ | ⟨_, h⟩
            · obtain ⟨s, hs, h⟩ := slices_insertionSortCmpFunc_api_Table_p2_ok _ _ h
              rw [← hs]
              exact (fun s r w h => blockQ_other (id := 2) (j := 1) (by decide) (hX4 s r w h)) s r w h
            rcases exitQ_elim h with ⟨rfl, h⟩ | ⟨_, h⟩
            · obtain ⟨s, hs, h⟩ := slices_insertionSortCmpFunc_api_Table_p2_ok _ _ h
              rw [← hs]
              exact hX5 s r w h
            exact h.elim
          | ret => exact h
          | goto i => exact h.elim
          | panic c => exact h.elim
          | outgrown => exact h.elim
        · intro e _ r w hne h
          cases e with
          | normal => exact absurd rfl hne
          | exit i =>
            rcases exitQ_elim h with ⟨rfl, h⟩ | ⟨_, h⟩
            · obtain ⟨s, hs, h⟩ := slices_insertionSortCmpFunc_api_Table_p4_ok _ _ h
              rw [← hs]
              exact (fun s r w h => blockQ_other (id := 1) (j := 0) (by decide) (hX1 s r w h)) s r w h
            rcases exitQ_elim h with ⟨rfl, h⟩ | ⟨_, h⟩
            · obtain ⟨s, hs, h⟩ := slices_insertionSortCmpFunc_api_Table_p2_ok _ _ h
              rw [← hs]
              exact hX4 s r w h
            exact h.elim
          | ret => exact h
          | goto i => exact h.elim
          | panic c => exact h.elim
          | outgrown => exact h.elim
    · intro e _ r w hne h
      cases e with
      | normal => exact absurd rfl hne
      | exit i =>
        rcases exitQ_elim h with ⟨rfl, h⟩ | ⟨_, h⟩
        · obtain ⟨s, hs, h⟩ := slices_insertionSortCmpFunc_api_Table_p4_ok _ _ h
          rw [← hs]
          exact hX1 s r w h
        exact h.elim
      | ret => exact h
      | goto i => exact h.elim
      | panic c => exact h.elim
      | outgrown => exact h.elim
  · intro e _ r w hne h
    cases e with
    | normal => exact absurd rfl hne
    | exit i => exact h.elim
    | ret => exact h
    | goto i => exact h.elim
    | panic c => exact h.elim
    | outgrown => exact h.elim

/- glacier/manifest.apply -/
def manifest_apply_b0 (t49 : Addr) (R : Value → World → Prop) (w : World) : Prop :=
  ST w t49 (.slice none 0 0) fun w_60 =>
  ST w_60 (Addr.add t49 1) (.int .u64 0) fun w_61 =>
  ST w_61 (Addr.add t49 2) (.int .i64 0) fun w_62 =>
  ST w_62 (Addr.add t49 3) (.int .i64 0) fun w_63 =>
  LDSl w_63 t49 fun Tables10 Tables_n10 Tables_c10 =>
  LDI .u64 w_63 (Addr.add t49 1) fun Seq10 =>
  LDI .i64 w_63 (Addr.add t49 2) fun Next10 =>
  LDI .i64 w_63 (Addr.add t49 3) fun Wal10 =>
  R (.tuple #[(.agg #[(.slice Tables10 Tables_n10 Tables_c10), (.int .u64 Seq10), (.int .i64 Next10), (.int .i64 Wal10)]), (.int .i64 1)]) w_63

def manifest_apply_b1 (t410 : Addr) (R : Value → World → Prop) (w : World) : Prop :=
  ST w t410 (.slice none 0 0) fun w_65 =>
  ST w_65 (Addr.add t410 1) (.int .u64 0) fun w_66 =>
  ST w_66 (Addr.add t410 2) (.int .i64 0) fun w_67 =>
  ST w_67 (Addr.add t410 3) (.int .i64 0) fun w_68 =>
  LDSl w_68 t410 fun Tables11 Tables_n11 Tables_c11 =>
  LDI .u64 w_68 (Addr.add t410 1) fun Seq11 =>
  LDI .i64 w_68 (Addr.add t410 2) fun Next11 =>
  LDI .i64 w_68 (Addr.add t410 3) fun Wal11 =>
  R (.tuple #[(.agg #[(.slice Tables11 Tables_n11 Tables_c11), (.int .u64 Seq11), (.int .i64 Next11), (.int .i64 Wal11)]), (.int .i64 15)]) w_68

def manifest_apply_b2 (t212 : Addr) (e13 : Addr) (t414 : Addr) (R : Value → World → Prop) (w : World) : Prop :=
  LetW (World.drew w) fun w_73 =>
  LDI .u64 w_73 (Addr.add e13 2) fun v65 =>
  LDI .u64 w_73 (Addr.add t212 1) fun v66 =>
  LDI .i64 w_73 (Addr.add e13 3) fun v67 =>
  LDI .i64 w_73 (Addr.add t212 2) fun v68 =>
  LDI .i64 w_73 (Addr.add e13 4) fun v69 =>
  LDI .i64 w_73 (Addr.add t212 3) fun v70 =>
  (
  AL w_73 (.cells #[(.int .u64 v65), (.int .u64 v66)] 25) fun b1 w_74 =>
  (World.cell? w_74 (Addr.add t212 3) = some (.int .i64 v70) ∧ 
  (World.cell? w_74 (Addr.add e13 4) = some (.int .i64 v69) ∧ 
  (World.cell? w_74 (Addr.add t212 2) = some (.int .i64 v68) ∧ 
  (World.cell? w_74 (Addr.add e13 3) = some (.int .i64 v67) ∧ 
  (
  CallR Tryd.prog fn_cmp_Or_uint64 #[(.slice (some b1) 2 2)] w_74 fun res7 w_75 =>
  mInt .u64 res7 fun v71 =>
  (World.cell? w_75 (Addr.add t212 3) = some (.int .i64 v70) ∧ 
  (World.cell? w_75 (Addr.add e13 4) = some (.int .i64 v69) ∧ 
  (World.cell? w_75 (Addr.add t212 2) = some (.int .i64 v68) ∧ 
  (World.cell? w_75 (Addr.add e13 3) = some (.int .i64 v67) ∧ 
  (
  AL w_75 (.cells #[(.int .i64 v67), (.int .i64 v68)] 3) fun b2 w_76 =>
  (World.cell? w_76 (Addr.add t212 3) = some (.int .i64 v70) ∧ 
  (World.cell? w_76 (Addr.add e13 4) = some (.int .i64 v69) ∧ 
  (
  CallR Tryd.prog fn_cmp_Or_int #[(.slice (some b2) 2 2)] w_76 fun res8 w_77 =>
  mInt .i64 res8 fun v72 =>
  (World.cell? w_77 (Addr.add t212 3) = some (.int .i64 v70) ∧ 
  (World.cell? w_77 (Addr.add e13 4) = some (.int .i64 v69) ∧ 
  AL w_77 (.cells #[(.int .i64 v69), (.int .i64 v70)] 3) fun b3 w_78 =>
  CallR Tryd.prog fn_cmp_Or_int #[(.slice (some b3) 2 2)] w_78 fun res9 w_79 =>
  mInt .i64 res9 fun v73 =>
  ST w_79 (Addr.add t212 1) (.int .u64 v71) fun w_80 =>
  ST w_80 (Addr.add t212 2) (.int .i64 v72) fun w_81 =>
  ST w_81 (Addr.add t212 3) (.int .i64 v73) fun w_82 =>
  LDSl w_82 t212 fun Tables13 Tables_n13 Tables_c13 =>
  LDI .u64 w_82 (Addr.add t212 1) fun Seq13 =>
  LDI .i64 w_82 (Addr.add t212 2) fun Next13 =>
  LDI .i64 w_82 (Addr.add t212 3) fun Wal13 =>
  ST w_82 t414 (.slice Tables13 Tables_n13 Tables_c13) fun w_83 =>
  ST w_83 (Addr.add t414 1) (.int .u64 Seq13) fun w_84 =>
  ST w_84 (Addr.add t414 2) (.int .i64 Next13) fun w_85 =>
  ST w_85 (Addr.add t414 3) (.int .i64 Wal13) fun w_86 =>
  LDSl w_86 t414 fun Tables14 Tables_n14 Tables_c14 =>
  LDI .u64 w_86 (Addr.add t414 1) fun Seq14 =>
  LDI .i64 w_86 (Addr.add t414 2) fun Next14 =>
  LDI .i64 w_86 (Addr.add t414 3) fun Wal14 =>
  R (.tuple #[(.agg #[(.slice Tables14 Tables_n14 Tables_c14), (.int .u64 Seq14), (.int .i64 Next14), (.int .i64 Wal14)]), (.int .i64 0)]) w_86))) ∧ (
  AL w_76 (.cells #[(.int .i64 v69), (.int .i64 v70)] 3) fun b4 w_87 =>
  CallR Tryd.prog fn_cmp_Or_int #[(.slice (some b2) 2 2)] w_87 fun res10 w_88 =>
  mInt .i64 res10 fun v74 =>
  CallR Tryd.prog fn_cmp_Or_int #[(.slice (some b4) 2 2)] w_88 fun res11 w_89 =>
  mInt .i64 res11 fun v75 =>
  ST w_89 (Addr.add t212 1) (.int .u64 v71) fun w_90 =>
  ST w_90 (Addr.add t212 2) (.int .i64 v74) fun w_91 =>
  ST w_91 (Addr.add t212 3) (.int .i64 v75) fun w_92 =>
  LDSl w_92 t212 fun Tables15 Tables_n15 Tables_c15 =>
  LDI .u64 w_92 (Addr.add t212 1) fun Seq15 =>
  LDI .i64 w_92 (Addr.add t212 2) fun Next15 =>
  LDI .i64 w_92 (Addr.add t212 3) fun Wal15 =>
  ST w_92 t414 (.slice Tables15 Tables_n15 Tables_c15) fun w_93 =>
  ST w_93 (Addr.add t414 1) (.int .u64 Seq15) fun w_94 =>
  ST w_94 (Addr.add t414 2) (.int .i64 Next15) fun w_95 =>
  ST w_95 (Addr.add t414 3) (.int .i64 Wal15) fun w_96 =>
  LDSl w_96 t414 fun Tables16 Tables_n16 Tables_c16 =>
  LDI .u64 w_96 (Addr.add t414 1) fun Seq16 =>
  LDI .i64 w_96 (Addr.add t414 2) fun Next16 =>
  LDI .i64 w_96 (Addr.add t414 3) fun Wal16 =>
  R (.tuple #[(.agg #[(.slice Tables16 Tables_n16 Tables_c16), (.int .u64 Seq16), (.int .i64 Next16), (.int .i64 Wal16)]), (.int .i64 0)]) w_96)))) ∧ (
  AL w_75 (.cells #[(.int .i64 v69), (.int .i64 v70)] 3) fun b5 w_97 =>
  (World.cell? w_97 (Addr.add t212 2) = some (.int .i64 v68) ∧ 
  (World.cell? w_97 (Addr.add e13 3) = some (.int .i64 v67) ∧ 
  AL w_97 (.cells #[(.int .i64 v67), (.int .i64 v68)] 3) fun b6 w_98 =>
  CallR Tryd.prog fn_cmp_Or_int #[(.slice (some b6) 2 2)] w_98 fun res12 w_99 =>
  mInt .i64 res12 fun v76 =>
  CallR Tryd.prog fn_cmp_Or_int #[(.slice (some b5) 2 2)] w_99 fun res13 w_100 =>
  mInt .i64 res13 fun v77 =>
  ST w_100 (Addr.add t212 1) (.int .u64 v71) fun w_101 =>
  ST w_101 (Addr.add t212 2) (.int .i64 v76) fun w_102 =>
  ST w_102 (Addr.add t212 3) (.int .i64 v77) fun w_103 =>
  LDSl w_103 t212 fun Tables17 Tables_n17 Tables_c17 =>
  LDI .u64 w_103 (Addr.add t212 1) fun Seq17 =>
  LDI .i64 w_103 (Addr.add t212 2) fun Next17 =>
  LDI .i64 w_103 (Addr.add t212 3) fun Wal17 =>
  ST w_103 t414 (.slice Tables17 Tables_n17 Tables_c17) fun w_104 =>
  ST w_104 (Addr.add t414 1) (.int .u64 Seq17) fun w_105 =>
  ST w_105 (Addr.add t414 2) (.int .i64 Next17) fun w_106 =>
  ST w_106 (Addr.add t414 3) (.int .i64 Wal17) fun w_107 =>
  LDSl w_107 t414 fun Tables18 Tables_n18 Tables_c18 =>
  LDI .u64 w_107 (Addr.add t414 1) fun Seq18 =>
  LDI .i64 w_107 (Addr.add t414 2) fun Next18 =>
  LDI .i64 w_107 (Addr.add t414 3) fun Wal18 =>
  R (.tuple #[(.agg #[(.slice Tables18 Tables_n18 Tables_c18), (.int .u64 Seq18), (.int .i64 Next18), (.int .i64 Wal18)]), (.int .i64 0)]) w_107)))))))) ∧ (
  (
  AL w_74 (.cells #[(.int .i64 v67), (.int .i64 v68)] 3) fun b7 w_108 =>
  (World.cell? w_108 (Addr.add t212 3) = some (.int .i64 v70) ∧ 
  (World.cell? w_108 (Addr.add e13 4) = some (.int .i64 v69) ∧ 
  (
  CallR Tryd.prog fn_cmp_Or_uint64 #[(.slice (some b1) 2 2)] w_108 fun res14 w_109 =>
  mInt .u64 res14 fun v78 =>
  (World.cell? w_109 (Addr.add t212 3) = some (.int .i64 v70) ∧ 
  (World.cell? w_109 (Addr.add e13 4) = some (.int .i64 v69) ∧ 
  (
  CallR Tryd.prog fn_cmp_Or_int #[(.slice (some b7) 2 2)] w_109 fun res15 w_110 =>
  mInt .i64 res15 fun v79 =>
  (World.cell? w_110 (Addr.add t212 3) = some (.int .i64 v70) ∧ 
  (World.cell? w_110 (Addr.add e13 4) = some (.int .i64 v69) ∧ 
  AL w_110 (.cells #[(.int .i64 v69), (.int .i64 v70)] 3) fun b8 w_111 =>
  CallR Tryd.prog fn_cmp_Or_int #[(.slice (some b8) 2 2)] w_111 fun res16 w_112 =>
  mInt .i64 res16 fun v80 =>
  ST w_112 (Addr.add t212 1) (.int .u64 v78) fun w_113 =>
  ST w_113 (Addr.add t212 2) (.int .i64 v79) fun w_114 =>
  ST w_114 (Addr.add t212 3) (.int .i64 v80) fun w_115 =>
  LDSl w_115 t212 fun Tables19 Tables_n19 Tables_c19 =>
  LDI .u64 w_115 (Addr.add t212 1) fun Seq19 =>
  LDI .i64 w_115 (Addr.add t212 2) fun Next19 =>
  LDI .i64 w_115 (Addr.add t212 3) fun Wal19 =>
  ST w_115 t414 (.slice Tables19 Tables_n19 Tables_c19) fun w_116 =>
  ST w_116 (Addr.add t414 1) (.int .u64 Seq19) fun w_117 =>
  ST w_117 (Addr.add t414 2) (.int .i64 Next19) fun w_118 =>
  ST w_118 (Addr.add t414 3) (.int .i64 Wal19) fun w_119 =>
  LDSl w_119 t414 fun Tables20 Tables_n20 Tables_c20 =>
  LDI .u64 w_119 (Addr.add t414 1) fun Seq20 =>
  LDI .i64 w_119 (Addr.add t414 2) fun Next20 =>
  LDI .i64 w_119 (Addr.add t414 3) fun Wal20 =>
  R (.tuple #[(.agg #[(.slice Tables20 Tables_n20 Tables_c20), (.int .u64 Seq20), (.int .i64 Next20), (.int .i64 Wal20)]), (.int .i64 0)]) w_119))) ∧ (
  AL w_109 (.cells #[(.int .i64 v69), (.int .i64 v70)] 3) fun b9 w_120 =>
  CallR Tryd.prog fn_cmp_Or_int #[(.slice (some b7) 2 2)] w_120 fun res17 w_121 =>
  mInt .i64 res17 fun v81 =>
  CallR Tryd.prog fn_cmp_Or_int #[(.slice (some b9) 2 2)] w_121 fun res18 w_122 =>
  mInt .i64 res18 fun v82 =>
  ST w_122 (Addr.add t212 1) (.int .u64 v78) fun w_123 =>
  ST w_123 (Addr.add t212 2) (.int .i64 v81) fun w_124 =>
  ST w_124 (Addr.add t212 3) (.int .i64 v82) fun w_125 =>
  LDSl w_125 t212 fun Tables21 Tables_n21 Tables_c21 =>
  LDI .u64 w_125 (Addr.add t212 1) fun Seq21 =>
  LDI .i64 w_125 (Addr.add t212 2) fun Next21 =>
  LDI .i64 w_125 (Addr.add t212 3) fun Wal21 =>
  ST w_125 t414 (.slice Tables21 Tables_n21 Tables_c21) fun w_126 =>
  ST w_126 (Addr.add t414 1) (.int .u64 Seq21) fun w_127 =>
  ST w_127 (Addr.add t414 2) (.int .i64 Next21) fun w_128 =>
  ST w_128 (Addr.add t414 3) (.int .i64 Wal21) fun w_129 =>
  LDSl w_129 t414 fun Tables22 Tables_n22 Tables_c22 =>
  LDI .u64 w_129 (Addr.add t414 1) fun Seq22 =>
  LDI .i64 w_129 (Addr.add t414 2) fun Next22 =>
  LDI .i64 w_129 (Addr.add t414 3) fun Wal22 =>
  R (.tuple #[(.agg #[(.slice Tables22 Tables_n22 Tables_c22), (.int .u64 Seq22), (.int .i64 Next22), (.int .i64 Wal22)]), (.int .i64 0)]) w_129)))) ∧ (
  AL w_108 (.cells #[(.int .i64 v69), (.int .i64 v70)] 3) fun b10 w_130 =>
  CallR Tryd.prog fn_cmp_Or_uint64 #[(.slice (some b1) 2 2)] w_130 fun res19 w_131 =>
  mInt .u64 res19 fun v83 =>
  CallR Tryd.prog fn_cmp_Or_int #[(.slice (some b7) 2 2)] w_131 fun res20 w_132 =>
  mInt .i64 res20 fun v84 =>
  CallR Tryd.prog fn_cmp_Or_int #[(.slice (some b10) 2 2)] w_132 fun res21 w_133 =>
  mInt .i64 res21 fun v85 =>
  ST w_133 (Addr.add t212 1) (.int .u64 v83) fun w_134 =>
  ST w_134 (Addr.add t212 2) (.int .i64 v84) fun w_135 =>
  ST w_135 (Addr.add t212 3) (.int .i64 v85) fun w_136 =>
  LDSl w_136 t212 fun Tables23 Tables_n23 Tables_c23 =>
  LDI .u64 w_136 (Addr.add t212 1) fun Seq23 =>
  LDI .i64 w_136 (Addr.add t212 2) fun Next23 =>
  LDI .i64 w_136 (Addr.add t212 3) fun Wal23 =>
  ST w_136 t414 (.slice Tables23 Tables_n23 Tables_c23) fun w_137 =>
  ST w_137 (Addr.add t414 1) (.int .u64 Seq23) fun w_138 =>
  ST w_138 (Addr.add t414 2) (.int .i64 Next23) fun w_139 =>
  ST w_139 (Addr.add t414 3) (.int .i64 Wal23) fun w_140 =>
  LDSl w_140 t414 fun Tables24 Tables_n24 Tables_c24 =>
  LDI .u64 w_140 (Addr.add t414 1) fun Seq24 =>
  LDI .i64 w_140 (Addr.add t414 2) fun Next24 =>
  LDI .i64 w_140 (Addr.add t414 3) fun Wal24 =>
  R (.tuple #[(.agg #[(.slice Tables24 Tables_n24 Tables_c24), (.int .u64 Seq24), (.int .i64 Next24), (.int .i64 Wal24)]), (.int .i64 0)]) w_140)))) ∧ (
  AL w_74 (.cells #[(.int .i64 v69), (.int .i64 v70)] 3) fun b11 w_141 =>
  (World.cell? w_141 (Addr.add t212 2) = some (.int .i64 v68) ∧ 
  (World.cell? w_141 (Addr.add e13 3) = some (.int .i64 v67) ∧ 
  (
  CallR Tryd.prog fn_cmp_Or_uint64 #[(.slice (some b1) 2 2)] w_141 fun res22 w_142 =>
  mInt .u64 res22 fun v86 =>
  (World.cell? w_142 (Addr.add t212 2) = some (.int .i64 v68) ∧ 
  (World.cell? w_142 (Addr.add e13 3) = some (.int .i64 v67) ∧ 
  AL w_142 (.cells #[(.int .i64 v67), (.int .i64 v68)] 3) fun b12 w_143 =>
  CallR Tryd.prog fn_cmp_Or_int #[(.slice (some b12) 2 2)] w_143 fun res23 w_144 =>
  mInt .i64 res23 fun v87 =>
  CallR Tryd.prog fn_cmp_Or_int #[(.slice (some b11) 2 2)] w_144 fun res24 w_145 =>
  mInt .i64 res24 fun v88 =>
  ST w_145 (Addr.add t212 1) (.int .u64 v86) fun w_146 =>
  ST w_146 (Addr.add t212 2) (.int .i64 v87) fun w_147 =>
  ST w_147 (Addr.add t212 3) (.int .i64 v88) fun w_148 =>
  LDSl w_148 t212 fun Tables25 Tables_n25 Tables_c25 =>
  LDI .u64 w_148 (Addr.add t212 1) fun Seq25 =>
  LDI .i64 w_148 (Addr.add t212 2) fun Next25 =>
  LDI .i64 w_148 (Addr.add t212 3) fun Wal25 =>
  ST w_148 t414 (.slice Tables25 Tables_n25 Tables_c25) fun w_149 =>
  ST w_149 (Addr.add t414 1) (.int .u64 Seq25) fun w_150 =>
  ST w_150 (Addr.add t414 2) (.int .i64 Next25) fun w_151 =>
  ST w_151 (Addr.add t414 3) (.int .i64 Wal25) fun w_152 =>
  LDSl w_152 t414 fun Tables26 Tables_n26 Tables_c26 =>
  LDI .u64 w_152 (Addr.add t414 1) fun Seq26 =>
  LDI .i64 w_152 (Addr.add t414 2) fun Next26 =>
  LDI .i64 w_152 (Addr.add t414 3) fun Wal26 =>
  R (.tuple #[(.agg #[(.slice Tables26 Tables_n26 Tables_c26), (.int .u64 Seq26), (.int .i64 Next26), (.int .i64 Wal26)]), (.int .i64 0)]) w_152))) ∧ (
  AL w_141 (.cells #[(.int .i64 v67), (.int .i64 v68)] 3) fun b13 w_153 =>
  CallR Tryd.prog fn_cmp_Or_uint64 #[(.slice (some b1) 2 2)] w_153 fun res25 w_154 =>
  mInt .u64 res25 fun v89 =>
  CallR Tryd.prog fn_cmp_Or_int #[(.slice (some b13) 2 2)] w_154 fun res26 w_155 =>
  mInt .i64 res26 fun v90 =>
  CallR Tryd.prog fn_cmp_Or_int #[(.slice (some b11) 2 2)] w_155 fun res27 w_156 =>
  mInt .i64 res27 fun v91 =>
  ST w_156 (Addr.add t212 1) (.int .u64 v89) fun w_157 =>
  ST w_157 (Addr.add t212 2) (.int .i64 v90) fun w_158 =>
  ST w_158 (Addr.add t212 3) (.int .i64 v91) fun w_159 =>
  LDSl w_159 t212 fun Tables27 Tables_n27 Tables_c27 =>
  LDI .u64 w_159 (Addr.add t212 1) fun Seq27 =>
  LDI .i64 w_159 (Addr.add t212 2) fun Next27 =>
  LDI .i64 w_159 (Addr.add t212 3) fun Wal27 =>
  ST w_159 t414 (.slice Tables27 Tables_n27 Tables_c27) fun w_160 =>
  ST w_160 (Addr.add t414 1) (.int .u64 Seq27) fun w_161 =>
  ST w_161 (Addr.add t414 2) (.int .i64 Next27) fun w_162 =>
  ST w_162 (Addr.add t414 3) (.int .i64 Wal27) fun w_163 =>
  LDSl w_163 t414 fun Tables28 Tables_n28 Tables_c28 =>
  LDI .u64 w_163 (Addr.add t414 1) fun Seq28 =>
  LDI .i64 w_163 (Addr.add t414 2) fun Next28 =>
  LDI .i64 w_163 (Addr.add t414 3) fun Wal28 =>
  R (.tuple #[(.agg #[(.slice Tables28 Tables_n28 Tables_c28), (.int .u64 Seq28), (.int .i64 Next28), (.int .i64 Wal28)]), (.int .i64 0)]) w_163)))))))))) ∧ (
  (
  AL w_73 (.cells #[(.int .i64 v67), (.int .i64 v68)] 3) fun b14 w_164 =>
  (World.cell? w_164 (Addr.add t212 3) = some (.int .i64 v70) ∧ 
  (World.cell? w_164 (Addr.add e13 4) = some (.int .i64 v69) ∧ 
  (World.cell? w_164 (Addr.add t212 1) = some (.int .u64 v66) ∧ 
  (World.cell? w_164 (Addr.add e13 2) = some (.int .u64 v65) ∧ 
  (
  AL w_164 (.cells #[(.int .u64 v65), (.int .u64 v66)] 25) fun b15 w_165 =>
  (World.cell? w_165 (Addr.add t212 3) = some (.int .i64 v70) ∧ 
  (World.cell? w_165 (Addr.add e13 4) = some (.int .i64 v69) ∧ 
  (
  CallR Tryd.prog fn_cmp_Or_uint64 #[(.slice (some b15) 2 2)] w_165 fun res28 w_166 =>
  mInt .u64 res28 fun v92 =>
  (World.cell? w_166 (Addr.add t212 3) = some (.int .i64 v70) ∧ 
  (World.cell? w_166 (Addr.add e13 4) = some (.int .i64 v69) ∧ 
  (
  CallR Tryd.prog fn_cmp_Or_int #[(.slice (some b14) 2 2)] w_166 fun res29 w_167 =>
  mInt .i64 res29 fun v93 =>
  (World.cell? w_167 (Addr.add t212 3) = some (.int .i64 v70) ∧ 
  (World.cell? w_167 (Addr.add e13 4) = some (.int .i64 v69) ∧ 
  AL w_167 (.cells #[(.int .i64 v69), (.int .i64 v70)] 3) fun b16 w_168 =>
  CallR Tryd.prog fn_cmp_Or_int #[(.slice (some b16) 2 2)] w_168 fun res30 w_169 =>
  mInt .i64 res30 fun v94 =>
  ST w_169 (Addr.add t212 1) (.int .u64 v92) fun w_170 =>
  ST w_170 (Addr.add t212 2) (.int .i64 v93) fun w_171 =>
  ST w_171 (Addr.add t212 3) (.int .i64 v94) fun w_172 =>
  LDSl w_172 t212 fun Tables29 Tables_n29 Tables_c29 =>
  LDI .u64 w_172 (Addr.add t212 1) fun Seq29 =>
  LDI .i64 w_172 (Addr.add t212 2) fun Next29 =>
  LDI .i64 w_172 (Addr.add t212 3) fun Wal29 =>
  ST w_172 t414 (.slice Tables29 Tables_n29 Tables_c29) fun w_173 =>
  ST w_173 (Addr.add t414 1) (.int .u64 Seq29) fun w_174 =>
  ST w_174 (Addr.add t414 2) (.int .i64 Next29) fun w_175 =>
  ST w_175 (Addr.add t414 3) (.int .i64 Wal29) fun w_176 =>
  LDSl w_176 t414 fun Tables30 Tables_n30 Tables_c30 =>
  LDI .u64 w_176 (Addr.add t414 1) fun Seq30 =>
  LDI .i64 w_176 (Addr.add t414 2) fun Next30 =>
  LDI .i64 w_176 (Addr.add t414 3) fun Wal30 =>
  R (.tuple #[(.agg #[(.slice Tables30 Tables_n30 Tables_c30), (.int .u64 Seq30), (.int .i64 Next30), (.int .i64 Wal30)]), (.int .i64 0)]) w_176))) ∧ (
  AL w_166 (.cells #[(.int .i64 v69), (.int .i64 v70)] 3) fun b17 w_177 =>
  CallR Tryd.prog fn_cmp_Or_int #[(.slice (some b14) 2 2)] w_177 fun res31 w_178 =>
  mInt .i64 res31 fun v95 =>
  CallR Tryd.prog fn_cmp_Or_int #[(.slice (some b17) 2 2)] w_178 fun res32 w_179 =>
  mInt .i64 res32 fun v96 =>
  ST w_179 (Addr.add t212 1) (.int .u64 v92) fun w_180 =>
  ST w_180 (Addr.add t212 2) (.int .i64 v95) fun w_181 =>
  ST w_181 (Addr.add t212 3) (.int .i64 v96) fun w_182 =>
  LDSl w_182 t212 fun Tables31 Tables_n31 Tables_c31 =>
  LDI .u64 w_182 (Addr.add t212 1) fun Seq31 =>
  LDI .i64 w_182 (Addr.add t212 2) fun Next31 =>
  LDI .i64 w_182 (Addr.add t212 3) fun Wal31 =>
  ST w_182 t414 (.slice Tables31 Tables_n31 Tables_c31) fun w_183 =>
  ST w_183 (Addr.add t414 1) (.int .u64 Seq31) fun w_184 =>
  ST w_184 (Addr.add t414 2) (.int .i64 Next31) fun w_185 =>
  ST w_185 (Addr.add t414 3) (.int .i64 Wal31) fun w_186 =>
  LDSl w_186 t414 fun Tables32 Tables_n32 Tables_c32 =>
  LDI .u64 w_186 (Addr.add t414 1) fun Seq32 =>
  LDI .i64 w_186 (Addr.add t414 2) fun Next32 =>
  LDI .i64 w_186 (Addr.add t414 3) fun Wal32 =>
  R (.tuple #[(.agg #[(.slice Tables32 Tables_n32 Tables_c32), (.int .u64 Seq32), (.int .i64 Next32), (.int .i64 Wal32)]), (.int .i64 0)]) w_186)))) ∧ (
  AL w_165 (.cells #[(.int .i64 v69), (.int .i64 v70)] 3) fun b18 w_187 =>
  CallR Tryd.prog fn_cmp_Or_uint64 #[(.slice (some b15) 2 2)] w_187 fun res33 w_188 =>
  mInt .u64 res33 fun v97 =>
  CallR Tryd.prog fn_cmp_Or_int #[(.slice (some b14) 2 2)] w_188 fun res34 w_189 =>
  mInt .i64 res34 fun v98 =>
  CallR Tryd.prog fn_cmp_Or_int #[(.slice (some b18) 2 2)] w_189 fun res35 w_190 =>
  mInt .i64 res35 fun v99 =>
  ST w_190 (Addr.add t212 1) (.int .u64 v97) fun w_191 =>
  ST w_191 (Addr.add t212 2) (.int .i64 v98) fun w_192 =>
  ST w_192 (Addr.add t212 3) (.int .i64 v99) fun w_193 =>
  LDSl w_193 t212 fun Tables33 Tables_n33 Tables_c33 =>
  LDI .u64 w_193 (Addr.add t212 1) fun Seq33 =>
  LDI .i64 w_193 (Addr.add t212 2) fun Next33 =>
  LDI .i64 w_193 (Addr.add t212 3) fun Wal33 =>
  ST w_193 t414 (.slice Tables33 Tables_n33 Tables_c33) fun w_194 =>
  ST w_194 (Addr.add t414 1) (.int .u64 Seq33) fun w_195 =>
  ST w_195 (Addr.add t414 2) (.int .i64 Next33) fun w_196 =>
  ST w_196 (Addr.add t414 3) (.int .i64 Wal33) fun w_197 =>
  LDSl w_197 t414 fun Tables34 Tables_n34 Tables_c34 =>
  LDI .u64 w_197 (Addr.add t414 1) fun Seq34 =>
  LDI .i64 w_197 (Addr.add t414 2) fun Next34 =>
  LDI .i64 w_197 (Addr.add t414 3) fun Wal34 =>
  R (.tuple #[(.agg #[(.slice Tables34 Tables_n34 Tables_c34), (.int .u64 Seq34), (.int .i64 Next34), (.int .i64 Wal34)]), (.int .i64 0)]) w_197)))) ∧ (
  AL w_164 (.cells #[(.int .i64 v69), (.int .i64 v70)] 3) fun b19 w_198 =>
  (World.cell? w_198 (Addr.add t212 1) = some (.int .u64 v66) ∧ 
  (World.cell? w_198 (Addr.add e13 2) = some (.int .u64 v65) ∧ 
  AL w_198 (.cells #[(.int .u64 v65), (.int .u64 v66)] 25) fun b20 w_199 =>
  CallR Tryd.prog fn_cmp_Or_uint64 #[(.slice (some b20) 2 2)] w_199 fun res36 w_200 =>
  mInt .u64 res36 fun v100 =>
  CallR Tryd.prog fn_cmp_Or_int #[(.slice (some b14) 2 2)] w_200 fun res37 w_201 =>
  mInt .i64 res37 fun v101 =>
  CallR Tryd.prog fn_cmp_Or_int #[(.slice (some b19) 2 2)] w_201 fun res38 w_202 =>
  mInt .i64 res38 fun v102 =>
  ST w_202 (Addr.add t212 1) (.int .u64 v100) fun w_203 =>
  ST w_203 (Addr.add t212 2) (.int .i64 v101) fun w_204 =>
  ST w_204 (Addr.add t212 3) (.int .i64 v102) fun w_205 =>
  LDSl w_205 t212 fun Tables35 Tables_n35 Tables_c35 =>
  LDI .u64 w_205 (Addr.add t212 1) fun Seq35 =>
  LDI .i64 w_205 (Addr.add t212 2) fun Next35 =>
  LDI .i64 w_205 (Addr.add t212 3) fun Wal35 =>
  ST w_205 t414 (.slice Tables35 Tables_n35 Tables_c35) fun w_206 =>
  ST w_206 (Addr.add t414 1) (.int .u64 Seq35) fun w_207 =>
  ST w_207 (Addr.add t414 2) (.int .i64 Next35) fun w_208 =>
  ST w_208 (Addr.add t414 3) (.int .i64 Wal35) fun w_209 =>
  LDSl w_209 t414 fun Tables36 Tables_n36 Tables_c36 =>
  LDI .u64 w_209 (Addr.add t414 1) fun Seq36 =>
  LDI .i64 w_209 (Addr.add t414 2) fun Next36 =>
  LDI .i64 w_209 (Addr.add t414 3) fun Wal36 =>
  R (.tuple #[(.agg #[(.slice Tables36 Tables_n36 Tables_c36), (.int .u64 Seq36), (.int .i64 Next36), (.int .i64 Wal36)]), (.int .i64 0)]) w_209)))))))) ∧ (
  AL w_73 (.cells #[(.int .i64 v69), (.int .i64 v70)] 3) fun b21 w_210 =>
  (World.cell? w_210 (Addr.add t212 2) = some (.int .i64 v68) ∧ 
  (World.cell? w_210 (Addr.add e13 3) = some (.int .i64 v67) ∧ 
  (World.cell? w_210 (Addr.add t212 1) = some (.int .u64 v66) ∧ 
  (World.cell? w_210 (Addr.add e13 2) = some (.int .u64 v65) ∧ 
  (
  AL w_210 (.cells #[(.int .u64 v65), (.int .u64 v66)] 25) fun b22 w_211 =>
  (World.cell? w_211 (Addr.add t212 2) = some (.int .i64 v68) ∧ 
  (World.cell? w_211 (Addr.add e13 3) = some (.int .i64 v67) ∧ 
  (
  CallR Tryd.prog fn_cmp_Or_uint64 #[(.slice (some b22) 2 2)] w_211 fun res39 w_212 =>
  mInt .u64 res39 fun v103 =>
  (World.cell? w_212 (Addr.add t212 2) = some (.int .i64 v68) ∧ 
  (World.cell? w_212 (Addr.add e13 3) = some (.int .i64 v67) ∧ 
  AL w_212 (.cells #[(.int .i64 v67), (.int .i64 v68)] 3) fun b23 w_213 =>
  CallR Tryd.prog fn_cmp_Or_int #[(.slice (some b23) 2 2)] w_213 fun res40 w_214 =>
  mInt .i64 res40 fun v104 =>
  CallR Tryd.prog fn_cmp_Or_int #[(.slice (some b21) 2 2)] w_214 fun res41 w_215 =>
  mInt .i64 res41 fun v105 =>
  ST w_215 (Addr.add t212 1) (.int .u64 v103) fun w_216 =>
  ST w_216 (Addr.add t212 2) (.int .i64 v104) fun w_217 =>
  ST w_217 (Addr.add t212 3) (.int .i64 v105) fun w_218 =>
  LDSl w_218 t212 fun Tables37 Tables_n37 Tables_c37 =>
  LDI .u64 w_218 (Addr.add t212 1) fun Seq37 =>
  LDI .i64 w_218 (Addr.add t212 2) fun Next37 =>
  LDI .i64 w_218 (Addr.add t212 3) fun Wal37 =>
  ST w_218 t414 (.slice Tables37 Tables_n37 Tables_c37) fun w_219 =>
  ST w_219 (Addr.add t414 1) (.int .u64 Seq37) fun w_220 =>
  ST w_220 (Addr.add t414 2) (.int .i64 Next37) fun w_221 =>
  ST w_221 (Addr.add t414 3) (.int .i64 Wal37) fun w_222 =>
  LDSl w_222 t414 fun Tables38 Tables_n38 Tables_c38 =>
  LDI .u64 w_222 (Addr.add t414 1) fun Seq38 =>
  LDI .i64 w_222 (Addr.add t414 2) fun Next38 =>
  LDI .i64 w_222 (Addr.add t414 3) fun Wal38 =>
  R (.tuple #[(.agg #[(.slice Tables38 Tables_n38 Tables_c38), (.int .u64 Seq38), (.int .i64 Next38), (.int .i64 Wal38)]), (.int .i64 0)]) w_222))) ∧ (
  AL w_211 (.cells #[(.int .i64 v67), (.int .i64 v68)] 3) fun b24 w_223 =>
  CallR Tryd.prog fn_cmp_Or_uint64 #[(.slice (some b22) 2 2)] w_223 fun res42 w_224 =>
  mInt .u64 res42 fun v106 =>
  CallR Tryd.prog fn_cmp_Or_int #[(.slice (some b24) 2 2)] w_224 fun res43 w_225 =>
  mInt .i64 res43 fun v107 =>
  CallR Tryd.prog fn_cmp_Or_int #[(.slice (some b21) 2 2)] w_225 fun res44 w_226 =>
  mInt .i64 res44 fun v108 =>
  ST w_226 (Addr.add t212 1) (.int .u64 v106) fun w_227 =>
  ST w_227 (Addr.add t212 2) (.int .i64 v107) fun w_228 =>
  ST w_228 (Addr.add t212 3) (.int .i64 v108) fun w_229 =>
  LDSl w_229 t212 fun Tables39 Tables_n39 Tables_c39 =>
  LDI .u64 w_229 (Addr.add t212 1) fun Seq39 =>
  LDI .i64 w_229 (Addr.add t212 2) fun Next39 =>
  LDI .i64 w_229 (Addr.add t212 3) fun Wal39 =>
  ST w_229 t414 (.slice Tables39 Tables_n39 Tables_c39) fun w_230 =>
  ST w_230 (Addr.add t414 1) (.int .u64 Seq39) fun w_231 =>
  ST w_231 (Addr.add t414 2) (.int .i64 Next39) fun w_232 =>
  ST w_232 (Addr.add t414 3) (.int .i64 Wal39) fun w_233 =>
  LDSl w_233 t414 fun Tables40 Tables_n40 Tables_c40 =>
  LDI .u64 w_233 (Addr.add t414 1) fun Seq40 =>
  LDI .i64 w_233 (Addr.add t414 2) fun Next40 =>
  LDI .i64 w_233 (Addr.add t414 3) fun Wal40 =>
  R (.tuple #[(.agg #[(.slice Tables40 Tables_n40 Tables_c40), (.int .u64 Seq40), (.int .i64 Next40), (.int .i64 Wal40)]), (.int .i64 0)]) w_233)))) ∧ (
  AL w_210 (.cells #[(.int .i64 v67), (.int .i64 v68)] 3) fun b25 w_234 =>
  (World.cell? w_234 (Addr.add t212 1) = some (.int .u64 v66) ∧ 
  (World.cell? w_234 (Addr.add e13 2) = some (.int .u64 v65) ∧ 
  AL w_234 (.cells #[(.int .u64 v65), (.int .u64 v66)] 25) fun b26 w_235 =>
  CallR Tryd.prog fn_cmp_Or_uint64 #[(.slice (some b26) 2 2)] w_235 fun res45 w_236 =>
  mInt .u64 res45 fun v109 =>
  CallR Tryd.prog fn_cmp_Or_int #[(.slice (some b25) 2 2)] w_236 fun res46 w_237 =>
  mInt .i64 res46 fun v110 =>
  CallR Tryd.prog fn_cmp_Or_int #[(.slice (some b21) 2 2)] w_237 fun res47 w_238 =>
  mInt .i64 res47 fun v111 =>
  ST w_238 (Addr.add t212 1) (.int .u64 v109) fun w_239 =>
  ST w_239 (Addr.add t212 2) (.int .i64 v110) fun w_240 =>
  ST w_240 (Addr.add t212 3) (.int .i64 v111) fun w_241 =>
  LDSl w_241 t212 fun Tables41 Tables_n41 Tables_c41 =>
  LDI .u64 w_241 (Addr.add t212 1) fun Seq41 =>
  LDI .i64 w_241 (Addr.add t212 2) fun Next41 =>
  LDI .i64 w_241 (Addr.add t212 3) fun Wal41 =>
  ST w_241 t414 (.slice Tables41 Tables_n41 Tables_c41) fun w_242 =>
  ST w_242 (Addr.add t414 1) (.int .u64 Seq41) fun w_243 =>
  ST w_243 (Addr.add t414 2) (.int .i64 Next41) fun w_244 =>
  ST w_244 (Addr.add t414 3) (.int .i64 Wal41) fun w_245 =>
  LDSl w_245 t414 fun Tables42 Tables_n42 Tables_c42 =>
  LDI .u64 w_245 (Addr.add t414 1) fun Seq42 =>
  LDI .i64 w_245 (Addr.add t414 2) fun Next42 =>
  LDI .i64 w_245 (Addr.add t414 3) fun Wal42 =>
  R (.tuple #[(.agg #[(.slice Tables42 Tables_n42 Tables_c42), (.int .u64 Seq42), (.int .i64 Next42), (.int .i64 Wal42)]), (.int .i64 0)]) w_245)))))))))

def manifest_apply_b3 (t211 : Addr) (e12 : Addr) (t413 : Addr) (t110 : Bool) (R : Value → World → Prop) (w : World) : Prop :=
  Br t110 (
  ST w t413 (.slice none 0 0) fun w_69 =>
  ST w_69 (Addr.add t413 1) (.int .u64 0) fun w_70 =>
  ST w_70 (Addr.add t413 2) (.int .i64 0) fun w_71 =>
  ST w_71 (Addr.add t413 3) (.int .i64 0) fun w_72 =>
  LDSl w_72 t413 fun Tables12 Tables_n12 Tables_c12 =>
  LDI .u64 w_72 (Addr.add t413 1) fun Seq12 =>
  LDI .i64 w_72 (Addr.add t413 2) fun Next12 =>
  LDI .i64 w_72 (Addr.add t413 3) fun Wal12 =>
  R (.tuple #[(.agg #[(.slice Tables12 Tables_n12 Tables_c12), (.int .u64 Seq12), (.int .i64 Next12), (.int .i64 Wal12)]), (.int .i64 1)]) w_72) (
  manifest_apply_b2 t211 e12 t413 R w)

def manifest_apply_b4 (t210 : Addr) (e11 : Addr) (t410 : Addr) (R : Value → World → Prop) (w : World) : Prop :=
  LDI .u64 w (Addr.add e11 2) fun v28 =>
  Br (v28 != 0) (
  LDI .u64 w (Addr.add e11 2) fun v29 =>
  LDI .u64 w (Addr.add t210 1) fun v30 =>
  Br (decide (v29 < v30)) (
  manifest_apply_b3 t210 e11 t410 (decide (v29 < v30)) R w) (
  LDI .i64 w (Addr.add e11 3) fun v31 =>
  Br (v31 != 0) (
  LDI .i64 w (Addr.add e11 3) fun v32 =>
  LDI .i64 w (Addr.add t210 2) fun v33 =>
  Br (decide (v32 < v33)) (
  manifest_apply_b3 t210 e11 t410 (decide (v32 < v33)) R w) (
  LDI .i64 w (Addr.add e11 4) fun v34 =>
  Br (v34 != 0) (
  LDI .i64 w (Addr.add e11 4) fun v35 =>
  LDI .i64 w (Addr.add t210 3) fun v36 =>
  Br (decide (v35 < v36)) (
  manifest_apply_b3 t210 e11 t410 (decide (v35 < v36)) R w) (
  LDI .i64 w (Addr.add e11 3) fun v37 =>
  Br (decide (v37 > 1099511627776)) (
  manifest_apply_b3 t210 e11 t410 (decide (v37 > 1099511627776)) R w) (
  LDI .i64 w (Addr.add e11 4) fun v38 =>
  manifest_apply_b3 t210 e11 t410 (decide (v38 > 1099511627776)) R w))) (
  LDI .i64 w (Addr.add e11 3) fun v39 =>
  Br (decide (v39 > 1099511627776)) (
  manifest_apply_b3 t210 e11 t410 (decide (v39 > 1099511627776)) R w) (
  LDI .i64 w (Addr.add e11 4) fun v40 =>
  manifest_apply_b3 t210 e11 t410 (decide (v40 > 1099511627776)) R w)))) (
  LDI .i64 w (Addr.add e11 4) fun v41 =>
  Br (v41 != 0) (
  LDI .i64 w (Addr.add e11 4) fun v42 =>
  LDI .i64 w (Addr.add t210 3) fun v43 =>
  Br (decide (v42 < v43)) (
  manifest_apply_b3 t210 e11 t410 (decide (v42 < v43)) R w) (
  LDI .i64 w (Addr.add e11 3) fun v44 =>
  Br (decide (v44 > 1099511627776)) (
  manifest_apply_b3 t210 e11 t410 (decide (v44 > 1099511627776)) R w) (
  LDI .i64 w (Addr.add e11 4) fun v45 =>
  manifest_apply_b3 t210 e11 t410 (decide (v45 > 1099511627776)) R w))) (
  LDI .i64 w (Addr.add e11 3) fun v46 =>
  Br (decide (v46 > 1099511627776)) (
  manifest_apply_b3 t210 e11 t410 (decide (v46 > 1099511627776)) R w) (
  LDI .i64 w (Addr.add e11 4) fun v47 =>
  manifest_apply_b3 t210 e11 t410 (decide (v47 > 1099511627776)) R w))))) (
  LDI .i64 w (Addr.add e11 3) fun v48 =>
  Br (v48 != 0) (
  LDI .i64 w (Addr.add e11 3) fun v49 =>
  LDI .i64 w (Addr.add t210 2) fun v50 =>
  Br (decide (v49 < v50)) (
  manifest_apply_b3 t210 e11 t410 (decide (v49 < v50)) R w) (
  LDI .i64 w (Addr.add e11 4) fun v51 =>
  Br (v51 != 0) (
  LDI .i64 w (Addr.add e11 4) fun v52 =>
  LDI .i64 w (Addr.add t210 3) fun v53 =>
  Br (decide (v52 < v53)) (
  manifest_apply_b3 t210 e11 t410 (decide (v52 < v53)) R w) (
  LDI .i64 w (Addr.add e11 3) fun v54 =>
  Br (decide (v54 > 1099511627776)) (
  manifest_apply_b3 t210 e11 t410 (decide (v54 > 1099511627776)) R w) (
  LDI .i64 w (Addr.add e11 4) fun v55 =>
  manifest_apply_b3 t210 e11 t410 (decide (v55 > 1099511627776)) R w))) (
  LDI .i64 w (Addr.add e11 3) fun v56 =>
  Br (decide (v56 > 1099511627776)) (
  manifest_apply_b3 t210 e11 t410 (decide (v56 > 1099511627776)) R w) (
  LDI .i64 w (Addr.add e11 4) fun v57 =>
  manifest_apply_b3 t210 e11 t410 (decide (v57 > 1099511627776)) R w)))) (
  LDI .i64 w (Addr.add e11 4) fun v58 =>
  Br (v58 != 0) (
  LDI .i64 w (Addr.add e11 4) fun v59 =>
  LDI .i64 w (Addr.add t210 3) fun v60 =>
  Br (decide (v59 < v60)) (
  manifest_apply_b3 t210 e11 t410 (decide (v59 < v60)) R w) (
  LDI .i64 w (Addr.add e11 3) fun v61 =>
  Br (decide (v61 > 1099511627776)) (
  manifest_apply_b3 t210 e11 t410 (decide (v61 > 1099511627776)) R w) (
  LDI .i64 w (Addr.add e11 4) fun v62 =>
  manifest_apply_b3 t210 e11 t410 (decide (v62 > 1099511627776)) R w))) (
  LDI .i64 w (Addr.add e11 3) fun v63 =>
  Br (decide (v63 > 1099511627776)) (
  manifest_apply_b3 t210 e11 t410 (decide (v63 > 1099511627776)) R w) (
  LDI .i64 w (Addr.add e11 4) fun v64 =>
  manifest_apply_b3 t210 e11 t410 (decide (v64 > 1099511627776)) R w))))

def manifest_apply_b5 (t210 : Addr) (e11 : Addr) (t410 : Addr) (t105 : Bool) (R : Value → World → Prop) (w : World) : Prop :=
  Br t105 (
  manifest_apply_b1 t410 R w) (
  manifest_apply_b4 t210 e11 t410 R w)

def manifest_apply_b6 (t29 : Addr) (e10 : Addr) (t49 : Addr) (R : Value → World → Prop) (w : World) : Prop :=
  LDSl w t29 fun v26 v_n13 v_c13 =>
  CallR Tryd.prog fn_manifest_shared #[(.slice v26 v_n13 v_c13)] w fun res6 w_64 =>
  mBool res6 fun v27 =>
  manifest_apply_b5 t29 e10 t49 v27 R w_64

def manifest_apply_b7 (t29 : Addr) (e10 : Addr) (t49 : Addr) (t99 : Bool) (R : Value → World → Prop) (w : World) : Prop :=
  Br t99 (
  manifest_apply_b0 t49 R w) (
  manifest_apply_b6 t29 e10 t49 R w)

def manifest_apply_b8 (t28 : Addr) (e9 : Addr) (t48 : Addr) (R : Value → World → Prop) (w : World) : Prop :=
  LDSl w t28 fun _ v_n12 _ =>
  manifest_apply_b7 t28 e9 t48 (decide ((v_n12 : Int) > 65536)) R w

def manifest_apply_b9 (t27 : Addr) (e8 : Addr) (t47 : Addr) (R : Value → World → Prop) (w : World) : Prop :=
  LDSl w t27 fun v24 v_n11 v_c11 =>
  CallR Tryd.prog fn_slices_SortFunc_s_api_Table_api_Table #[(.slice v24 v_n11 v_c11), (.func (.func fn_manifest_Compare) #[] #[])] w fun res5 w_59 =>
  mTup res5 fun l =>
  mNil l (
  manifest_apply_b8 t27 e8 t47 R w_59)

def manifest_apply_b10 (t26 : Addr) (e7 : Addr) (t46 : Addr) (t401 : Option Addr) (t40_n1 : Nat) (t40_c1 : Nat) (t412 : Int) (t422 : Int) (K0 : (Addr × Addr × Addr × (Option Addr) × Nat × Nat × Int × Int) → World → Prop) (R : Value → World → Prop) (w : World) : Prop :=
  Br (decide (t422 < t412)) (
  IX t401 t40_n1 t422 5 fun a1 =>
  LDI .i64 w a1 fun File =>
  LDI .i64 w (Addr.add a1 1) fun Level =>
  LDS w (Addr.add a1 2) fun First =>
  LDS w (Addr.add a1 3) fun Last =>
  LDI .i64 w (Addr.add a1 4) fun Size =>
  AL w (.cells #[(.int .i64 0), (.int .i64 0), (.string (ByteArray.mk #[])), (.string (ByteArray.mk #[])), (.int .i64 0)] 38) fun t w_17 =>
  ST w_17 t (.int .i64 File) fun w_18 =>
  ST w_18 (Addr.add t 1) (.int .i64 Level) fun w_19 =>
  ST w_19 (Addr.add t 2) (.string First) fun w_20 =>
  ST w_20 (Addr.add t 3) (.string Last) fun w_21 =>
  ST w_21 (Addr.add t 4) (.int .i64 Size) fun w_22 =>
  LDI .i64 w_22 t fun v11 =>
  Br (decide (v11 < 0)) (
  ST w_22 t46 (.slice none 0 0) fun w_23 =>
  ST w_23 (Addr.add t46 1) (.int .u64 0) fun w_24 =>
  ST w_24 (Addr.add t46 2) (.int .i64 0) fun w_25 =>
  ST w_25 (Addr.add t46 3) (.int .i64 0) fun w_26 =>
  LDSl w_26 t46 fun Tables2 Tables_n2 Tables_c2 =>
  LDI .u64 w_26 (Addr.add t46 1) fun Seq2 =>
  LDI .i64 w_26 (Addr.add t46 2) fun Next2 =>
  LDI .i64 w_26 (Addr.add t46 3) fun Wal2 =>
  R (.tuple #[(.agg #[(.slice Tables2 Tables_n2 Tables_c2), (.int .u64 Seq2), (.int .i64 Next2), (.int .i64 Wal2)]), (.int .i64 1)]) w_26) (
  LDSl w_22 t26 fun v12 v_n8 v_c8 =>
  LDI .i64 w_22 t fun v13 =>
  CallR Tryd.prog fn_manifest_has #[(.slice v12 v_n8 v_c8), (.int .i64 v13)] w_22 fun res4 w_27 =>
  mBool res4 fun v14 =>
  Br v14 (
  ST w_27 t46 (.slice none 0 0) fun w_28 =>
  ST w_28 (Addr.add t46 1) (.int .u64 0) fun w_29 =>
  ST w_29 (Addr.add t46 2) (.int .i64 0) fun w_30 =>
  ST w_30 (Addr.add t46 3) (.int .i64 0) fun w_31 =>
  LDSl w_31 t46 fun Tables3 Tables_n3 Tables_c3 =>
  LDI .u64 w_31 (Addr.add t46 1) fun Seq3 =>
  LDI .i64 w_31 (Addr.add t46 2) fun Next3 =>
  LDI .i64 w_31 (Addr.add t46 3) fun Wal3 =>
  R (.tuple #[(.agg #[(.slice Tables3 Tables_n3 Tables_c3), (.int .u64 Seq3), (.int .i64 Next3), (.int .i64 Wal3)]), (.int .i64 1)]) w_31) (
  LDI .i64 w_27 (Addr.add t 1) fun v15 =>
  Br (decide (v15 < 0)) (
  ST w_27 t46 (.slice none 0 0) fun w_32 =>
  ST w_32 (Addr.add t46 1) (.int .u64 0) fun w_33 =>
  ST w_33 (Addr.add t46 2) (.int .i64 0) fun w_34 =>
  ST w_34 (Addr.add t46 3) (.int .i64 0) fun w_35 =>
  LDSl w_35 t46 fun Tables4 Tables_n4 Tables_c4 =>
  LDI .u64 w_35 (Addr.add t46 1) fun Seq4 =>
  LDI .i64 w_35 (Addr.add t46 2) fun Next4 =>
  LDI .i64 w_35 (Addr.add t46 3) fun Wal4 =>
  R (.tuple #[(.agg #[(.slice Tables4 Tables_n4 Tables_c4), (.int .u64 Seq4), (.int .i64 Next4), (.int .i64 Wal4)]), (.int .i64 1)]) w_35) (
  LDI .i64 w_27 (Addr.add t 1) fun v16 =>
  Br (decide (v16 > 6)) (
  ST w_27 t46 (.slice none 0 0) fun w_36 =>
  ST w_36 (Addr.add t46 1) (.int .u64 0) fun w_37 =>
  ST w_37 (Addr.add t46 2) (.int .i64 0) fun w_38 =>
  ST w_38 (Addr.add t46 3) (.int .i64 0) fun w_39 =>
  LDSl w_39 t46 fun Tables5 Tables_n5 Tables_c5 =>
  LDI .u64 w_39 (Addr.add t46 1) fun Seq5 =>
  LDI .i64 w_39 (Addr.add t46 2) fun Next5 =>
  LDI .i64 w_39 (Addr.add t46 3) fun Wal5 =>
  R (.tuple #[(.agg #[(.slice Tables5 Tables_n5 Tables_c5), (.int .u64 Seq5), (.int .i64 Next5), (.int .i64 Wal5)]), (.int .i64 1)]) w_39) (
  LDS w_27 (Addr.add t 2) fun v17 =>
  LDS w_27 (Addr.add t 3) fun v18 =>
  Br (!((Op.bytesLess (ByteArray.toList v17) (ByteArray.toList v18)) || (ByteArray.toList v17 == ByteArray.toList v18))) (
  ST w_27 t46 (.slice none 0 0) fun w_40 =>
  ST w_40 (Addr.add t46 1) (.int .u64 0) fun w_41 =>
  ST w_41 (Addr.add t46 2) (.int .i64 0) fun w_42 =>
  ST w_42 (Addr.add t46 3) (.int .i64 0) fun w_43 =>
  LDSl w_43 t46 fun Tables6 Tables_n6 Tables_c6 =>
  LDI .u64 w_43 (Addr.add t46 1) fun Seq6 =>
  LDI .i64 w_43 (Addr.add t46 2) fun Next6 =>
  LDI .i64 w_43 (Addr.add t46 3) fun Wal6 =>
  R (.tuple #[(.agg #[(.slice Tables6 Tables_n6 Tables_c6), (.int .u64 Seq6), (.int .i64 Next6), (.int .i64 Wal6)]), (.int .i64 1)]) w_43) (
  LDI .i64 w_27 (Addr.add t 4) fun v19 =>
  Br (decide (v19 < 0)) (
  ST w_27 t46 (.slice none 0 0) fun w_44 =>
  ST w_44 (Addr.add t46 1) (.int .u64 0) fun w_45 =>
  ST w_45 (Addr.add t46 2) (.int .i64 0) fun w_46 =>
  ST w_46 (Addr.add t46 3) (.int .i64 0) fun w_47 =>
  LDSl w_47 t46 fun Tables7 Tables_n7 Tables_c7 =>
  LDI .u64 w_47 (Addr.add t46 1) fun Seq7 =>
  LDI .i64 w_47 (Addr.add t46 2) fun Next7 =>
  LDI .i64 w_47 (Addr.add t46 3) fun Wal7 =>
  R (.tuple #[(.agg #[(.slice Tables7 Tables_n7 Tables_c7), (.int .u64 Seq7), (.int .i64 Next7), (.int .i64 Wal7)]), (.int .i64 1)]) w_47) (
  LDI .i64 w_27 t fun v20 =>
  Br (decide (v20 > 1099511627776)) (
  ST w_27 t46 (.slice none 0 0) fun w_48 =>
  ST w_48 (Addr.add t46 1) (.int .u64 0) fun w_49 =>
  ST w_49 (Addr.add t46 2) (.int .i64 0) fun w_50 =>
  ST w_50 (Addr.add t46 3) (.int .i64 0) fun w_51 =>
  LDSl w_51 t46 fun Tables8 Tables_n8 Tables_c8 =>
  LDI .u64 w_51 (Addr.add t46 1) fun Seq8 =>
  LDI .i64 w_51 (Addr.add t46 2) fun Next8 =>
  LDI .i64 w_51 (Addr.add t46 3) fun Wal8 =>
  R (.tuple #[(.agg #[(.slice Tables8 Tables_n8 Tables_c8), (.int .u64 Seq8), (.int .i64 Next8), (.int .i64 Wal8)]), (.int .i64 1)]) w_51) (
  LDI .i64 w_27 (Addr.add t 4) fun v21 =>
  Br (decide (v21 > 1099511627776)) (
  ST w_27 t46 (.slice none 0 0) fun w_52 =>
  ST w_52 (Addr.add t46 1) (.int .u64 0) fun w_53 =>
  ST w_53 (Addr.add t46 2) (.int .i64 0) fun w_54 =>
  ST w_54 (Addr.add t46 3) (.int .i64 0) fun w_55 =>
  LDSl w_55 t46 fun Tables9 Tables_n9 Tables_c9 =>
  LDI .u64 w_55 (Addr.add t46 1) fun Seq9 =>
  LDI .i64 w_55 (Addr.add t46 2) fun Next9 =>
  LDI .i64 w_55 (Addr.add t46 3) fun Wal9 =>
  R (.tuple #[(.agg #[(.slice Tables9 Tables_n9 Tables_c9), (.int .u64 Seq9), (.int .i64 Next9), (.int .i64 Wal9)]), (.int .i64 1)]) w_55) (
  LDSl w_27 t26 fun v22 v_n9 v_c9 =>
  LDI .i64 w_27 t fun File1 =>
  LDI .i64 w_27 (Addr.add t 1) fun Level1 =>
  LDS w_27 (Addr.add t 2) fun First1 =>
  LDS w_27 (Addr.add t 3) fun Last1 =>
  LDI .i64 w_27 (Addr.add t 4) fun Size1 =>
  AL w_27 (.cells #[(.int .i64 File1), (.int .i64 Level1), (.string First1), (.string Last1), (.int .i64 Size1)] 38) fun b w_56 =>
  rRun Tryd.prog (Builtin.append_ #[24, 24] 24 #[(.slice v22 v_n9 v_c9), (.slice (some b) 1 1)]) w_56 fun sr1 w_57 =>
  mSlice sr1 fun v23 v_n10 v_c10 =>
  ST w_57 t26 (.slice v23 v_n10 v_c10) fun w_58 =>
  K0 (t26, e7, t46, t401, t40_n1, t40_c1, t412, IntKind.wrap .i64 (t422 + 1)) w_58))))))))) (
  manifest_apply_b9 t26 e7 t46 R w)

def manifest_apply_b11 (t25 : Addr) (e6 : Addr) (t45 : Addr) (t40 : Option Addr) (t40_n : Nat) (t40_c : Nat) (t411 : Int) (t421 : Int) (R : Value → World → Prop) (w : World) : Prop :=
  LoopS (σ := Addr × Addr × Addr × (Option Addr) × Nat × Nat × Int × Int) (fun s w K0 =>
  manifest_apply_b10 s.1 s.2.1 s.2.2.1 s.2.2.2.1 s.2.2.2.2.1 s.2.2.2.2.2.1 s.2.2.2.2.2.2.1 s.2.2.2.2.2.2.2 K0 R w) (t25, e6, t45, t40, t40_n, t40_c, t411, t421) w

def manifest_apply_b12 (t24 : Addr) (e5 : Addr) (t44 : Addr) (R : Value → World → Prop) (w : World) : Prop :=
  LDSl w e5 fun v10 v_n7 v_c7 =>
  manifest_apply_b11 t24 e5 t44 v10 v_n7 v_c7 (v_n7 : Int) 0 R w

def manifest_apply_b13 (t23 : Addr) (e4 : Addr) (t43 : Addr) (R : Value → World → Prop) (w : World) : Prop :=
  LDSl w t23 fun v7 v_n4 v_c4 =>
  CallR Tryd.prog fn_slices_Clone_s_api_Table_api_Table #[(.slice v7 v_n4 v_c4)] w fun res2 w_14 =>
  mSlice res2 fun v8 v_n5 v_c5 =>
  CallR Tryd.prog fn_slices_DeleteFunc_s_api_Table_api_Table #[(.slice v8 v_n5 v_c5), (.func (.func fn_manifest_apply_1) #[] #[(.pointer (some e4))])] w_14 fun res3 w_15 =>
  mSlice res3 fun v9 v_n6 v_c6 =>
  ST w_15 t23 (.slice v9 v_n6 v_c6) fun w_16 =>
  manifest_apply_b12 t23 e4 t43 R w_16

def manifest_apply_b14 (t22 : Addr) (e3 : Addr) (t42 : Addr) (t111 : Option Addr) (t11_n1 : Nat) (t11_c1 : Nat) (t121 : Int) (t131 : Int) (K0 : (Addr × Addr × Addr × (Option Addr) × Nat × Nat × Int × Int) → World → Prop) (R : Value → World → Prop) (w : World) : Prop :=
  Br (decide (t131 < t121)) (
  IX t111 t11_n1 t131 1 fun a =>
  LDI .i64 w a fun v1 =>
  LDSl w t22 fun v2 v_n1 v_c1 =>
  CallR Tryd.prog fn_manifest_has #[(.slice v2 v_n1 v_c1), (.int .i64 v1)] w fun res w_3 =>
  mBool res fun v3 =>
  Br (!v3) (
  ST w_3 t42 (.slice none 0 0) fun w_4 =>
  ST w_4 (Addr.add t42 1) (.int .u64 0) fun w_5 =>
  ST w_5 (Addr.add t42 2) (.int .i64 0) fun w_6 =>
  ST w_6 (Addr.add t42 3) (.int .i64 0) fun w_7 =>
  LDSl w_7 t42 fun Tables Tables_n Tables_c =>
  LDI .u64 w_7 (Addr.add t42 1) fun Seq =>
  LDI .i64 w_7 (Addr.add t42 2) fun Next =>
  LDI .i64 w_7 (Addr.add t42 3) fun Wal =>
  R (.tuple #[(.agg #[(.slice Tables Tables_n Tables_c), (.int .u64 Seq), (.int .i64 Next), (.int .i64 Wal)]), (.int .i64 4)]) w_7) (
  LDSl w_3 (Addr.add e3 1) fun v4 v_n2 v_c2 =>
  rRun Tryd.prog (Instr.sliceAt 29 (.slice v4 v_n2 v_c2) none (some (.int .i64 t131)) none) w_3 fun sr w_8 =>
  mSlice sr fun v5 v_n3 v_c3 =>
  CallR Tryd.prog fn_slices_Contains_s_int_int #[(.slice v5 v_n3 v_c3), (.int .i64 v1)] w_8 fun res1 w_9 =>
  mBool res1 fun v6 =>
  Br v6 (
  ST w_9 t42 (.slice none 0 0) fun w_10 =>
  ST w_10 (Addr.add t42 1) (.int .u64 0) fun w_11 =>
  ST w_11 (Addr.add t42 2) (.int .i64 0) fun w_12 =>
  ST w_12 (Addr.add t42 3) (.int .i64 0) fun w_13 =>
  LDSl w_13 t42 fun Tables1 Tables_n1 Tables_c1 =>
  LDI .u64 w_13 (Addr.add t42 1) fun Seq1 =>
  LDI .i64 w_13 (Addr.add t42 2) fun Next1 =>
  LDI .i64 w_13 (Addr.add t42 3) fun Wal1 =>
  R (.tuple #[(.agg #[(.slice Tables1 Tables_n1 Tables_c1), (.int .u64 Seq1), (.int .i64 Next1), (.int .i64 Wal1)]), (.int .i64 4)]) w_13) (
  K0 (t22, e3, t42, t111, t11_n1, t11_c1, t121, IntKind.wrap .i64 (t131 + 1)) w_9))) (
  manifest_apply_b13 t22 e3 t42 R w)

def manifest_apply_b15 (t21 : Addr) (e2 : Addr) (t41 : Addr) (t11 : Option Addr) (t11_n : Nat) (t11_c : Nat) (t12 : Int) (t13 : Int) (R : Value → World → Prop) (w : World) : Prop :=
  LoopS (σ := Addr × Addr × Addr × (Option Addr) × Nat × Nat × Int × Int) (fun s w K0 =>
  manifest_apply_b14 s.1 s.2.1 s.2.2.1 s.2.2.2.1 s.2.2.2.2.1 s.2.2.2.2.2.1 s.2.2.2.2.2.2.1 s.2.2.2.2.2.2.2 K0 R w) (t21, e2, t41, t11, t11_n, t11_c, t12, t13) w

def manifest_apply_b16 (t2 : Addr) (e1 : Addr) (t4 : Addr) (R : Value → World → Prop) (w : World) : Prop :=
  LDSl w (Addr.add e1 1) fun v v_n v_c =>
  manifest_apply_b15 t2 e1 t4 v v_n v_c (v_n : Int) 0 R w

def manifest_apply_b17 (v_Tables : Option Addr) (v_Tables_n : Nat) (v_Tables_c : Nat) (v_Seq : Int) (v_Next : Int) (v_Wal : Int) (e_Add : Option Addr) (e_Add_n : Nat) (e_Add_c : Nat) (e_Drop : Option Addr) (e_Drop_n : Nat) (e_Drop_c : Nat) (e_Seq : Int) (e_Next : Int) (e_Wal : Int) (R : Value → World → Prop) (w : World) : Prop :=
  AL w (.cells #[(.slice v_Tables v_Tables_n v_Tables_c), (.int .u64 v_Seq), (.int .i64 v_Next), (.int .i64 v_Wal)] 27) fun p w_ =>
  AL w_ (.cells #[(.slice e_Add e_Add_n e_Add_c), (.slice e_Drop e_Drop_n e_Drop_c), (.int .u64 e_Seq), (.int .i64 e_Next), (.int .i64 e_Wal)] 31) fun e w_1 =>
  AL w_1 (.cells #[(.slice none 0 0), (.int .u64 0), (.int .i64 0), (.int .i64 0)] 27) fun p1 w_2 =>
  manifest_apply_b16 p e p1 R w_2

def manifest_apply_p0 : Point (Addr × Addr × Addr) := { slots := fun s => [(2, (.pointer (some s.1))), (3, (.pointer (some s.2.1))), (4, (.pointer (some s.2.2)))], dec := fun r K => mPA (r 2) fun x => mPA (r 3) fun x1 => mPA (r 4) fun x2 => K (x, x1, x2) }
theorem manifest_apply_p0_ok : manifest_apply_p0.ok := by
  intro r K h
  unfold manifest_apply_p0 at h
  obtain ⟨x, e0, h⟩ := mPA_elim h
  obtain ⟨x1, e1, h⟩ := mPA_elim h
  obtain ⟨x2, e2, h⟩ := mPA_elim h
  exact ⟨(x, x1, x2), regsOf_self (L := [(2, (.pointer (some x))), (3, (.pointer (some x1))), (4, (.pointer (some x2)))]) (List.forall_mem_cons.2 ⟨e0, List.forall_mem_cons.2 ⟨e1, List.forall_mem_cons.2 ⟨e2, List.forall_mem_nil _⟩⟩⟩), h⟩
theorem manifest_apply_p0_re (s : Addr × Addr × Addr) (r : Regs) (K : (Addr × Addr × Addr) → Prop) (h : K s) : manifest_apply_p0.dec (regsOf (manifest_apply_p0.slots s) r) K := by
  obtain ⟨x3, x4, x5⟩ := s
  exact cast (show K (x3, x4, x5) = manifest_apply_p0.dec (regsOf (manifest_apply_p0.slots (x3, x4, x5)) r) K by kernel_rfl) h

def manifest_apply_p1 : Point (Addr × Addr × Addr) := { slots := fun s => [(2, (.pointer (some s.1))), (3, (.pointer (some s.2.1))), (4, (.pointer (some s.2.2)))], dec := fun r K => mPA (r 2) fun x => mPA (r 3) fun x1 => mPA (r 4) fun x2 => K (x, x1, x2) }
theorem manifest_apply_p1_ok : manifest_apply_p1.ok := by
  intro r K h
  unfold manifest_apply_p1 at h
  obtain ⟨x, e0, h⟩ := mPA_elim h
  obtain ⟨x1, e1, h⟩ := mPA_elim h
  obtain ⟨x2, e2, h⟩ := mPA_elim h
  exact ⟨(x, x1, x2), regsOf_self (L := [(2, (.pointer (some x))), (3, (.pointer (some x1))), (4, (.pointer (some x2)))]) (List.forall_mem_cons.2 ⟨e0, List.forall_mem_cons.2 ⟨e1, List.forall_mem_cons.2 ⟨e2, List.forall_mem_nil _⟩⟩⟩), h⟩
theorem manifest_apply_p1_re (s : Addr × Addr × Addr) (r : Regs) (K : (Addr × Addr × Addr) → Prop) (h : K s) : manifest_apply_p1.dec (regsOf (manifest_apply_p1.slots s) r) K := by
  obtain ⟨x3, x4, x5⟩ := s
  exact cast (show K (x3, x4, x5) = manifest_apply_p1.dec (regsOf (manifest_apply_p1.slots (x3, x4, x5)) r) K by kernel_rfl) h

def manifest_apply_p2 : Point (Addr × Addr × Addr) := { slots := fun s => [(2, (.pointer (some s.1))), (3, (.pointer (some s.2.1))), (4, (.pointer (some s.2.2)))], dec := fun r K => mPA (r 2) fun x => mPA (r 3) fun x1 => mPA (r 4) fun x2 => K (x, x1, x2) }
theorem manifest_apply_p2_ok : manifest_apply_p2.ok := by
  intro r K h
  unfold manifest_apply_p2 at h
  obtain ⟨x, e0, h⟩ := mPA_elim h
  obtain ⟨x1, e1, h⟩ := mPA_elim h
  obtain ⟨x2, e2, h⟩ := mPA_elim h
  exact ⟨(x, x1, x2), regsOf_self (L := [(2, (.pointer (some x))), (3, (.pointer (some x1))), (4, (.pointer (some x2)))]) (List.forall_mem_cons.2 ⟨e0, List.forall_mem_cons.2 ⟨e1, List.forall_mem_cons.2 ⟨e2, List.forall_mem_nil _⟩⟩⟩), h⟩
theorem manifest_apply_p2_re (s : Addr × Addr × Addr) (r : Regs) (K : (Addr × Addr × Addr) → Prop) (h : K s) : manifest_apply_p2.dec (regsOf (manifest_apply_p2.slots s) r) K := by
  obtain ⟨x3, x4, x5⟩ := s
  exact cast (show K (x3, x4, x5) = manifest_apply_p2.dec (regsOf (manifest_apply_p2.slots (x3, x4, x5)) r) K by kernel_rfl) h

def manifest_apply_p3 : Point (Addr × Addr × Addr) := { slots := fun s => [(2, (.pointer (some s.1))), (3, (.pointer (some s.2.1))), (4, (.pointer (some s.2.2)))], dec := fun r K => mPA (r 2) fun x => mPA (r 3) fun x1 => mPA (r 4) fun x2 => K (x, x1, x2) }
theorem manifest_apply_p3_ok : manifest_apply_p3.ok := by
  intro r K h
  unfold manifest_apply_p3 at h
  obtain ⟨x, e0, h⟩ := mPA_elim h
  obtain ⟨x1, e1, h⟩ := mPA_elim h
  obtain ⟨x2, e2, h⟩ := mPA_elim h
  exact ⟨(x, x1, x2), regsOf_self (L := [(2, (.pointer (some x))), (3, (.pointer (some x1))), (4, (.pointer (some x2)))]) (List.forall_mem_cons.2 ⟨e0, List.forall_mem_cons.2 ⟨e1, List.forall_mem_cons.2 ⟨e2, List.forall_mem_nil _⟩⟩⟩), h⟩
theorem manifest_apply_p3_re (s : Addr × Addr × Addr) (r : Regs) (K : (Addr × Addr × Addr) → Prop) (h : K s) : manifest_apply_p3.dec (regsOf (manifest_apply_p3.slots s) r) K := by
  obtain ⟨x3, x4, x5⟩ := s
  exact cast (show K (x3, x4, x5) = manifest_apply_p3.dec (regsOf (manifest_apply_p3.slots (x3, x4, x5)) r) K by kernel_rfl) h

def manifest_apply_p4 : Point (Addr × Addr × Addr) := { slots := fun s => [(2, (.pointer (some s.1))), (3, (.pointer (some s.2.1))), (4, (.pointer (some s.2.2)))], dec := fun r K => mPA (r 2) fun x => mPA (r 3) fun x1 => mPA (r 4) fun x2 => K (x, x1, x2) }
theorem manifest_apply_p4_ok : manifest_apply_p4.ok := by
  intro r K h
  unfold manifest_apply_p4 at h
  obtain ⟨x, e0, h⟩ := mPA_elim h
  obtain ⟨x1, e1, h⟩ := mPA_elim h
  obtain ⟨x2, e2, h⟩ := mPA_elim h
  exact ⟨(x, x1, x2), regsOf_self (L := [(2, (.pointer (some x))), (3, (.pointer (some x1))), (4, (.pointer (some x2)))]) (List.forall_mem_cons.2 ⟨e0, List.forall_mem_cons.2 ⟨e1, List.forall_mem_cons.2 ⟨e2, List.forall_mem_nil _⟩⟩⟩), h⟩
theorem manifest_apply_p4_re (s : Addr × Addr × Addr) (r : Regs) (K : (Addr × Addr × Addr) → Prop) (h : K s) : manifest_apply_p4.dec (regsOf (manifest_apply_p4.slots s) r) K := by
  obtain ⟨x3, x4, x5⟩ := s
  exact cast (show K (x3, x4, x5) = manifest_apply_p4.dec (regsOf (manifest_apply_p4.slots (x3, x4, x5)) r) K by kernel_rfl) h

def manifest_apply_p5 : Point (Addr × Addr × Addr) := { slots := fun s => [(2, (.pointer (some s.1))), (3, (.pointer (some s.2.1))), (4, (.pointer (some s.2.2)))], dec := fun r K => mPA (r 2) fun x => mPA (r 3) fun x1 => mPA (r 4) fun x2 => K (x, x1, x2) }
theorem manifest_apply_p5_ok : manifest_apply_p5.ok := by
  intro r K h
  unfold manifest_apply_p5 at h
  obtain ⟨x, e0, h⟩ := mPA_elim h
  obtain ⟨x1, e1, h⟩ := mPA_elim h
  obtain ⟨x2, e2, h⟩ := mPA_elim h
  exact ⟨(x, x1, x2), regsOf_self (L := [(2, (.pointer (some x))), (3, (.pointer (some x1))), (4, (.pointer (some x2)))]) (List.forall_mem_cons.2 ⟨e0, List.forall_mem_cons.2 ⟨e1, List.forall_mem_cons.2 ⟨e2, List.forall_mem_nil _⟩⟩⟩), h⟩
theorem manifest_apply_p5_re (s : Addr × Addr × Addr) (r : Regs) (K : (Addr × Addr × Addr) → Prop) (h : K s) : manifest_apply_p5.dec (regsOf (manifest_apply_p5.slots s) r) K := by
  obtain ⟨x3, x4, x5⟩ := s
  exact cast (show K (x3, x4, x5) = manifest_apply_p5.dec (regsOf (manifest_apply_p5.slots (x3, x4, x5)) r) K by kernel_rfl) h

def manifest_apply_p6 : Point (Addr × Addr × Addr × Bool) := { slots := fun s => [(2, (.pointer (some s.1))), (3, (.pointer (some s.2.1))), (4, (.pointer (some s.2.2.1))), (99, (.bool s.2.2.2))], dec := fun r K => mPA (r 2) fun x => mPA (r 3) fun x1 => mPA (r 4) fun x2 => mBool (r 99) fun x3 => K (x, x1, x2, x3) }
theorem manifest_apply_p6_ok : manifest_apply_p6.ok := by
  intro r K h
  unfold manifest_apply_p6 at h
  obtain ⟨x, e0, h⟩ := mPA_elim h
  obtain ⟨x1, e1, h⟩ := mPA_elim h
  obtain ⟨x2, e2, h⟩ := mPA_elim h
  obtain ⟨x3, e3, h⟩ := mBool_elim h
  exact ⟨(x, x1, x2, x3), regsOf_self (L := [(2, (.pointer (some x))), (3, (.pointer (some x1))), (4, (.pointer (some x2))), (99, (.bool x3))]) (List.forall_mem_cons.2 ⟨e0, List.forall_mem_cons.2 ⟨e1, List.forall_mem_cons.2 ⟨e2, List.forall_mem_cons.2 ⟨e3, List.forall_mem_nil _⟩⟩⟩⟩), h⟩
theorem manifest_apply_p6_re (s : Addr × Addr × Addr × Bool) (r : Regs) (K : (Addr × Addr × Addr × Bool) → Prop) (h : K s) : manifest_apply_p6.dec (regsOf (manifest_apply_p6.slots s) r) K := by
  obtain ⟨x4, x5, x6, x7⟩ := s
  exact cast (show K (x4, x5, x6, x7) = manifest_apply_p6.dec (regsOf (manifest_apply_p6.slots (x4, x5, x6, x7)) r) K by kernel_rfl) h

def manifest_apply_p7 : Point (Addr × Addr × Addr × Bool) := { slots := fun s => [(2, (.pointer (some s.1))), (3, (.pointer (some s.2.1))), (4, (.pointer (some s.2.2.1))), (105, (.bool s.2.2.2))], dec := fun r K => mPA (r 2) fun x => mPA (r 3) fun x1 => mPA (r 4) fun x2 => mBool (r 105) fun x3 => K (x, x1, x2, x3) }
theorem manifest_apply_p7_ok : manifest_apply_p7.ok := by
  intro r K h
  unfold manifest_apply_p7 at h
  obtain ⟨x, e0, h⟩ := mPA_elim h
  obtain ⟨x1, e1, h⟩ := mPA_elim h
  obtain ⟨x2, e2, h⟩ := mPA_elim h
  obtain ⟨x3, e3, h⟩ := mBool_elim h
  exact ⟨(x, x1, x2, x3), regsOf_self (L := [(2, (.pointer (some x))), (3, (.pointer (some x1))), (4, (.pointer (some x2))), (105, (.bool x3))]) (List.forall_mem_cons.2 ⟨e0, List.forall_mem_cons.2 ⟨e1, List.forall_mem_cons.2 ⟨e2, List.forall_mem_cons.2 ⟨e3, List.forall_mem_nil _⟩⟩⟩⟩), h⟩
theorem manifest_apply_p7_re (s : Addr × Addr × Addr × Bool) (r : Regs) (K : (Addr × Addr × Addr × Bool) → Prop) (h : K s) : manifest_apply_p7.dec (regsOf (manifest_apply_p7.slots s) r) K := by
  obtain ⟨x4, x5, x6, x7⟩ := s
  exact cast (show K (x4, x5, x6, x7) = manifest_apply_p7.dec (regsOf (manifest_apply_p7.slots (x4, x5, x6, x7)) r) K by kernel_rfl) h

def manifest_apply_p8 : Point (Addr × Addr × Addr × Bool) := { slots := fun s => [(2, (.pointer (some s.1))), (3, (.pointer (some s.2.1))), (4, (.pointer (some s.2.2.1))), (110, (.bool s.2.2.2))], dec := fun r K => mPA (r 2) fun x => mPA (r 3) fun x1 => mPA (r 4) fun x2 => mBool (r 110) fun x3 => K (x, x1, x2, x3) }
theorem manifest_apply_p8_ok : manifest_apply_p8.ok := by
  intro r K h
  unfold manifest_apply_p8 at h
  obtain ⟨x, e0, h⟩ := mPA_elim h
  obtain ⟨x1, e1, h⟩ := mPA_elim h
  obtain ⟨x2, e2, h⟩ := mPA_elim h
  obtain ⟨x3, e3, h⟩ := mBool_elim h
  exact ⟨(x, x1, x2, x3), regsOf_self (L := [(2, (.pointer (some x))), (3, (.pointer (some x1))), (4, (.pointer (some x2))), (110, (.bool x3))]) (List.forall_mem_cons.2 ⟨e0, List.forall_mem_cons.2 ⟨e1, List.forall_mem_cons.2 ⟨e2, List.forall_mem_cons.2 ⟨e3, List.forall_mem_nil _⟩⟩⟩⟩), h⟩
theorem manifest_apply_p8_re (s : Addr × Addr × Addr × Bool) (r : Regs) (K : (Addr × Addr × Addr × Bool) → Prop) (h : K s) : manifest_apply_p8.dec (regsOf (manifest_apply_p8.slots s) r) K := by
  obtain ⟨x4, x5, x6, x7⟩ := s
  exact cast (show K (x4, x5, x6, x7) = manifest_apply_p8.dec (regsOf (manifest_apply_p8.slots (x4, x5, x6, x7)) r) K by kernel_rfl) h

def manifest_apply_p9 : Point (Addr × Addr × Addr × (Option Addr) × Nat × Nat × Int × Int) := { slots := fun s => [(2, (.pointer (some s.1))), (3, (.pointer (some s.2.1))), (4, (.pointer (some s.2.2.1))), (40, (.slice s.2.2.2.1 s.2.2.2.2.1 s.2.2.2.2.2.1)), (41, (.int .i64 s.2.2.2.2.2.2.1)), (42, (.int .i64 s.2.2.2.2.2.2.2))], dec := fun r K => mPA (r 2) fun x => mPA (r 3) fun x1 => mPA (r 4) fun x2 => mSlice (r 40) fun x3 x4 x5 => mInt .i64 (r 41) fun x6 => mInt .i64 (r 42) fun x7 => K (x, x1, x2, x3, x4, x5, x6, x7) }
theorem manifest_apply_p9_ok : manifest_apply_p9.ok := by
  intro r K h
  unfold manifest_apply_p9 at h
  obtain ⟨x, e0, h⟩ := mPA_elim h
  obtain ⟨x1, e1, h⟩ := mPA_elim h
  obtain ⟨x2, e2, h⟩ := mPA_elim h
  obtain ⟨x3, x4, x5, e3, h⟩ := mSlice_elim h
  obtain ⟨x6, e4, h⟩ := mInt_elim h
  obtain ⟨x7, e5, h⟩ := mInt_elim h
  exact ⟨(x, x1, x2, x3, x4, x5, x6, x7), regsOf_self (L := [(2, (.pointer (some x))), (3, (.pointer (some x1))), (4, (.pointer (some x2))), (40, (.slice x3 x4 x5)), (41, (.int .i64 x6)), (42, (.int .i64 x7))]) (List.forall_mem_cons.2 ⟨e0, List.forall_mem_cons.2 ⟨e1, List.forall_mem_cons.2 ⟨e2, List.forall_mem_cons.2 ⟨e3, List.forall_mem_cons.2 ⟨e4, List.forall_mem_cons.2 ⟨e5, List.forall_mem_nil _⟩⟩⟩⟩⟩⟩), h⟩
theorem manifest_apply_p9_re (s : Addr × Addr × Addr × (Option Addr) × Nat × Nat × Int × Int) (r : Regs) (K : (Addr × Addr × Addr × (Option Addr) × Nat × Nat × Int × Int) → Prop) (h : K s) : manifest_apply_p9.dec (regsOf (manifest_apply_p9.slots s) r) K := by
  obtain ⟨x8, x9, x10, x11, x12, x13, x14, x15⟩ := s
  exact cast (show K (x8, x9, x10, x11, x12, x13, x14, x15) = manifest_apply_p9.dec (regsOf (manifest_apply_p9.slots (x8, x9, x10, x11, x12, x13, x14, x15)) r) K by kernel_rfl) h

def manifest_apply_p10 : Point (Addr × Addr × Addr × (Option Addr) × Nat × Nat × Int × Int) := { slots := fun s => [(2, (.pointer (some s.1))), (3, (.pointer (some s.2.1))), (4, (.pointer (some s.2.2.1))), (11, (.slice s.2.2.2.1 s.2.2.2.2.1 s.2.2.2.2.2.1)), (12, (.int .i64 s.2.2.2.2.2.2.1)), (13, (.int .i64 s.2.2.2.2.2.2.2))], dec := fun r K => mPA (r 2) fun x => mPA (r 3) fun x1 => mPA (r 4) fun x2 => mSlice (r 11) fun x3 x4 x5 => mInt .i64 (r 12) fun x6 => mInt .i64 (r 13) fun x7 => K (x, x1, x2, x3, x4, x5, x6, x7) }
theorem manifest_apply_p10_ok : manifest_apply_p10.ok := by
  intro r K h
  unfold manifest_apply_p10 at h
  obtain ⟨x, e0, h⟩ := mPA_elim h
  obtain ⟨x1, e1, h⟩ := mPA_elim h
  obtain ⟨x2, e2, h⟩ := mPA_elim h
  obtain ⟨x3, x4, x5, e3, h⟩ := mSlice_elim h
  obtain ⟨x6, e4, h⟩ := mInt_elim h
  obtain ⟨x7, e5, h⟩ := mInt_elim h
  exact ⟨(x, x1, x2, x3, x4, x5, x6, x7), regsOf_self (L := [(2, (.pointer (some x))), (3, (.pointer (some x1))), (4, (.pointer (some x2))), (11, (.slice x3 x4 x5)), (12, (.int .i64 x6)), (13, (.int .i64 x7))]) (List.forall_mem_cons.2 ⟨e0, List.forall_mem_cons.2 ⟨e1, List.forall_mem_cons.2 ⟨e2, List.forall_mem_cons.2 ⟨e3, List.forall_mem_cons.2 ⟨e4, List.forall_mem_cons.2 ⟨e5, List.forall_mem_nil _⟩⟩⟩⟩⟩⟩), h⟩
theorem manifest_apply_p10_re (s : Addr × Addr × Addr × (Option Addr) × Nat × Nat × Int × Int) (r : Regs) (K : (Addr × Addr × Addr × (Option Addr) × Nat × Nat × Int × Int) → Prop) (h : K s) : manifest_apply_p10.dec (regsOf (manifest_apply_p10.slots s) r) K := by
  obtain ⟨x8, x9, x10, x11, x12, x13, x14, x15⟩ := s
  exact cast (show K (x8, x9, x10, x11, x12, x13, x14, x15) = manifest_apply_p10.dec (regsOf (manifest_apply_p10.slots (x8, x9, x10, x11, x12, x13, x14, x15)) r) K by kernel_rfl) h

theorem manifest_apply_sound (v_Tables : Option Addr) (v_Tables_n : Nat) (v_Tables_c : Nat) (v_Seq : Int) (v_Next : Int) (v_Wal : Int) (e_Add : Option Addr) (e_Add_n : Nat) (e_Add_c : Nat) (e_Drop : Option Addr) (e_Drop_n : Nat) (e_Drop_c : Nat) (e_Seq : Int) (e_Next : Int) (e_Wal : Int) (R : Value → World → Prop) (w : World) (h : manifest_apply_b17 v_Tables v_Tables_n v_Tables_c v_Seq v_Next v_Wal e_Add e_Add_n e_Add_c e_Drop e_Drop_n e_Drop_c e_Seq e_Next e_Wal R w) :
    CallR Tryd.prog fn_manifest_apply #[(.agg #[(.slice v_Tables v_Tables_n v_Tables_c), (.int .u64 v_Seq), (.int .i64 v_Next), (.int .i64 v_Wal)]), (.agg #[(.slice e_Add e_Add_n e_Add_c), (.slice e_Drop e_Drop_n e_Drop_c), (.int .u64 e_Seq), (.int .i64 e_Next), (.int .i64 e_Wal)])] w R := by
  refine CallR_intro (args := [(.agg #[(.slice v_Tables v_Tables_n v_Tables_c), (.int .u64 v_Seq), (.int .i64 v_Next), (.int .i64 v_Wal)]), (.agg #[(.slice e_Add e_Add_n e_Add_c), (.slice e_Drop e_Drop_n e_Drop_c), (.int .u64 e_Seq), (.int .i64 e_Next), (.int .i64 e_Wal)])]) Tryd.func29 rfl (Nat.le_of_ble_eq_true (by kernel_rfl)) ?_
  refine Wp_glue manifest_apply_p0 (fun s w => manifest_apply_b16 s.1 s.2.1 s.2.2 R w) [_] (Q0 := fun e _ r w => match e with | .normal => manifest_apply_p0.dec r (fun s => manifest_apply_b16 s.1 s.2.1 s.2.2 R w) | .exit _ => False | .ret => retQ Tryd.prog Tryd.f29.results R .ret [] r w | _ => False) h (by kernel_rfl) (fun s r w h => ?_) manifest_apply_p0_ok (fun _ _ _ h => h) ?_
  · obtain ⟨t2, e1, t4⟩ := s
    have h : manifest_apply_b16 t2 e1 t4 R w := h
    refine Wp_seq_via manifest_apply_p1 (fun s w => manifest_apply_b13 s.1 s.2.1 s.2.2 R w) (fun s r w h => ?_) (fun hN1 => ?_)
    · obtain ⟨t23, e4, t43⟩ := s
      have h : manifest_apply_b13 t23 e4 t43 R w := h
      refine Wp_glue manifest_apply_p2 (fun s w => manifest_apply_b12 s.1 s.2.1 s.2.2 R w) [_] (Q0 := fun e _ r w => match e with | .normal => manifest_apply_p2.dec r (fun s => manifest_apply_b12 s.1 s.2.1 s.2.2 R w) | .exit _ => False | .ret => retQ Tryd.prog Tryd.f29.results R .ret [] r w | _ => False) h (by kernel_rfl) (fun s r w h => ?_) manifest_apply_p2_ok (fun _ _ _ h => h) ?_
      · obtain ⟨t24, e5, t44⟩ := s
        have h : manifest_apply_b12 t24 e5 t44 R w := h
        refine Wp_seq_via manifest_apply_p3 (fun s w => manifest_apply_b9 s.1 s.2.1 s.2.2 R w) (fun s r w h => ?_) (fun hN2 => ?_)
        · obtain ⟨t27, e8, t47⟩ := s
          have h : manifest_apply_b9 t27 e8 t47 R w := h
          refine Wp_glue manifest_apply_p4 (fun s w => manifest_apply_b8 s.1 s.2.1 s.2.2 R w) [_] (Q0 := fun e _ r w => match e with | .normal => manifest_apply_p4.dec r (fun s => manifest_apply_b8 s.1 s.2.1 s.2.2 R w) | .exit _ => False | .ret => retQ Tryd.prog Tryd.f29.results R .ret [] r w | _ => False) h (by kernel_rfl) (fun s r w h => ?_) manifest_apply_p4_ok (fun _ _ _ h => h) ?_
          · obtain ⟨t28, e9, t48⟩ := s
            have h : manifest_apply_b8 t28 e9 t48 R w := h
            refine Wp_seq_via manifest_apply_p5 (fun s w => manifest_apply_b2 s.1 s.2.1 s.2.2 R w) (fun s r w h => ?_) (fun hN3 => ?_)
            · obtain ⟨t212, e13, t414⟩ := s
              have h : manifest_apply_b2 t212 e13 t414 R w := h
              refine Wp_leaf_end (Q0 := fun e _ r w => match e with | .normal => retQ Tryd.prog Tryd.f29.results R .normal [] r w | .exit _ => False | .ret => retQ Tryd.prog Tryd.f29.results R .ret [] r w | _ => False) h (by kernel_rfl) ?_
              intro e _ r w h
              cases e with
              | normal => exact h
              | exit i => exact h.elim
              | ret => exact h
              | goto i => exact h.elim
              | panic c => exact h.elim
              | outgrown => exact h.elim
            · refine Wp_block_via manifest_apply_p5 (fun s w => manifest_apply_b2 s.1 s.2.1 s.2.2 R w) hN3 (fun hX4 => ?_)
              refine Wp_glue manifest_apply_p6 (fun s w => manifest_apply_b7 s.1 s.2.1 s.2.2.1 s.2.2.2 R w) [_] (Q0 := fun e _ r w => match e with | .normal => manifest_apply_p6.dec r (fun s => manifest_apply_b7 s.1 s.2.1 s.2.2.1 s.2.2.2 R w) | .exit i => exitQ i 4 (manifest_apply_p5.dec r (fun s => manifest_apply_b2 s.1 s.2.1 s.2.2 R w)) (False) | .ret => retQ Tryd.prog Tryd.f29.results R .ret [] r w | _ => False) h (by kernel_rfl) (fun s r w h => ?_) manifest_apply_p6_ok (fun _ _ _ h => h) ?_
              · obtain ⟨t29, e10, t49, t99⟩ := s
                have h : manifest_apply_b7 t29 e10 t49 t99 R w := h
                refine Wp_cond (b := t99) rfl (fun hb => ?_) (fun hb => ?_)
                · have h : manifest_apply_b0 t49 R w := h.1 hb
                  refine Wp_leaf_end (Q0 := fun e _ r w => match e with | .normal => manifest_apply_p5.dec r (fun s => manifest_apply_b2 s.1 s.2.1 s.2.2 R w) | .exit i => exitQ i 4 (manifest_apply_p5.dec r (fun s => manifest_apply_b2 s.1 s.2.1 s.2.2 R w)) (False) | .ret => retQ Tryd.prog Tryd.f29.results R .ret [] r w | _ => False) h (by kernel_rfl) ?_
                  intro e _ r w h
                  cases e with
                  | normal =>
                    obtain ⟨s, hs, h⟩ := manifest_apply_p5_ok _ _ h
                    rw [← hs]
                    exact hN3 s r w h
                  | exit i =>
                    rcases exitQ_elim h with ⟨rfl, h⟩ | ⟨_, h⟩
                    · obtain ⟨s, hs, h⟩ := manifest_apply_p5_ok _ _ h
                      rw [← hs]
                      exact hX4 s r w h
                    exact h.elim
                  | ret => exact h
                  | goto i => exact h.elim
                  | panic c => exact h.elim
                  | outgrown => exact h.elim
                · have h : manifest_apply_b6 t29 e10 t49 R w := h.2 hb
                  refine Wp_glue manifest_apply_p7 (fun s w => manifest_apply_b5 s.1 s.2.1 s.2.2.1 s.2.2.2 R w) [_] (Q0 := fun e _ r w => match e with | .normal => manifest_apply_p7.dec r (fun s => manifest_apply_b5 s.1 s.2.1 s.2.2.1 s.2.2.2 R w) | .exit i => exitQ i 4 (manifest_apply_p5.dec r (fun s => manifest_apply_b2 s.1 s.2.1 s.2.2 R w)) (False) | .ret => retQ Tryd.prog Tryd.f29.results R .ret [] r w | _ => False) h (by kernel_rfl) (fun s r w h => ?_) manifest_apply_p7_ok (fun _ _ _ h => h) ?_
                  · obtain ⟨t210, e11, t410, t105⟩ := s
                    have h : manifest_apply_b5 t210 e11 t410 t105 R w := h
                    refine Wp_cond (b := t105) rfl (fun hb => ?_) (fun hb => ?_)
                    · have h : manifest_apply_b1 t410 R w := h.1 hb
                      refine Wp_leaf_end (Q0 := fun e _ r w => match e with | .normal => manifest_apply_p5.dec r (fun s => manifest_apply_b2 s.1 s.2.1 s.2.2 R w) | .exit i => exitQ i 4 (manifest_apply_p5.dec r (fun s => manifest_apply_b2 s.1 s.2.1 s.2.2 R w)) (False) | .ret => retQ Tryd.prog Tryd.f29.results R .ret [] r w | _ => False) h (by kernel_rfl) ?_
                      intro e _ r w h
                      cases e with
                      | normal =>
                        obtain ⟨s, hs, h⟩ := manifest_apply_p5_ok _ _ h
                        rw [← hs]
                        exact hN3 s r w h
                      | exit i =>
                        rcases exitQ_elim h with ⟨rfl, h⟩ | ⟨_, h⟩
                        · obtain ⟨s, hs, h⟩ := manifest_apply_p5_ok _ _ h
                          rw [← hs]
                          exact hX4 s r w h
                        exact h.elim
                      | ret => exact h
                      | goto i => exact h.elim
                      | panic c => exact h.elim
                      | outgrown => exact h.elim
                    · have h : manifest_apply_b4 t210 e11 t410 R w := h.2 hb
                      refine Wp_glue manifest_apply_p8 (fun s w => manifest_apply_b3 s.1 s.2.1 s.2.2.1 s.2.2.2 R w) [_] (Q0 := fun e _ r w => match e with | .normal => manifest_apply_p8.dec r (fun s => manifest_apply_b3 s.1 s.2.1 s.2.2.1 s.2.2.2 R w) | .exit i => exitQ i 4 (manifest_apply_p5.dec r (fun s => manifest_apply_b2 s.1 s.2.1 s.2.2 R w)) (False) | .ret => retQ Tryd.prog Tryd.f29.results R .ret [] r w | _ => False) h (by kernel_rfl) (fun s r w h => ?_) manifest_apply_p8_ok (fun _ _ _ h => h) ?_
                      · obtain ⟨t211, e12, t413, t110⟩ := s
                        have h : manifest_apply_b3 t211 e12 t413 t110 R w := h
                        refine Wp_leaf_end (Q0 := fun e _ r w => match e with | .normal => manifest_apply_p5.dec r (fun s => manifest_apply_b2 s.1 s.2.1 s.2.2 R w) | .exit i => exitQ i 4 (manifest_apply_p5.dec r (fun s => manifest_apply_b2 s.1 s.2.1 s.2.2 R w)) (False) | .ret => retQ Tryd.prog Tryd.f29.results R .ret [] r w | _ => False) h (by kernel_rfl) ?_
                        intro e _ r w h
                        cases e with
                        | normal =>
                          obtain ⟨s, hs, h⟩ := manifest_apply_p5_ok _ _ h
                          rw [← hs]
                          exact hN3 s r w h
                        | exit i =>
                          rcases exitQ_elim h with ⟨rfl, h⟩ | ⟨_, h⟩
                          · obtain ⟨s, hs, h⟩ := manifest_apply_p5_ok _ _ h
                            rw [← hs]
                            exact hX4 s r w h
                          exact h.elim
                        | ret => exact h
                        | goto i => exact h.elim
                        | panic c => exact h.elim
                        | outgrown => exact h.elim
                      · intro e _ r w hne h
                        cases e with
                        | normal => exact absurd rfl hne
                        | exit i =>
                          rcases exitQ_elim h with ⟨rfl, h⟩ | ⟨_, h⟩
                          · obtain ⟨s, hs, h⟩ := manifest_apply_p5_ok _ _ h
                            rw [← hs]
                            exact hX4 s r w h
                          exact h.elim
                        | ret => exact h
                        | goto i => exact h.elim
                        | panic c => exact h.elim
                        | outgrown => exact h.elim
                  · intro e _ r w hne h
                    cases e with
                    | normal => exact absurd rfl hne
                    | exit i =>
                      rcases exitQ_elim h with ⟨rfl, h⟩ | ⟨_, h⟩
                      · obtain ⟨s, hs, h⟩ := manifest_apply_p5_ok _ _ h
                        rw [← hs]
                        exact hX4 s r w h
                      exact h.elim
                    | ret => exact h
                    | goto i => exact h.elim
                    | panic c => exact h.elim
                    | outgrown => exact h.elim
              · intro e _ r w hne h
                cases e with
                | normal => exact absurd rfl hne
                | exit i =>
                  rcases exitQ_elim h with ⟨rfl, h⟩ | ⟨_, h⟩
                  · obtain ⟨s, hs, h⟩ := manifest_apply_p5_ok _ _ h
                    rw [← hs]
                    exact hX4 s r w h
                  exact h.elim
                | ret => exact h
                | goto i => exact h.elim
                | panic c => exact h.elim
                | outgrown => exact h.elim
          · intro e _ r w hne h
            cases e with
            | normal => exact absurd rfl hne
            | exit i => exact h.elim
            | ret => exact h
            | goto i => exact h.elim
            | panic c => exact h.elim
            | outgrown => exact h.elim
        · refine Wp_glue manifest_apply_p9 (fun s w => manifest_apply_b11 s.1 s.2.1 s.2.2.1 s.2.2.2.1 s.2.2.2.2.1 s.2.2.2.2.2.1 s.2.2.2.2.2.2.1 s.2.2.2.2.2.2.2 R w) [_] (Q0 := fun e _ r w => match e with | .normal => manifest_apply_p9.dec r (fun s => manifest_apply_b11 s.1 s.2.1 s.2.2.1 s.2.2.2.1 s.2.2.2.2.1 s.2.2.2.2.2.1 s.2.2.2.2.2.2.1 s.2.2.2.2.2.2.2 R w) | .exit _ => False | .ret => retQ Tryd.prog Tryd.f29.results R .ret [] r w | _ => False) h (by kernel_rfl) (fun s r w h => ?_) manifest_apply_p9_ok (fun _ _ _ h => h) ?_
          · obtain ⟨t25, e6, t45, t40, t40_n, t40_c, t411, t421⟩ := s
            have h : manifest_apply_b11 t25 e6 t45 t40 t40_n t40_c t411 t421 R w := h
            refine Wp_block_via manifest_apply_p3 (fun s w => manifest_apply_b9 s.1 s.2.1 s.2.2 R w) hN2 (fun hX5 => ?_)
            refine Wp_loop (p := manifest_apply_p9) manifest_apply_p9_ok (fun s r w K0 h => ?_) h
            obtain ⟨t26, e7, t46, t401, t40_n1, t40_c1, t412, t422⟩ := s
            have h : manifest_apply_b10 t26 e7 t46 t401 t40_n1 t40_c1 t412 t422 K0 R w := h
            have hK6 := fun (s : Addr × Addr × Addr × (Option Addr) × Nat × Nat × Int × Int) (r : Regs) (w : World) (h : K0 s w) => manifest_apply_p9_re s r (fun s => K0 s w) h
            refine Wp_leaf_end (Q0 := fun e _ r w => match e with | .normal => manifest_apply_p9.dec r (fun s => K0 s w) | .exit i => exitQ i 2 (manifest_apply_p3.dec r (fun s => manifest_apply_b9 s.1 s.2.1 s.2.2 R w)) (False) | .ret => retQ Tryd.prog Tryd.f29.results R .ret [] r w | _ => False) h (by kernel_rfl) ?_
            intro e _ r w h
            cases e with
            | normal =>
              obtain ⟨s, hs, h⟩ := manifest_apply_p9_ok _ _ h
              rw [← hs]
              exact hK6 s r w h
            | exit i =>
              rcases exitQ_elim h with ⟨rfl, h⟩ | ⟨_, h⟩
              · obtain ⟨s, hs, h⟩ := manifest_apply_p3_ok _ _ h
                rw [← hs]
                exact hX5 s r w h
              exact h.elim
            | ret => exact h
            | goto i => exact h.elim
            | panic c => exact h.elim
            | outgrown => exact h.elim
          · intro e _ r w hne h
            cases e with
            | normal => exact absurd rfl hne
            | exit i => exact h.elim
            | ret => exact h
            | goto i => exact h.elim
            | panic c => exact h.elim
            | outgrown => exact h.elim
      · intro e _ r w hne h
        cases e with
        | normal => exact absurd rfl hne
        | exit i => exact h.elim
        | ret => exact h
        | goto i => exact h.elim
        | panic c => exact h.elim
        | outgrown => exact h.elim
    · refine Wp_glue manifest_apply_p10 (fun s w => manifest_apply_b15 s.1 s.2.1 s.2.2.1 s.2.2.2.1 s.2.2.2.2.1 s.2.2.2.2.2.1 s.2.2.2.2.2.2.1 s.2.2.2.2.2.2.2 R w) [_] (Q0 := fun e _ r w => match e with | .normal => manifest_apply_p10.dec r (fun s => manifest_apply_b15 s.1 s.2.1 s.2.2.1 s.2.2.2.1 s.2.2.2.2.1 s.2.2.2.2.2.1 s.2.2.2.2.2.2.1 s.2.2.2.2.2.2.2 R w) | .exit _ => False | .ret => retQ Tryd.prog Tryd.f29.results R .ret [] r w | _ => False) h (by kernel_rfl) (fun s r w h => ?_) manifest_apply_p10_ok (fun _ _ _ h => h) ?_
      · obtain ⟨t21, e2, t41, t11, t11_n, t11_c, t12, t13⟩ := s
        have h : manifest_apply_b15 t21 e2 t41 t11 t11_n t11_c t12 t13 R w := h
        refine Wp_block_via manifest_apply_p1 (fun s w => manifest_apply_b13 s.1 s.2.1 s.2.2 R w) hN1 (fun hX7 => ?_)
        refine Wp_loop (p := manifest_apply_p10) manifest_apply_p10_ok (fun s r w K0 h => ?_) h
        obtain ⟨t22, e3, t42, t111, t11_n1, t11_c1, t121, t131⟩ := s
        have h : manifest_apply_b14 t22 e3 t42 t111 t11_n1 t11_c1 t121 t131 K0 R w := h
        have hK8 := fun (s : Addr × Addr × Addr × (Option Addr) × Nat × Nat × Int × Int) (r : Regs) (w : World) (h : K0 s w) => manifest_apply_p10_re s r (fun s => K0 s w) h
        refine Wp_leaf_end (Q0 := fun e _ r w => match e with | .normal => manifest_apply_p10.dec r (fun s => K0 s w) | .exit i => exitQ i 0 (manifest_apply_p1.dec r (fun s => manifest_apply_b13 s.1 s.2.1 s.2.2 R w)) (False) | .ret => retQ Tryd.prog Tryd.f29.results R .ret [] r w | _ => False) h (by kernel_rfl) ?_
        intro e _ r w h
        cases e with
        | normal =>
          obtain ⟨s, hs, h⟩ := manifest_apply_p10_ok _ _ h
          rw [← hs]
          exact hK8 s r w h
        | exit i =>
          rcases exitQ_elim h with ⟨rfl, h⟩ | ⟨_, h⟩
          · obtain ⟨s, hs, h⟩ := manifest_apply_p1_ok _ _ h
            rw [← hs]
            exact hX7 s r w h
          exact h.elim
        | ret => exact h
        | goto i => exact h.elim
        | panic c => exact h.elim
        | outgrown => exact h.elim
      · intro e _ r w hne h
        cases e with
        | normal => exact absurd rfl hne
        | exit i => exact h.elim
        | ret => exact h
        | goto i => exact h.elim
        | panic c => exact h.elim
        | outgrown => exact h.elim
  · intro e _ r w hne h
    cases e with
    | normal => exact absurd rfl hne
    | exit i => exact h.elim
    | ret => exact h
    | goto i => exact h.elim
    | panic c => exact h.elim
    | outgrown => exact h.elim

/- glacier/manifest.apart -/
def manifest_apart_b0 (v_Tables : Option Addr) (v_Tables_n : Nat) (v_Tables_c : Nat) (v_Seq : Int) (v_Next : Int) (v_Wal : Int) (R : Value → World → Prop) (w : World) : Prop :=
  AL w (.cells #[(.slice v_Tables v_Tables_n v_Tables_c), (.int .u64 v_Seq), (.int .i64 v_Next), (.int .i64 v_Wal)] 27) fun p w_ =>
  AL w_ (.cells #[(.slice none 0 0), (.int .u64 0), (.int .i64 0), (.int .i64 0)] 27) fun p1 w_1 =>
  LDSl w_1 p fun v v_n v_c =>
  CallR Tryd.prog fn_slices_Clone_s_api_Table_api_Table #[(.slice v v_n v_c)] w_1 fun res w_2 =>
  mSlice res fun v1 v_n1 v_c1 =>
  ST w_2 p (.slice v1 v_n1 v_c1) fun w_3 =>
  LDSl w_3 p fun Tables Tables_n Tables_c =>
  LDI .u64 w_3 (Addr.add p 1) fun Seq =>
  LDI .i64 w_3 (Addr.add p 2) fun Next =>
  LDI .i64 w_3 (Addr.add p 3) fun Wal =>
  ST w_3 p1 (.slice Tables Tables_n Tables_c) fun w_4 =>
  ST w_4 (Addr.add p1 1) (.int .u64 Seq) fun w_5 =>
  ST w_5 (Addr.add p1 2) (.int .i64 Next) fun w_6 =>
  ST w_6 (Addr.add p1 3) (.int .i64 Wal) fun w_7 =>
  LDSl w_7 p1 fun Tables1 Tables_n1 Tables_c1 =>
  LDI .u64 w_7 (Addr.add p1 1) fun Seq1 =>
  LDI .i64 w_7 (Addr.add p1 2) fun Next1 =>
  LDI .i64 w_7 (Addr.add p1 3) fun Wal1 =>
  R (.agg #[(.slice Tables1 Tables_n1 Tables_c1), (.int .u64 Seq1), (.int .i64 Next1), (.int .i64 Wal1)]) w_7

theorem manifest_apart_sound (v_Tables : Option Addr) (v_Tables_n : Nat) (v_Tables_c : Nat) (v_Seq : Int) (v_Next : Int) (v_Wal : Int) (R : Value → World → Prop) (w : World) (h : manifest_apart_b0 v_Tables v_Tables_n v_Tables_c v_Seq v_Next v_Wal R w) :
    CallR Tryd.prog fn_manifest_apart #[(.agg #[(.slice v_Tables v_Tables_n v_Tables_c), (.int .u64 v_Seq), (.int .i64 v_Next), (.int .i64 v_Wal)])] w R := by
  refine CallR_intro (args := [(.agg #[(.slice v_Tables v_Tables_n v_Tables_c), (.int .u64 v_Seq), (.int .i64 v_Next), (.int .i64 v_Wal)])]) Tryd.func28 rfl (Nat.le_of_ble_eq_true (by kernel_rfl)) ?_
  refine Wp_leaf_end (Q0 := fun e _ r w => match e with | .normal => retQ Tryd.prog Tryd.f28.results R .normal [] r w | .exit _ => False | .ret => retQ Tryd.prog Tryd.f28.results R .ret [] r w | _ => False) h (by kernel_rfl) ?_
  intro e _ r w h
  cases e with
  | normal => exact h
  | exit i => exact h.elim
  | ret => exact h
  | goto i => exact h.elim
  | panic c => exact h.elim
  | outgrown => exact h.elim

/- glacier/manifest.Apply -/
def manifest_Apply_b0 (t23 : Addr) (t43 : Addr) (R : Value → World → Prop) (w : World) : Prop :=
  LDSl w t23 fun Tables3 Tables_n3 Tables_c3 =>
  LDI .u64 w (Addr.add t23 1) fun Seq5 =>
  LDI .i64 w (Addr.add t23 2) fun Next5 =>
  LDI .i64 w (Addr.add t23 3) fun Wal5 =>
  ST w t43 (.slice Tables3 Tables_n3 Tables_c3) fun w_22 =>
  ST w_22 (Addr.add t43 1) (.int .u64 Seq5) fun w_23 =>
  ST w_23 (Addr.add t43 2) (.int .i64 Next5) fun w_24 =>
  ST w_24 (Addr.add t43 3) (.int .i64 Wal5) fun w_25 =>
  LDSl w_25 t43 fun Tables4 Tables_n4 Tables_c4 =>
  LDI .u64 w_25 (Addr.add t43 1) fun Seq6 =>
  LDI .i64 w_25 (Addr.add t43 2) fun Next6 =>
  LDI .i64 w_25 (Addr.add t43 3) fun Wal6 =>
  R (.tuple #[(.agg #[(.slice Tables4 Tables_n4 Tables_c4), (.int .u64 Seq6), (.int .i64 Next6), (.int .i64 Wal6)]), (.int .i64 0)]) w_25

def manifest_Apply_b1 (t22 : Addr) (t42 : Addr) (t111 : Option Addr) (t11_n1 : Nat) (t11_c1 : Nat) (t121 : Int) (t131 : Int) (K0 : (Addr × Addr × (Option Addr) × Nat × Nat × Int × Int) → World → Prop) (R : Value → World → Prop) (w : World) : Prop :=
  Br (decide (t131 < t121)) (
  IX t111 t11_n1 t131 5 fun a =>
  LDSl w a fun Add Add_n Add_c =>
  LDSl w (Addr.add a 1) fun Drop Drop_n Drop_c =>
  LDI .u64 w (Addr.add a 2) fun Seq1 =>
  LDI .i64 w (Addr.add a 3) fun Next1 =>
  LDI .i64 w (Addr.add a 4) fun Wal1 =>
  AL w (.cells #[(.slice none 0 0), (.slice none 0 0), (.int .u64 0), (.int .i64 0), (.int .i64 0)] 31) fun e w_7 =>
  ST w_7 e (.slice Add Add_n Add_c) fun w_8 =>
  ST w_8 (Addr.add e 1) (.slice Drop Drop_n Drop_c) fun w_9 =>
  ST w_9 (Addr.add e 2) (.int .u64 Seq1) fun w_10 =>
  ST w_10 (Addr.add e 3) (.int .i64 Next1) fun w_11 =>
  ST w_11 (Addr.add e 4) (.int .i64 Wal1) fun w_12 =>
  LDSl w_12 t22 fun Tables1 Tables_n1 Tables_c1 =>
  LDI .u64 w_12 (Addr.add t22 1) fun Seq2 =>
  LDI .i64 w_12 (Addr.add t22 2) fun Next2 =>
  LDI .i64 w_12 (Addr.add t22 3) fun Wal2 =>
  LDSl w_12 e fun Add1 Add_n1 Add_c1 =>
  LDSl w_12 (Addr.add e 1) fun Drop1 Drop_n1 Drop_c1 =>
  LDI .u64 w_12 (Addr.add e 2) fun Seq3 =>
  LDI .i64 w_12 (Addr.add e 3) fun Next3 =>
  LDI .i64 w_12 (Addr.add e 4) fun Wal3 =>
  CallR Tryd.prog fn_manifest_apply #[(.agg #[(.slice Tables1 Tables_n1 Tables_c1), (.int .u64 Seq2), (.int .i64 Next2), (.int .i64 Wal2)]), (.agg #[(.slice Add1 Add_n1 Add_c1), (.slice Drop1 Drop_n1 Drop_c1), (.int .u64 Seq3), (.int .i64 Next3), (.int .i64 Wal3)])] w_12 fun res1 w_13 =>
  mTup res1 fun l4 =>
  mCons l4 fun v l5 =>
  mAgg v fun v_l1 =>
  mCons v_l1 fun v_Tables3 l6 =>
  mSlice v_Tables3 fun v_Tables4 v_Tables_n2 v_Tables_c2 =>
  mCons l6 fun v_Seq3 l7 =>
  mInt .u64 v_Seq3 fun v_Seq4 =>
  mCons l7 fun v_Next3 l8 =>
  mInt .i64 v_Next3 fun v_Next4 =>
  mCons l8 fun v_Wal3 l9 =>
  mInt .i64 v_Wal3 fun v_Wal4 =>
  mNil l9 (
  mCons l5 fun v1 l10 =>
  mInt .i64 v1 fun v2 =>
  mNil l10 (
  ST w_13 t22 (.slice v_Tables4 v_Tables_n2 v_Tables_c2) fun w_14 =>
  ST w_14 (Addr.add t22 1) (.int .u64 v_Seq4) fun w_15 =>
  ST w_15 (Addr.add t22 2) (.int .i64 v_Next4) fun w_16 =>
  ST w_16 (Addr.add t22 3) (.int .i64 v_Wal4) fun w_17 =>
  Br (v2 != 0) (
  ST w_17 t42 (.slice none 0 0) fun w_18 =>
  ST w_18 (Addr.add t42 1) (.int .u64 0) fun w_19 =>
  ST w_19 (Addr.add t42 2) (.int .i64 0) fun w_20 =>
  ST w_20 (Addr.add t42 3) (.int .i64 0) fun w_21 =>
  LDSl w_21 t42 fun Tables2 Tables_n2 Tables_c2 =>
  LDI .u64 w_21 (Addr.add t42 1) fun Seq4 =>
  LDI .i64 w_21 (Addr.add t42 2) fun Next4 =>
  LDI .i64 w_21 (Addr.add t42 3) fun Wal4 =>
  R (.tuple #[(.agg #[(.slice Tables2 Tables_n2 Tables_c2), (.int .u64 Seq4), (.int .i64 Next4), (.int .i64 Wal4)]), (.int .i64 v2)]) w_21) (
  K0 (t22, t42, t111, t11_n1, t11_c1, t121, IntKind.wrap .i64 (t131 + 1)) w_17)))) (
  manifest_Apply_b0 t22 t42 R w)

def manifest_Apply_b2 (t21 : Addr) (t41 : Addr) (t11 : Option Addr) (t11_n : Nat) (t11_c : Nat) (t12 : Int) (t13 : Int) (R : Value → World → Prop) (w : World) : Prop :=
  LoopS (σ := Addr × Addr × (Option Addr) × Nat × Nat × Int × Int) (fun s w K0 =>
  manifest_Apply_b1 s.1 s.2.1 s.2.2.1 s.2.2.2.1 s.2.2.2.2.1 s.2.2.2.2.2.1 s.2.2.2.2.2.2 K0 R w) (t21, t41, t11, t11_n, t11_c, t12, t13) w

def manifest_Apply_b3 (edits1 : Option Addr) (edits_n1 : Nat) (edits_c1 : Nat) (t2 : Addr) (t4 : Addr) (R : Value → World → Prop) (w : World) : Prop :=
  manifest_Apply_b2 t2 t4 edits1 edits_n1 edits_c1 (edits_n1 : Int) 0 R w

def manifest_Apply_b4 (v_Tables : Option Addr) (v_Tables_n : Nat) (v_Tables_c : Nat) (v_Seq : Int) (v_Next : Int) (v_Wal : Int) (edits : Option Addr) (edits_n : Nat) (edits_c : Nat) (R : Value → World → Prop) (w : World) : Prop :=
  AL w (.cells #[(.slice v_Tables v_Tables_n v_Tables_c), (.int .u64 v_Seq), (.int .i64 v_Next), (.int .i64 v_Wal)] 27) fun p w_ =>
  AL w_ (.cells #[(.slice none 0 0), (.int .u64 0), (.int .i64 0), (.int .i64 0)] 27) fun p1 w_1 =>
  LDSl w_1 p fun Tables Tables_n Tables_c =>
  LDI .u64 w_1 (Addr.add p 1) fun Seq =>
  LDI .i64 w_1 (Addr.add p 2) fun Next =>
  LDI .i64 w_1 (Addr.add p 3) fun Wal =>
  CallR Tryd.prog fn_manifest_apart #[(.agg #[(.slice Tables Tables_n Tables_c), (.int .u64 Seq), (.int .i64 Next), (.int .i64 Wal)])] w_1 fun res w_2 =>
  mAgg res fun v_l =>
  mCons v_l fun v_Tables1 l =>
  mSlice v_Tables1 fun v_Tables2 v_Tables_n1 v_Tables_c1 =>
  mCons l fun v_Seq1 l1 =>
  mInt .u64 v_Seq1 fun v_Seq2 =>
  mCons l1 fun v_Next1 l2 =>
  mInt .i64 v_Next1 fun v_Next2 =>
  mCons l2 fun v_Wal1 l3 =>
  mInt .i64 v_Wal1 fun v_Wal2 =>
  mNil l3 (
  ST w_2 p (.slice v_Tables2 v_Tables_n1 v_Tables_c1) fun w_3 =>
  ST w_3 (Addr.add p 1) (.int .u64 v_Seq2) fun w_4 =>
  ST w_4 (Addr.add p 2) (.int .i64 v_Next2) fun w_5 =>
  ST w_5 (Addr.add p 3) (.int .i64 v_Wal2) fun w_6 =>
  manifest_Apply_b3 edits edits_n edits_c p p1 R w_6)

def manifest_Apply_p0 : Point ((Option Addr) × Nat × Nat × Addr × Addr) := { slots := fun s => [(1, (.slice s.1 s.2.1 s.2.2.1)), (2, (.pointer (some s.2.2.2.1))), (4, (.pointer (some s.2.2.2.2)))], dec := fun r K => mSlice (r 1) fun x x1 x2 => mPA (r 2) fun x3 => mPA (r 4) fun x4 => K (x, x1, x2, x3, x4) }
theorem manifest_Apply_p0_ok : manifest_Apply_p0.ok := by
  intro r K h
  unfold manifest_Apply_p0 at h
  obtain ⟨x, x1, x2, e0, h⟩ := mSlice_elim h
  obtain ⟨x3, e1, h⟩ := mPA_elim h
  obtain ⟨x4, e2, h⟩ := mPA_elim h
  exact ⟨(x, x1, x2, x3, x4), regsOf_self (L := [(1, (.slice x x1 x2)), (2, (.pointer (some x3))), (4, (.pointer (some x4)))]) (List.forall_mem_cons.2 ⟨e0, List.forall_mem_cons.2 ⟨e1, List.forall_mem_cons.2 ⟨e2, List.forall_mem_nil _⟩⟩⟩), h⟩
theorem manifest_Apply_p0_re (s : (Option Addr) × Nat × Nat × Addr × Addr) (r : Regs) (K : ((Option Addr) × Nat × Nat × Addr × Addr) → Prop) (h : K s) : manifest_Apply_p0.dec (regsOf (manifest_Apply_p0.slots s) r) K := by
  obtain ⟨x5, x6, x7, x8, x9⟩ := s
  exact cast (show K (x5, x6, x7, x8, x9) = manifest_Apply_p0.dec (regsOf (manifest_Apply_p0.slots (x5, x6, x7, x8, x9)) r) K by kernel_rfl) h

def manifest_Apply_p1 : Point (Addr × Addr) := { slots := fun s => [(2, (.pointer (some s.1))), (4, (.pointer (some s.2)))], dec := fun r K => mPA (r 2) fun x => mPA (r 4) fun x1 => K (x, x1) }
theorem manifest_Apply_p1_ok : manifest_Apply_p1.ok := by
  intro r K h
  unfold manifest_Apply_p1 at h
  obtain ⟨x, e0, h⟩ := mPA_elim h
  obtain ⟨x1, e1, h⟩ := mPA_elim h
  exact ⟨(x, x1), regsOf_self (L := [(2, (.pointer (some x))), (4, (.pointer (some x1)))]) (List.forall_mem_cons.2 ⟨e0, List.forall_mem_cons.2 ⟨e1, List.forall_mem_nil _⟩⟩), h⟩
theorem manifest_Apply_p1_re (s : Addr × Addr) (r : Regs) (K : (Addr × Addr) → Prop) (h : K s) : manifest_Apply_p1.dec (regsOf (manifest_Apply_p1.slots s) r) K := by
  obtain ⟨x2, x3⟩ := s
  exact cast (show K (x2, x3) = manifest_Apply_p1.dec (regsOf (manifest_Apply_p1.slots (x2, x3)) r) K by kernel_rfl) h

def manifest_Apply_p2 : Point (Addr × Addr × (Option Addr) × Nat × Nat × Int × Int) := { slots := fun s => [(2, (.pointer (some s.1))), (4, (.pointer (some s.2.1))), (11, (.slice s.2.2.1 s.2.2.2.1 s.2.2.2.2.1)), (12, (.int .i64 s.2.2.2.2.2.1)), (13, (.int .i64 s.2.2.2.2.2.2))], dec := fun r K => mPA (r 2) fun x => mPA (r 4) fun x1 => mSlice (r 11) fun x2 x3 x4 => mInt .i64 (r 12) fun x5 => mInt .i64 (r 13) fun x6 => K (x, x1, x2, x3, x4, x5, x6) }
theorem manifest_Apply_p2_ok : manifest_Apply_p2.ok := by
  intro r K h
  unfold manifest_Apply_p2 at h
  obtain ⟨x, e0, h⟩ := mPA_elim h
  obtain ⟨x1, e1, h⟩ := mPA_elim h
  obtain ⟨x2, x3, x4, e2, h⟩ := mSlice_elim h
  obtain ⟨x5, e3, h⟩ := mInt_elim h
  obtain ⟨x6, e4, h⟩ := mInt_elim h
  exact ⟨(x, x1, x2, x3, x4, x5, x6), regsOf_self (L := [(2, (.pointer (some x))), (4, (.pointer (some x1))), (11, (.slice x2 x3 x4)), (12, (.int .i64 x5)), (13, (.int .i64 x6))]) (List.forall_mem_cons.2 ⟨e0, List.forall_mem_cons.2 ⟨e1, List.forall_mem_cons.2 ⟨e2, List.forall_mem_cons.2 ⟨e3, List.forall_mem_cons.2 ⟨e4, List.forall_mem_nil _⟩⟩⟩⟩⟩), h⟩
theorem manifest_Apply_p2_re (s : Addr × Addr × (Option Addr) × Nat × Nat × Int × Int) (r : Regs) (K : (Addr × Addr × (Option Addr) × Nat × Nat × Int × Int) → Prop) (h : K s) : manifest_Apply_p2.dec (regsOf (manifest_Apply_p2.slots s) r) K := by
  obtain ⟨x7, x8, x9, x10, x11, x12, x13⟩ := s
  exact cast (show K (x7, x8, x9, x10, x11, x12, x13) = manifest_Apply_p2.dec (regsOf (manifest_Apply_p2.slots (x7, x8, x9, x10, x11, x12, x13)) r) K by kernel_rfl) h

theorem manifest_Apply_sound (v_Tables : Option Addr) (v_Tables_n : Nat) (v_Tables_c : Nat) (v_Seq : Int) (v_Next : Int) (v_Wal : Int) (edits : Option Addr) (edits_n : Nat) (edits_c : Nat) (R : Value → World → Prop) (w : World) (h : manifest_Apply_b4 v_Tables v_Tables_n v_Tables_c v_Seq v_Next v_Wal edits edits_n edits_c R w) :
    CallR Tryd.prog fn_manifest_Apply #[(.agg #[(.slice v_Tables v_Tables_n v_Tables_c), (.int .u64 v_Seq), (.int .i64 v_Next), (.int .i64 v_Wal)]), (.slice edits edits_n edits_c)] w R := by
  refine CallR_intro (args := [(.agg #[(.slice v_Tables v_Tables_n v_Tables_c), (.int .u64 v_Seq), (.int .i64 v_Next), (.int .i64 v_Wal)]), (.slice edits edits_n edits_c)]) Tryd.func9 rfl (Nat.le_of_ble_eq_true (by kernel_rfl)) ?_
  refine Wp_glue manifest_Apply_p0 (fun s w => manifest_Apply_b3 s.1 s.2.1 s.2.2.1 s.2.2.2.1 s.2.2.2.2 R w) [_, _] (Q0 := fun e _ r w => match e with | .normal => manifest_Apply_p0.dec r (fun s => manifest_Apply_b3 s.1 s.2.1 s.2.2.1 s.2.2.2.1 s.2.2.2.2 R w) | .exit _ => False | .ret => retQ Tryd.prog Tryd.f9.results R .ret [] r w | _ => False) h (by kernel_rfl) (fun s r w h => ?_) manifest_Apply_p0_ok (fun _ _ _ h => h) ?_
  · obtain ⟨edits1, edits_n1, edits_c1, t2, t4⟩ := s
    have h : manifest_Apply_b3 edits1 edits_n1 edits_c1 t2 t4 R w := h
    refine Wp_seq_via manifest_Apply_p1 (fun s w => manifest_Apply_b0 s.1 s.2 R w) (fun s r w h => ?_) (fun hN1 => ?_)
    · obtain ⟨t23, t43⟩ := s
      have h : manifest_Apply_b0 t23 t43 R w := h
      refine Wp_leaf_end (Q0 := fun e _ r w => match e with | .normal => retQ Tryd.prog Tryd.f9.results R .normal [] r w | .exit _ => False | .ret => retQ Tryd.prog Tryd.f9.results R .ret [] r w | _ => False) h (by kernel_rfl) ?_
      intro e _ r w h
      cases e with
      | normal => exact h
      | exit i => exact h.elim
      | ret => exact h
      | goto i => exact h.elim
      | panic c => exact h.elim
      | outgrown => exact h.elim
    · refine Wp_glue manifest_Apply_p2 (fun s w => manifest_Apply_b2 s.1 s.2.1 s.2.2.1 s.2.2.2.1 s.2.2.2.2.1 s.2.2.2.2.2.1 s.2.2.2.2.2.2 R w) [_] (Q0 := fun e _ r w => match e with | .normal => manifest_Apply_p2.dec r (fun s => manifest_Apply_b2 s.1 s.2.1 s.2.2.1 s.2.2.2.1 s.2.2.2.2.1 s.2.2.2.2.2.1 s.2.2.2.2.2.2 R w) | .exit _ => False | .ret => retQ Tryd.prog Tryd.f9.results R .ret [] r w | _ => False) h (by kernel_rfl) (fun s r w h => ?_) manifest_Apply_p2_ok (fun _ _ _ h => h) ?_
      · obtain ⟨t21, t41, t11, t11_n, t11_c, t12, t13⟩ := s
        have h : manifest_Apply_b2 t21 t41 t11 t11_n t11_c t12 t13 R w := h
        refine Wp_block_via manifest_Apply_p1 (fun s w => manifest_Apply_b0 s.1 s.2 R w) hN1 (fun hX2 => ?_)
        refine Wp_loop (p := manifest_Apply_p2) manifest_Apply_p2_ok (fun s r w K0 h => ?_) h
        obtain ⟨t22, t42, t111, t11_n1, t11_c1, t121, t131⟩ := s
        have h : manifest_Apply_b1 t22 t42 t111 t11_n1 t11_c1 t121 t131 K0 R w := h
        have hK3 := fun (s : Addr × Addr × (Option Addr) × Nat × Nat × Int × Int) (r : Regs) (w : World) (h : K0 s w) => manifest_Apply_p2_re s r (fun s => K0 s w) h
        refine Wp_leaf_end (Q0 := fun e _ r w => match e with | .normal => manifest_Apply_p2.dec r (fun s => K0 s w) | .exit i => exitQ i 0 (manifest_Apply_p1.dec r (fun s => manifest_Apply_b0 s.1 s.2 R w)) (False) | .ret => retQ Tryd.prog Tryd.f9.results R .ret [] r w | _ => False) h (by kernel_rfl) ?_
        intro e _ r w h
        cases e with
        | normal =>
          obtain ⟨s, hs, h⟩ := manifest_Apply_p2_ok _ _ h
          rw [← hs]
          exact hK3 s r w h
        | exit i =>
          rcases exitQ_elim h with ⟨rfl, h⟩ | ⟨_, h⟩
          · obtain ⟨s, hs, h⟩ := manifest_Apply_p1_ok _ _ h
            rw [← hs]
            exact hX2 s r w h
          exact h.elim
        | ret => exact h
        | goto i => exact h.elim
        | panic c => exact h.elim
        | outgrown => exact h.elim
      · intro e _ r w hne h
        cases e with
        | normal => exact absurd rfl hne
        | exit i => exact h.elim
        | ret => exact h
        | goto i => exact h.elim
        | panic c => exact h.elim
        | outgrown => exact h.elim
  · intro e _ r w hne h
    cases e with
    | normal => exact absurd rfl hne
    | exit i => exact h.elim
    | ret => exact h
    | goto i => exact h.elim
    | panic c => exact h.elim
    | outgrown => exact h.elim

end Go.Proofs.YtnhjcjnjpciifaaDoor
