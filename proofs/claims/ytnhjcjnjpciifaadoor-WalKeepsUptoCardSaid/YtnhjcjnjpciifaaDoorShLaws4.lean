/- Printed by a program of this claim: the shallow readings of functions, and that they are sound. -/
import Derived.Test.YtnhjcjnjpciifaaDoorShNames
namespace Go.Proofs.YtnhjcjnjpciifaaDoor
open Go.Sh

/- glacier/glacierlaw4.same -/
def glacierlaw4_same_b0 (R : Value → World → Prop) (w : World) : Prop :=
  R (.bool true) w

def glacierlaw4_same_b1 (a3 : Option Addr) (a_n3 : Nat) (a_c3 : Nat) (b3 : Option Addr) (b_n3 : Nat) (b_c3 : Nat) (i1 : Int) (K0 : ((Option Addr) × Nat × Nat × (Option Addr) × Nat × Nat × Int) → World → Prop) (R : Value → World → Prop) (w : World) : Prop :=
  Br (decide (i1 < (a_n3 : Int))) (
  LetW (World.drew w) fun w_ =>
  IX a3 a_n3 i1 1 fun a4 =>
  LDSl w_ a4 fun v v_n v_c =>
  rRun Tryd.prog (convert 41 9 (.slice v v_n v_c)) w_ fun sr w_1 =>
  mStr sr fun v1 =>
  (w_1 = w_ ∧ 
  IX b3 b_n3 i1 1 fun a5 =>
  LDSl w_ a5 fun v2 v_n1 v_c1 =>
  rRun Tryd.prog (convert 41 9 (.slice v2 v_n1 v_c1)) w_ fun sr1 w_2 =>
  mStr sr1 fun v3 =>
  (w_2 = w_ ∧ 
  Br (!(ByteArray.toList v1 == ByteArray.toList v3)) (
  R (.bool false) w_) (
  K0 (a3, a_n3, a_c3, b3, b_n3, b_c3, IntKind.wrap .i64 (i1 + 1)) w_)))) (
  glacierlaw4_same_b0 R w)

def glacierlaw4_same_b2 (a2 : Option Addr) (a_n2 : Nat) (a_c2 : Nat) (b2 : Option Addr) (b_n2 : Nat) (b_c2 : Nat) (i : Int) (R : Value → World → Prop) (w : World) : Prop :=
  LoopS (σ := (Option Addr) × Nat × Nat × (Option Addr) × Nat × Nat × Int) (fun s w K0 =>
  glacierlaw4_same_b1 s.1 s.2.1 s.2.2.1 s.2.2.2.1 s.2.2.2.2.1 s.2.2.2.2.2.1 s.2.2.2.2.2.2 K0 R w) (a2, a_n2, a_c2, b2, b_n2, b_c2, i) w

def glacierlaw4_same_b3 (a1 : Option Addr) (a_n1 : Nat) (a_c1 : Nat) (b1 : Option Addr) (b_n1 : Nat) (b_c1 : Nat) (R : Value → World → Prop) (w : World) : Prop :=
  glacierlaw4_same_b2 a1 a_n1 a_c1 b1 b_n1 b_c1 0 R w

def glacierlaw4_same_b4 (a : Option Addr) (a_n : Nat) (a_c : Nat) (b : Option Addr) (b_n : Nat) (b_c : Nat) (R : Value → World → Prop) (w : World) : Prop :=
  Br ((a_n : Int) != (b_n : Int)) (
  R (.bool false) w) (
  glacierlaw4_same_b3 a a_n a_c b b_n b_c R w)

def glacierlaw4_same_p0 : Point ((Option Addr) × Nat × Nat × (Option Addr) × Nat × Nat) := { slots := fun s => [(0, (.slice s.1 s.2.1 s.2.2.1)), (1, (.slice s.2.2.2.1 s.2.2.2.2.1 s.2.2.2.2.2))], dec := fun r K => mSlice (r 0) fun x x1 x2 => mSlice (r 1) fun x3 x4 x5 => K (x, x1, x2, x3, x4, x5) }
theorem glacierlaw4_same_p0_ok : glacierlaw4_same_p0.ok := by
  intro r K h
  unfold glacierlaw4_same_p0 at h
  obtain ⟨x, x1, x2, e0, h⟩ := mSlice_elim h
  obtain ⟨x3, x4, x5, e1, h⟩ := mSlice_elim h
  exact ⟨(x, x1, x2, x3, x4, x5), regsOf_self (L := [(0, (.slice x x1 x2)), (1, (.slice x3 x4 x5))]) (List.forall_mem_cons.2 ⟨e0, List.forall_mem_cons.2 ⟨e1, List.forall_mem_nil _⟩⟩), h⟩
theorem glacierlaw4_same_p0_re (s : (Option Addr) × Nat × Nat × (Option Addr) × Nat × Nat) (r : Regs) (K : ((Option Addr) × Nat × Nat × (Option Addr) × Nat × Nat) → Prop) (h : K s) : glacierlaw4_same_p0.dec (regsOf (glacierlaw4_same_p0.slots s) r) K := by
  obtain ⟨x6, x7, x8, x9, x10, x11⟩ := s
  exact cast (show K (x6, x7, x8, x9, x10, x11) = glacierlaw4_same_p0.dec (regsOf (glacierlaw4_same_p0.slots (x6, x7, x8, x9, x10, x11)) r) K by kernel_rfl) h

def glacierlaw4_same_p1 : Point (Unit) := { slots := fun _ => [], dec := fun _ K => K () }
theorem glacierlaw4_same_p1_ok : glacierlaw4_same_p1.ok := by
  intro r K h
  unfold glacierlaw4_same_p1 at h
  exact ⟨(), regsOf_self (L := []) (List.forall_mem_nil _), h⟩
theorem glacierlaw4_same_p1_re (s : Unit) (r : Regs) (K : Unit → Prop) (h : K s) : glacierlaw4_same_p1.dec (regsOf (glacierlaw4_same_p1.slots s) r) K := by
  exact cast (show K () = glacierlaw4_same_p1.dec (regsOf (glacierlaw4_same_p1.slots ()) r) K by kernel_rfl) h

def glacierlaw4_same_p2 : Point ((Option Addr) × Nat × Nat × (Option Addr) × Nat × Nat × Int) := { slots := fun s => [(0, (.slice s.1 s.2.1 s.2.2.1)), (1, (.slice s.2.2.2.1 s.2.2.2.2.1 s.2.2.2.2.2.1)), (5, (.int .i64 s.2.2.2.2.2.2))], dec := fun r K => mSlice (r 0) fun x x1 x2 => mSlice (r 1) fun x3 x4 x5 => mInt .i64 (r 5) fun x6 => K (x, x1, x2, x3, x4, x5, x6) }
theorem glacierlaw4_same_p2_ok : glacierlaw4_same_p2.ok := by
  intro r K h
  unfold glacierlaw4_same_p2 at h
  obtain ⟨x, x1, x2, e0, h⟩ := mSlice_elim h
  obtain ⟨x3, x4, x5, e1, h⟩ := mSlice_elim h
  obtain ⟨x6, e2, h⟩ := mInt_elim h
  exact ⟨(x, x1, x2, x3, x4, x5, x6), regsOf_self (L := [(0, (.slice x x1 x2)), (1, (.slice x3 x4 x5)), (5, (.int .i64 x6))]) (List.forall_mem_cons.2 ⟨e0, List.forall_mem_cons.2 ⟨e1, List.forall_mem_cons.2 ⟨e2, List.forall_mem_nil _⟩⟩⟩), h⟩
theorem glacierlaw4_same_p2_re (s : (Option Addr) × Nat × Nat × (Option Addr) × Nat × Nat × Int) (r : Regs) (K : ((Option Addr) × Nat × Nat × (Option Addr) × Nat × Nat × Int) → Prop) (h : K s) : glacierlaw4_same_p2.dec (regsOf (glacierlaw4_same_p2.slots s) r) K := by
  obtain ⟨x7, x8, x9, x10, x11, x12, x13⟩ := s
  exact cast (show K (x7, x8, x9, x10, x11, x12, x13) = glacierlaw4_same_p2.dec (regsOf (glacierlaw4_same_p2.slots (x7, x8, x9, x10, x11, x12, x13)) r) K by kernel_rfl) h

set_option maxRecDepth 100000 in
theorem glacierlaw4_same_sound (a : Option Addr) (a_n : Nat) (a_c : Nat) (b : Option Addr) (b_n : Nat) (b_c : Nat) (R : Value → World → Prop) (w : World) (h : glacierlaw4_same_b4 a a_n a_c b b_n b_c R w) :
    CallR Tryd.prog fn_glacierlaw4_same #[(.slice a a_n a_c), (.slice b b_n b_c)] w R := by
  refine CallR_intro (args := [(.slice a a_n a_c), (.slice b b_n b_c)]) Tryd.func19 rfl (Nat.le_of_ble_eq_true (by kernel_rfl)) ?_
  refine Wp_glue glacierlaw4_same_p0 (fun s w => glacierlaw4_same_b3 s.1 s.2.1 s.2.2.1 s.2.2.2.1 s.2.2.2.2.1 s.2.2.2.2.2 R w) [_, _] (Q0 := fun e _ r w => match e with | .normal => glacierlaw4_same_p0.dec r (fun s => glacierlaw4_same_b3 s.1 s.2.1 s.2.2.1 s.2.2.2.1 s.2.2.2.2.1 s.2.2.2.2.2 R w) | .exit _ => False | .ret => retQ Tryd.prog Tryd.f19.results R .ret [] r w | _ => False) h (by kernel_rfl) (fun s r w h => ?_) glacierlaw4_same_p0_ok (fun _ _ _ h => h) ?_
  · obtain ⟨a1, a_n1, a_c1, b1, b_n1, b_c1⟩ := s
    have h : glacierlaw4_same_b3 a1 a_n1 a_c1 b1 b_n1 b_c1 R w := h
    refine Wp_seq_via glacierlaw4_same_p1 (fun _ w => glacierlaw4_same_b0 R w) (fun s r w h => ?_) (fun hN1 => ?_)
    · cases s
      have h : glacierlaw4_same_b0 R w := h
      refine Wp_leaf_end (Q0 := fun e _ r w => match e with | .normal => retQ Tryd.prog Tryd.f19.results R .normal [] r w | .exit _ => False | .ret => retQ Tryd.prog Tryd.f19.results R .ret [] r w | _ => False) h (by kernel_rfl) ?_
      intro e _ r w h
      cases e with
      | normal => exact h
      | exit i => exact h.elim
      | ret => exact h
      | goto i => exact h.elim
      | panic c => exact h.elim
      | outgrown => exact h.elim
    · refine Wp_glue glacierlaw4_same_p2 (fun s w => glacierlaw4_same_b2 s.1 s.2.1 s.2.2.1 s.2.2.2.1 s.2.2.2.2.1 s.2.2.2.2.2.1 s.2.2.2.2.2.2 R w) [_] (Q0 := fun e _ r w => match e with | .normal => glacierlaw4_same_p2.dec r (fun s => glacierlaw4_same_b2 s.1 s.2.1 s.2.2.1 s.2.2.2.1 s.2.2.2.2.1 s.2.2.2.2.2.1 s.2.2.2.2.2.2 R w) | .exit _ => False | .ret => retQ Tryd.prog Tryd.f19.results R .ret [] r w | _ => False) h (by kernel_rfl) (fun s r w h => ?_) glacierlaw4_same_p2_ok (fun _ _ _ h => h) ?_
      · obtain ⟨a2, a_n2, a_c2, b2, b_n2, b_c2, i⟩ := s
        have h : glacierlaw4_same_b2 a2 a_n2 a_c2 b2 b_n2 b_c2 i R w := h
        refine Wp_block_via glacierlaw4_same_p1 (fun _ w => glacierlaw4_same_b0 R w) hN1 (fun hX2 => ?_)
        refine Wp_loop (p := glacierlaw4_same_p2) glacierlaw4_same_p2_ok (fun s r w K0 h => ?_) h
        obtain ⟨a3, a_n3, a_c3, b3, b_n3, b_c3, i1⟩ := s
        have h : glacierlaw4_same_b1 a3 a_n3 a_c3 b3 b_n3 b_c3 i1 K0 R w := h
        have hK3 := fun (s : (Option Addr) × Nat × Nat × (Option Addr) × Nat × Nat × Int) (r : Regs) (w : World) (h : K0 s w) => glacierlaw4_same_p2_re s r (fun s => K0 s w) h
        refine Wp_leaf_end (Q0 := fun e _ r w => match e with | .normal => glacierlaw4_same_p2.dec r (fun s => K0 s w) | .exit i => exitQ i 0 (glacierlaw4_same_p1.dec r (fun _ => glacierlaw4_same_b0 R w)) (False) | .ret => retQ Tryd.prog Tryd.f19.results R .ret [] r w | _ => False) h (by kernel_rfl) ?_
        intro e _ r w h
        cases e with
        | normal =>
          obtain ⟨s, hs, h⟩ := glacierlaw4_same_p2_ok _ _ h
          rw [← hs]
          exact hK3 s r w h
        | exit i =>
          rcases exitQ_elim h with ⟨rfl, h⟩ | ⟨_, h⟩
          · obtain ⟨s, hs, h⟩ := glacierlaw4_same_p1_ok _ _ h
            rw [← hs]
            exact hX2 s r w h
          exact h.elim
        | ret => exact h
        | goto i => exact h.elim
        | panic c => exact h.elim
        | outgrown => exact h.elim
      · intro e _ r w hne h
        cases e with
        | normal => exact absurd rfl hne
        | exit i => exact h.elim
        | ret => exact h
        | goto i => exact h.elim
        | panic c => exact h.elim
        | outgrown => exact h.elim
  · intro e _ r w hne h
    cases e with
    | normal => exact absurd rfl hne
    | exit i => exact h.elim
    | ret => exact h
    | goto i => exact h.elim
    | panic c => exact h.elim
    | outgrown => exact h.elim

/- glacier/glacierlaw4.few -/
def glacierlaw4_few_b0 (l7 : Option Addr) (l_n7 : Nat) (l_c7 : Nat) (n6 : Int) (i5 : Int) (K0 : ((Option Addr) × Nat × Nat × Int × Int) → World → Prop) (w : World) : Prop :=
  K0 (l7, l_n7, l_c7, n6, IntKind.wrap .i64 (i5 + 1)) w

def glacierlaw4_few_b1 (l6 : Option Addr) (l_n6 : Nat) (l_c6 : Nat) (n5 : Int) (i4 : Int) (k1 : Int) (K0 : ((Option Addr) × Nat × Nat × Int × Int) → World → Prop) (K1 : ((Option Addr) × Nat × Nat × Int × Int × Int) → World → Prop) (w : World) : Prop :=
  IX l6 l_n6 i4 4 fun a2 =>
  LDSl w (Addr.add a2 2) fun _ v_n2 _ =>
  Br (decide (k1 < (v_n2 : Int))) (
  IX l6 l_n6 i4 4 fun a3 =>
  LDSl w (Addr.add a3 2) fun v3 v_n3 _ =>
  IX v3 v_n3 k1 1 fun a4 =>
  LDSl w a4 fun _ v_n4 _ =>
  K1 (l6, l_n6, l_c6, IntKind.wrap .i64 (n5 + (v_n4 : Int)), i4, IntKind.wrap .i64 (k1 + 1)) w) (
  glacierlaw4_few_b0 l6 l_n6 l_c6 n5 i4 K0 w)

def glacierlaw4_few_b2 (l5 : Option Addr) (l_n5 : Nat) (l_c5 : Nat) (n4 : Int) (i3 : Int) (k : Int) (K0 : ((Option Addr) × Nat × Nat × Int × Int) → World → Prop) (w : World) : Prop :=
  LoopS (σ := (Option Addr) × Nat × Nat × Int × Int × Int) (fun s w K1 =>
  glacierlaw4_few_b1 s.1 s.2.1 s.2.2.1 s.2.2.2.1 s.2.2.2.2.1 s.2.2.2.2.2 K0 K1 w) (l5, l_n5, l_c5, n4, i3, k) w

def glacierlaw4_few_b3 (l4 : Option Addr) (l_n4 : Nat) (l_c4 : Nat) (n3 : Int) (i2 : Int) (K0 : ((Option Addr) × Nat × Nat × Int × Int) → World → Prop) (w : World) : Prop :=
  LetW (World.drew w) fun w_ =>
  IX l4 l_n4 i2 4 fun a =>
  LDSl w_ (Addr.add a 2) fun _ v_n _ =>
  (w_ = w_ ∧ 
  IX l4 l_n4 i2 4 fun a1 =>
  LDSl w_ (Addr.add a1 3) fun _ v_n1 _ =>
  (w_ = w_ ∧ 
  glacierlaw4_few_b2 l4 l_n4 l_c4 (IntKind.wrap .i64 ((IntKind.wrap .i64 (n3 + (v_n : Int))) + (v_n1 : Int))) i2 0 K0 w_))

def glacierlaw4_few_b4 (l_n8 : Nat) (n7 : Int) (R : Value → World → Prop) (w : World) : Prop :=
  Br (decide ((l_n8 : Int) ≤ 300)) (
  R (.bool (decide (n7 ≤ 65536))) w) (
  R (.bool false) w)

def glacierlaw4_few_b5 (l3 : Option Addr) (l_n3 : Nat) (l_c3 : Nat) (n2 : Int) (i1 : Int) (K0 : ((Option Addr) × Nat × Nat × Int × Int) → World → Prop) (R : Value → World → Prop) (w : World) : Prop :=
  Br (decide (i1 < (l_n3 : Int))) (
  glacierlaw4_few_b3 l3 l_n3 l_c3 n2 i1 K0 w) (
  glacierlaw4_few_b4 l_n3 n2 R w)

def glacierlaw4_few_b6 (l2 : Option Addr) (l_n2 : Nat) (l_c2 : Nat) (n1 : Int) (i : Int) (R : Value → World → Prop) (w : World) : Prop :=
  LoopS (σ := (Option Addr) × Nat × Nat × Int × Int) (fun s w K0 =>
  glacierlaw4_few_b5 s.1 s.2.1 s.2.2.1 s.2.2.2.1 s.2.2.2.2 K0 R w) (l2, l_n2, l_c2, n1, i) w

def glacierlaw4_few_b7 (l1 : Option Addr) (l_n1 : Nat) (l_c1 : Nat) (n : Int) (R : Value → World → Prop) (w : World) : Prop :=
  glacierlaw4_few_b6 l1 l_n1 l_c1 n 0 R w

def glacierlaw4_few_b8 (l : Option Addr) (l_n : Nat) (l_c : Nat) (R : Value → World → Prop) (w : World) : Prop :=
  glacierlaw4_few_b7 l l_n l_c 0 R w

def glacierlaw4_few_p0 : Point ((Option Addr) × Nat × Nat × Int) := { slots := fun s => [(0, (.slice s.1 s.2.1 s.2.2.1)), (3, (.int .i64 s.2.2.2))], dec := fun r K => mSlice (r 0) fun x x1 x2 => mInt .i64 (r 3) fun x3 => K (x, x1, x2, x3) }
theorem glacierlaw4_few_p0_ok : glacierlaw4_few_p0.ok := by
  intro r K h
  unfold glacierlaw4_few_p0 at h
  obtain ⟨x, x1, x2, e0, h⟩ := mSlice_elim h
  obtain ⟨x3, e1, h⟩ := mInt_elim h
  exact ⟨(x, x1, x2, x3), regsOf_self (L := [(0, (.slice x x1 x2)), (3, (.int .i64 x3))]) (List.forall_mem_cons.2 ⟨e0, List.forall_mem_cons.2 ⟨e1, List.forall_mem_nil _⟩⟩), h⟩
theorem glacierlaw4_few_p0_re (s : (Option Addr) × Nat × Nat × Int) (r : Regs) (K : ((Option Addr) × Nat × Nat × Int) → Prop) (h : K s) : glacierlaw4_few_p0.dec (regsOf (glacierlaw4_few_p0.slots s) r) K := by
  obtain ⟨x4, x5, x6, x7⟩ := s
  exact cast (show K (x4, x5, x6, x7) = glacierlaw4_few_p0.dec (regsOf (glacierlaw4_few_p0.slots (x4, x5, x6, x7)) r) K by kernel_rfl) h

def glacierlaw4_few_p1 : Point ((Option Addr) × Nat × Nat × Int) := { slots := fun s => [(0, (.slice s.1 s.2.1 s.2.2.1)), (3, (.int .i64 s.2.2.2))], dec := fun r K => mSlice (r 0) fun x x1 x2 => mInt .i64 (r 3) fun x3 => K (x, x1, x2, x3) }
theorem glacierlaw4_few_p1_ok : glacierlaw4_few_p1.ok := by
  intro r K h
  unfold glacierlaw4_few_p1 at h
  obtain ⟨x, x1, x2, e0, h⟩ := mSlice_elim h
  obtain ⟨x3, e1, h⟩ := mInt_elim h
  exact ⟨(x, x1, x2, x3), regsOf_self (L := [(0, (.slice x x1 x2)), (3, (.int .i64 x3))]) (List.forall_mem_cons.2 ⟨e0, List.forall_mem_cons.2 ⟨e1, List.forall_mem_nil _⟩⟩), h⟩
theorem glacierlaw4_few_p1_re (s : (Option Addr) × Nat × Nat × Int) (r : Regs) (K : ((Option Addr) × Nat × Nat × Int) → Prop) (h : K s) : glacierlaw4_few_p1.dec (regsOf (glacierlaw4_few_p1.slots s) r) K := by
  obtain ⟨x4, x5, x6, x7⟩ := s
  exact cast (show K (x4, x5, x6, x7) = glacierlaw4_few_p1.dec (regsOf (glacierlaw4_few_p1.slots (x4, x5, x6, x7)) r) K by kernel_rfl) h

def glacierlaw4_few_p2 : Point ((Option Addr) × Nat × Nat × Int × Int) := { slots := fun s => [(0, (.slice s.1 s.2.1 s.2.2.1)), (3, (.int .i64 s.2.2.2.1)), (4, (.int .i64 s.2.2.2.2))], dec := fun r K => mSlice (r 0) fun x x1 x2 => mInt .i64 (r 3) fun x3 => mInt .i64 (r 4) fun x4 => K (x, x1, x2, x3, x4) }
theorem glacierlaw4_few_p2_ok : glacierlaw4_few_p2.ok := by
  intro r K h
  unfold glacierlaw4_few_p2 at h
  obtain ⟨x, x1, x2, e0, h⟩ := mSlice_elim h
  obtain ⟨x3, e1, h⟩ := mInt_elim h
  obtain ⟨x4, e2, h⟩ := mInt_elim h
  exact ⟨(x, x1, x2, x3, x4), regsOf_self (L := [(0, (.slice x x1 x2)), (3, (.int .i64 x3)), (4, (.int .i64 x4))]) (List.forall_mem_cons.2 ⟨e0, List.forall_mem_cons.2 ⟨e1, List.forall_mem_cons.2 ⟨e2, List.forall_mem_nil _⟩⟩⟩), h⟩
theorem glacierlaw4_few_p2_re (s : (Option Addr) × Nat × Nat × Int × Int) (r : Regs) (K : ((Option Addr) × Nat × Nat × Int × Int) → Prop) (h : K s) : glacierlaw4_few_p2.dec (regsOf (glacierlaw4_few_p2.slots s) r) K := by
  obtain ⟨x5, x6, x7, x8, x9⟩ := s
  exact cast (show K (x5, x6, x7, x8, x9) = glacierlaw4_few_p2.dec (regsOf (glacierlaw4_few_p2.slots (x5, x6, x7, x8, x9)) r) K by kernel_rfl) h

def glacierlaw4_few_p3 : Point ((Option Addr) × Nat × Nat × Int × Int) := { slots := fun s => [(0, (.slice s.1 s.2.1 s.2.2.1)), (3, (.int .i64 s.2.2.2.1)), (4, (.int .i64 s.2.2.2.2))], dec := fun r K => mSlice (r 0) fun x x1 x2 => mInt .i64 (r 3) fun x3 => mInt .i64 (r 4) fun x4 => K (x, x1, x2, x3, x4) }
theorem glacierlaw4_few_p3_ok : glacierlaw4_few_p3.ok := by
  intro r K h
  unfold glacierlaw4_few_p3 at h
  obtain ⟨x, x1, x2, e0, h⟩ := mSlice_elim h
  obtain ⟨x3, e1, h⟩ := mInt_elim h
  obtain ⟨x4, e2, h⟩ := mInt_elim h
  exact ⟨(x, x1, x2, x3, x4), regsOf_self (L := [(0, (.slice x x1 x2)), (3, (.int .i64 x3)), (4, (.int .i64 x4))]) (List.forall_mem_cons.2 ⟨e0, List.forall_mem_cons.2 ⟨e1, List.forall_mem_cons.2 ⟨e2, List.forall_mem_nil _⟩⟩⟩), h⟩
theorem glacierlaw4_few_p3_re (s : (Option Addr) × Nat × Nat × Int × Int) (r : Regs) (K : ((Option Addr) × Nat × Nat × Int × Int) → Prop) (h : K s) : glacierlaw4_few_p3.dec (regsOf (glacierlaw4_few_p3.slots s) r) K := by
  obtain ⟨x5, x6, x7, x8, x9⟩ := s
  exact cast (show K (x5, x6, x7, x8, x9) = glacierlaw4_few_p3.dec (regsOf (glacierlaw4_few_p3.slots (x5, x6, x7, x8, x9)) r) K by kernel_rfl) h

def glacierlaw4_few_p4 : Point ((Option Addr) × Nat × Nat × Int × Int) := { slots := fun s => [(0, (.slice s.1 s.2.1 s.2.2.1)), (3, (.int .i64 s.2.2.2.1)), (4, (.int .i64 s.2.2.2.2))], dec := fun r K => mSlice (r 0) fun x x1 x2 => mInt .i64 (r 3) fun x3 => mInt .i64 (r 4) fun x4 => K (x, x1, x2, x3, x4) }
theorem glacierlaw4_few_p4_ok : glacierlaw4_few_p4.ok := by
  intro r K h
  unfold glacierlaw4_few_p4 at h
  obtain ⟨x, x1, x2, e0, h⟩ := mSlice_elim h
  obtain ⟨x3, e1, h⟩ := mInt_elim h
  obtain ⟨x4, e2, h⟩ := mInt_elim h
  exact ⟨(x, x1, x2, x3, x4), regsOf_self (L := [(0, (.slice x x1 x2)), (3, (.int .i64 x3)), (4, (.int .i64 x4))]) (List.forall_mem_cons.2 ⟨e0, List.forall_mem_cons.2 ⟨e1, List.forall_mem_cons.2 ⟨e2, List.forall_mem_nil _⟩⟩⟩), h⟩
theorem glacierlaw4_few_p4_re (s : (Option Addr) × Nat × Nat × Int × Int) (r : Regs) (K : ((Option Addr) × Nat × Nat × Int × Int) → Prop) (h : K s) : glacierlaw4_few_p4.dec (regsOf (glacierlaw4_few_p4.slots s) r) K := by
  obtain ⟨x5, x6, x7, x8, x9⟩ := s
  exact cast (show K (x5, x6, x7, x8, x9) = glacierlaw4_few_p4.dec (regsOf (glacierlaw4_few_p4.slots (x5, x6, x7, x8, x9)) r) K by kernel_rfl) h

def glacierlaw4_few_p5 : Point ((Option Addr) × Nat × Nat × Int × Int × Int) := { slots := fun s => [(0, (.slice s.1 s.2.1 s.2.2.1)), (3, (.int .i64 s.2.2.2.1)), (4, (.int .i64 s.2.2.2.2.1)), (5, (.int .i64 s.2.2.2.2.2))], dec := fun r K => mSlice (r 0) fun x x1 x2 => mInt .i64 (r 3) fun x3 => mInt .i64 (r 4) fun x4 => mInt .i64 (r 5) fun x5 => K (x, x1, x2, x3, x4, x5) }
theorem glacierlaw4_few_p5_ok : glacierlaw4_few_p5.ok := by
  intro r K h
  unfold glacierlaw4_few_p5 at h
  obtain ⟨x, x1, x2, e0, h⟩ := mSlice_elim h
  obtain ⟨x3, e1, h⟩ := mInt_elim h
  obtain ⟨x4, e2, h⟩ := mInt_elim h
  obtain ⟨x5, e3, h⟩ := mInt_elim h
  exact ⟨(x, x1, x2, x3, x4, x5), regsOf_self (L := [(0, (.slice x x1 x2)), (3, (.int .i64 x3)), (4, (.int .i64 x4)), (5, (.int .i64 x5))]) (List.forall_mem_cons.2 ⟨e0, List.forall_mem_cons.2 ⟨e1, List.forall_mem_cons.2 ⟨e2, List.forall_mem_cons.2 ⟨e3, List.forall_mem_nil _⟩⟩⟩⟩), h⟩
theorem glacierlaw4_few_p5_re (s : (Option Addr) × Nat × Nat × Int × Int × Int) (r : Regs) (K : ((Option Addr) × Nat × Nat × Int × Int × Int) → Prop) (h : K s) : glacierlaw4_few_p5.dec (regsOf (glacierlaw4_few_p5.slots s) r) K := by
  obtain ⟨x6, x7, x8, x9, x10, x11⟩ := s
  exact cast (show K (x6, x7, x8, x9, x10, x11) = glacierlaw4_few_p5.dec (regsOf (glacierlaw4_few_p5.slots (x6, x7, x8, x9, x10, x11)) r) K by kernel_rfl) h

set_option maxRecDepth 100000 in
theorem glacierlaw4_few_sound (l : Option Addr) (l_n : Nat) (l_c : Nat) (R : Value → World → Prop) (w : World) (h : glacierlaw4_few_b8 l l_n l_c R w) :
    CallR Tryd.prog fn_glacierlaw4_few #[(.slice l l_n l_c)] w R := by
  refine CallR_intro (args := [(.slice l l_n l_c)]) Tryd.func20 rfl (Nat.le_of_ble_eq_true (by kernel_rfl)) ?_
  refine Wp_glue glacierlaw4_few_p0 (fun s w => glacierlaw4_few_b7 s.1 s.2.1 s.2.2.1 s.2.2.2 R w) [_, _] (Q0 := fun e _ r w => match e with | .normal => glacierlaw4_few_p0.dec r (fun s => glacierlaw4_few_b7 s.1 s.2.1 s.2.2.1 s.2.2.2 R w) | .exit _ => False | .ret => retQ Tryd.prog Tryd.f20.results R .ret [] r w | _ => False) h (by kernel_rfl) (fun s r w h => ?_) glacierlaw4_few_p0_ok (fun _ _ _ h => h) ?_
  · obtain ⟨l1, l_n1, l_c1, n⟩ := s
    have h : glacierlaw4_few_b7 l1 l_n1 l_c1 n R w := h
    refine Wp_seq_via glacierlaw4_few_p1 (fun s w => glacierlaw4_few_b4 s.2.1 s.2.2.2 R w) (fun s r w h => ?_) (fun hN1 => ?_)
    · obtain ⟨l8, l_n8, l_c8, n7⟩ := s
      have h : glacierlaw4_few_b4 l_n8 n7 R w := h
      refine Wp_leaf_end (Q0 := fun e _ r w => match e with | .normal => retQ Tryd.prog Tryd.f20.results R .normal [] r w | .exit _ => False | .ret => retQ Tryd.prog Tryd.f20.results R .ret [] r w | _ => False) h (by kernel_rfl) ?_
      intro e _ r w h
      cases e with
      | normal => exact h
      | exit i => exact h.elim
      | ret => exact h
      | goto i => exact h.elim
      | panic c => exact h.elim
      | outgrown => exact h.elim
    · refine Wp_glue glacierlaw4_few_p2 (fun s w => glacierlaw4_few_b6 s.1 s.2.1 s.2.2.1 s.2.2.2.1 s.2.2.2.2 R w) [_] (Q0 := fun e _ r w => match e with | .normal => glacierlaw4_few_p2.dec r (fun s => glacierlaw4_few_b6 s.1 s.2.1 s.2.2.1 s.2.2.2.1 s.2.2.2.2 R w) | .exit _ => False | .ret => retQ Tryd.prog Tryd.f20.results R .ret [] r w | _ => False) h (by kernel_rfl) (fun s r w h => ?_) glacierlaw4_few_p2_ok (fun _ _ _ h => h) ?_
      · obtain ⟨l2, l_n2, l_c2, n1, i⟩ := s
        have h : glacierlaw4_few_b6 l2 l_n2 l_c2 n1 i R w := h
        refine Wp_block_via glacierlaw4_few_p1 (fun s w => glacierlaw4_few_b4 s.2.1 s.2.2.2 R w) hN1 (fun hX2 => ?_)
        refine Wp_loop (p := glacierlaw4_few_p2) glacierlaw4_few_p2_ok (fun s r w K0 h => ?_) h
        obtain ⟨l3, l_n3, l_c3, n2, i1⟩ := s
        have h : glacierlaw4_few_b5 l3 l_n3 l_c3 n2 i1 K0 R w := h
        have hK3 := fun (s : (Option Addr) × Nat × Nat × Int × Int) (r : Regs) (w : World) (h : K0 s w) => glacierlaw4_few_p2_re s r (fun s => K0 s w) h
        refine Wp_glue glacierlaw4_few_p3 (fun s w => glacierlaw4_few_b3 s.1 s.2.1 s.2.2.1 s.2.2.2.1 s.2.2.2.2 K0 w) [_] (Q0 := fun e _ r w => match e with | .normal => glacierlaw4_few_p3.dec r (fun s => glacierlaw4_few_b3 s.1 s.2.1 s.2.2.1 s.2.2.2.1 s.2.2.2.2 K0 w) | .exit i => exitQ i 0 (glacierlaw4_few_p1.dec r (fun s => glacierlaw4_few_b4 s.2.1 s.2.2.2 R w)) (False) | .ret => retQ Tryd.prog Tryd.f20.results R .ret [] r w | _ => False) h (by kernel_rfl) (fun s r w h => ?_) glacierlaw4_few_p3_ok (fun _ _ _ h => h) ?_
        · obtain ⟨l4, l_n4, l_c4, n3, i2⟩ := s
          have h : glacierlaw4_few_b3 l4 l_n4 l_c4 n3 i2 K0 w := h
          refine Wp_seq_via glacierlaw4_few_p4 (fun s w => glacierlaw4_few_b0 s.1 s.2.1 s.2.2.1 s.2.2.2.1 s.2.2.2.2 K0 w) (fun s r w h => ?_) (fun hN4 => ?_)
          · obtain ⟨l7, l_n7, l_c7, n6, i5⟩ := s
            have h : glacierlaw4_few_b0 l7 l_n7 l_c7 n6 i5 K0 w := h
            refine Wp_leaf_end (Q0 := fun e _ r w => match e with | .normal => glacierlaw4_few_p2.dec r (fun s => K0 s w) | .exit i => exitQ i 0 (glacierlaw4_few_p1.dec r (fun s => glacierlaw4_few_b4 s.2.1 s.2.2.2 R w)) (False) | .ret => retQ Tryd.prog Tryd.f20.results R .ret [] r w | _ => False) h (by kernel_rfl) ?_
            intro e _ r w h
            cases e with
            | normal =>
              obtain ⟨s, hs, h⟩ := glacierlaw4_few_p2_ok _ _ h
              rw [← hs]
              exact hK3 s r w h
            | exit i =>
              rcases exitQ_elim h with ⟨rfl, h⟩ | ⟨_, h⟩
              · obtain ⟨s, hs, h⟩ := glacierlaw4_few_p1_ok _ _ h
                rw [← hs]
                exact hX2 s r w h
              exact h.elim
            | ret => exact h
            | goto i => exact h.elim
            | panic c => exact h.elim
            | outgrown => exact h.elim
          · refine Wp_block_via glacierlaw4_few_p4 (fun s w => glacierlaw4_few_b0 s.1 s.2.1 s.2.2.1 s.2.2.2.1 s.2.2.2.2 K0 w) hN4 (fun hX5 => ?_)
            refine Wp_glue glacierlaw4_few_p5 (fun s w => glacierlaw4_few_b2 s.1 s.2.1 s.2.2.1 s.2.2.2.1 s.2.2.2.2.1 s.2.2.2.2.2 K0 w) [_, _] (Q0 := fun e _ r w => match e with | .normal => glacierlaw4_few_p5.dec r (fun s => glacierlaw4_few_b2 s.1 s.2.1 s.2.2.1 s.2.2.2.1 s.2.2.2.2.1 s.2.2.2.2.2 K0 w) | .exit i => exitQ i 0 (glacierlaw4_few_p1.dec r (fun s => glacierlaw4_few_b4 s.2.1 s.2.2.2 R w)) (exitQ i 1 (glacierlaw4_few_p4.dec r (fun s => glacierlaw4_few_b0 s.1 s.2.1 s.2.2.1 s.2.2.2.1 s.2.2.2.2 K0 w)) (False)) | .ret => retQ Tryd.prog Tryd.f20.results R .ret [] r w | _ => False) h (by kernel_rfl) (fun s r w h => ?_) glacierlaw4_few_p5_ok (fun _ _ _ h => h) ?_
            · obtain ⟨l5, l_n5, l_c5, n4, i3, k⟩ := s
              have h : glacierlaw4_few_b2 l5 l_n5 l_c5 n4 i3 k K0 w := h
              refine Wp_block_via glacierlaw4_few_p4 (fun s w => glacierlaw4_few_b0 s.1 s.2.1 s.2.2.1 s.2.2.2.1 s.2.2.2.2 K0 w) hN4 (fun hX6 => ?_)
              refine Wp_loop (p := glacierlaw4_few_p5) glacierlaw4_few_p5_ok (fun s r w K1 h => ?_) h
              obtain ⟨l6, l_n6, l_c6, n5, i4, k1⟩ := s
              have h : glacierlaw4_few_b1 l6 l_n6 l_c6 n5 i4 k1 K0 K1 w := h
              have hK7 := fun (s : (Option Addr) × Nat × Nat × Int × Int × Int) (r : Regs) (w : World) (h : K1 s w) => glacierlaw4_few_p5_re s r (fun s => K1 s w) h
              refine Wp_leaf_end (Q0 := fun e _ r w => match e with | .normal => glacierlaw4_few_p5.dec r (fun s => K1 s w) | .exit i => exitQ i 0 (glacierlaw4_few_p1.dec r (fun s => glacierlaw4_few_b4 s.2.1 s.2.2.2 R w)) (exitQ i 1 (glacierlaw4_few_p4.dec r (fun s => glacierlaw4_few_b0 s.1 s.2.1 s.2.2.1 s.2.2.2.1 s.2.2.2.2 K0 w)) (exitQ i 2 (glacierlaw4_few_p4.dec r (fun s => glacierlaw4_few_b0 s.1 s.2.1 s.2.2.1 s.2.2.2.1 s.2.2.2.2 K0 w)) (False))) | .ret => retQ Tryd.prog Tryd.f20.results R .ret [] r w | _ => False) h (by kernel_rfl) ?_
              intro e _ r w h
              cases e with
              | normal =>
                obtain ⟨s, hs, h⟩ := glacierlaw4_few_p5_ok _ _ h
                rw [← hs]
                exact hK7 s r w h
              | exit i =>
                rcases exitQ_elim h with ⟨rfl, h⟩ | ⟨_, h⟩
                · obtain ⟨s, hs, h⟩ := glacierlaw4_few_p1_ok _ _ h
                  rw [← hs]
                  exact (fun s r w h => blockQ_other (id := 2) (j := 0) (by decide) ((fun s r w h => blockQ_other (id := 1) (j := 0) (by decide) (hX2 s r w h)) s r w h)) s r w h
                rcases exitQ_elim h with ⟨rfl, h⟩ | ⟨_, h⟩
                · obtain ⟨s, hs, h⟩ := glacierlaw4_few_p4_ok _ _ h
                  rw [← hs]
                  exact (fun s r w h => blockQ_other (id := 2) (j := 1) (by decide) (hX5 s r w h)) s r w h
                rcases exitQ_elim h with ⟨rfl, h⟩ | ⟨_, h⟩
                · obtain ⟨s, hs, h⟩ := glacierlaw4_few_p4_ok _ _ h
                  rw [← hs]
                  exact hX6 s r w h
                exact h.elim
              | ret => exact h
              | goto i => exact h.elim
              | panic c => exact h.elim
              | outgrown => exact h.elim
            · intro e _ r w hne h
              cases e with
              | normal => exact absurd rfl hne
              | exit i =>
                rcases exitQ_elim h with ⟨rfl, h⟩ | ⟨_, h⟩
                · obtain ⟨s, hs, h⟩ := glacierlaw4_few_p1_ok _ _ h
                  rw [← hs]
                  exact (fun s r w h => blockQ_other (id := 1) (j := 0) (by decide) (hX2 s r w h)) s r w h
                rcases exitQ_elim h with ⟨rfl, h⟩ | ⟨_, h⟩
                · obtain ⟨s, hs, h⟩ := glacierlaw4_few_p4_ok _ _ h
                  rw [← hs]
                  exact hX5 s r w h
                exact h.elim
              | ret => exact h
              | goto i => exact h.elim
              | panic c => exact h.elim
              | outgrown => exact h.elim
        · intro e _ r w hne h
          cases e with
          | normal => exact absurd rfl hne
          | exit i =>
            rcases exitQ_elim h with ⟨rfl, h⟩ | ⟨_, h⟩
            · obtain ⟨s, hs, h⟩ := glacierlaw4_few_p1_ok _ _ h
              rw [← hs]
              exact hX2 s r w h
            exact h.elim
          | ret => exact h
          | goto i => exact h.elim
          | panic c => exact h.elim
          | outgrown => exact h.elim
      · intro e _ r w hne h
        cases e with
        | normal => exact absurd rfl hne
        | exit i => exact h.elim
        | ret => exact h
        | goto i => exact h.elim
        | panic c => exact h.elim
        | outgrown => exact h.elim
  · intro e _ r w hne h
    cases e with
    | normal => exact absurd rfl hne
    | exit i => exact h.elim
    | ret => exact h
    | goto i => exact h.elim
    | panic c => exact h.elim
    | outgrown => exact h.elim

/- glacier/glacierlaw4.known -/
def glacierlaw4_known_b0 (R : Value → World → Prop) (w : World) : Prop :=
  CallR Tryd.prog fn_disk_New #[(.int .i64 1000)] w fun res w_ =>
  mTup res fun l =>
  mCons l fun v l1 =>
  mPtr v fun v1 =>
  mCons l1 fun v2 l2 =>
  mInt .i64 v2 fun v3 =>
  mNil l2 (
  Br (v3 != 0) (
  R (.bool false) w_) (
  Br (Option.isNone v1) (
  R (.bool false) w_) (
  CallR Tryd.prog fn_wal_Open #[(.pointer v1), (.string (ByteArray.mk #[108, 111, 103])), (.int .i64 0)] w_ fun res1 w_1 =>
  mTup res1 fun l3 =>
  mCons l3 fun v4 l4 =>
  mPtr v4 fun v5 =>
  mCons l4 fun v6 l5 =>
  mSlice v6 fun _ v_n _ =>
  mCons l5 fun v8 l6 =>
  mInt .i64 v8 fun v9 =>
  mNil l6 (
  Br (v9 != 0) (
  R (.bool false) w_1) (
  Br (Option.isNone v5) (
  R (.bool false) w_1) (
  Br ((v_n : Int) != 0) (
  R (.bool false) w_1) (
  AL w_1 (.cells #[(.int .u8 97)] 5) fun b w_2 =>
  rRun Tryd.prog (convert 41 41 (.slice (some b) 1 1)) w_2 fun sr w_3 =>
  mSlice sr fun v10 v_n1 v_c1 =>
  AL w_3 (.cells #[(.slice v10 v_n1 v_c1)] 41) fun b1 w_4 =>
  CallR Tryd.prog fn_wal_Log_Append #[(.pointer v5), (.slice (some b1) 1 1)] w_4 fun res2 w_5 =>
  mInt .i64 res2 fun v11 =>
  CallR Tryd.prog fn_wal_Log_Sync #[(.pointer v5)] w_5 fun res3 w_6 =>
  mInt .i64 res3 fun v12 =>
  AL w_6 (.cells #[(.int .u8 98)] 5) fun b2 w_7 =>
  rRun Tryd.prog (convert 41 41 (.slice (some b2) 1 1)) w_7 fun sr1 w_8 =>
  mSlice sr1 fun v13 v_n2 v_c2 =>
  AL w_8 (.cells #[(.slice v13 v_n2 v_c2)] 41) fun b3 w_9 =>
  CallR Tryd.prog fn_wal_Log_Append #[(.pointer v5), (.slice (some b3) 1 1)] w_9 fun res4 w_10 =>
  mInt .i64 res4 fun v14 =>
  AL w_10 (.cells #[(.int .i64 3)] 3) fun b4 w_11 =>
  CallR Tryd.prog fn_disk_Disk_Crash #[(.pointer v1), (.slice (some b4) 1 1)] w_11 fun res5 w_12 =>
  mTup res5 fun l7 =>
  mNil l7 (
  CallR Tryd.prog fn_wal_Open #[(.pointer v1), (.string (ByteArray.mk #[108, 111, 103])), (.int .i64 0)] w_12 fun res6 w_13 =>
  mTup res6 fun l8 =>
  mCons l8 fun v15 l9 =>
  mPtr v15 fun _ =>
  mCons l9 fun v17 l10 =>
  mSlice v17 fun v18 v_n3 _ =>
  mCons l10 fun v19 l11 =>
  mInt .i64 v19 fun v20 =>
  mNil l11 (
  Br ((IntKind.wrap .i64 ((IntKind.wrap .i64 ((IntKind.wrap .i64 (v11 + v12)) + v14)) + v20)) == 0) (
  Br ((v_n3 : Int) == 1) (
  IX v18 v_n3 0 1 fun a =>
  LDSl w_13 a fun v21 v_n4 v_c4 =>
  rRun Tryd.prog (convert 41 9 (.slice v21 v_n4 v_c4)) w_13 fun sr2 w_14 =>
  mStr sr2 fun v22 =>
  Br (ByteArray.toList v22 == ByteArray.toList (ByteArray.mk #[97])) (
  CallR Tryd.prog fn_wal_Segment #[(.string (ByteArray.mk #[108, 111, 103])), (.int .i64 7)] w_14 fun res7 w_15 =>
  mStr res7 fun v23 =>
  R (.bool (ByteArray.toList v23 == ByteArray.toList (ByteArray.mk #[108, 111, 103, 45, 48, 48, 48, 48, 48, 55]))) w_15) (
  R (.bool false) w_14)) (
  R (.bool false) w_13)) (
  R (.bool false) w_13))))))))))

set_option maxRecDepth 100000 in
theorem glacierlaw4_known_sound (R : Value → World → Prop) (w : World) (h : glacierlaw4_known_b0 R w) :
    CallR Tryd.prog fn_glacierlaw4_known #[] w R := by
  refine CallR_intro (args := []) Tryd.func12 rfl (Nat.le_of_ble_eq_true (by kernel_rfl)) ?_
  refine Wp_leaf_end (Q0 := fun e _ r w => match e with | .normal => retQ Tryd.prog Tryd.f12.results R .normal [] r w | .exit _ => False | .ret => retQ Tryd.prog Tryd.f12.results R .ret [] r w | _ => False) h (by kernel_rfl) ?_
  intro e _ r w h
  cases e with
  | normal => exact h
  | exit i => exact h.elim
  | ret => exact h
  | goto i => exact h.elim
  | panic c => exact h.elim
  | outgrown => exact h.elim

/- glacier/glacierlaw4.WalTorn -/
def glacierlaw4_WalTorn_b0 (l22 : Option Addr) (l_n8 : Nat) (l_c8 : Nat) (more8 : Option Addr) (more_n8 : Nat) (more_c8 : Nat) (d7 : Option Addr) (n2 : Int) (R : Value → World → Prop) (w : World) : Prop :=
  CallR Tryd.prog fn_wal_Open #[(.pointer d7), (.string (ByteArray.mk #[119])), (.int .i64 5)] w fun res9 w_13 =>
  mTup res9 fun l23 =>
  mCons l23 fun v28 l24 =>
  mPtr v28 fun v29 =>
  mCons l24 fun v30 l25 =>
  mSlice v30 fun v31 v_n8 v_c8 =>
  mCons l25 fun v32 l26 =>
  mInt .i64 v32 fun v33 =>
  mNil l26 (
  Br (v33 != 0) (
  R (.bool false) w_13) (
  Br (Option.isNone v29) (
  R (.bool false) w_13) (
  rRun Tryd.prog (Instr.sliceAt 40 (.slice l22 l_n8 l_c8) none (some (.int .i64 n2)) none) w_13 fun sr1 w_14 =>
  mSlice sr1 fun v34 v_n9 v_c9 =>
  CallR Tryd.prog fn_glacierlaw4_same #[(.slice v31 v_n8 v_c8), (.slice v34 v_n9 v_c9)] w_14 fun res10 w_15 =>
  mBool res10 fun v35 =>
  Br (!v35) (
  R (.bool false) w_15) (
  AL w_15 (.cells #[(.slice more8 more_n8 more_c8)] 41) fun b3 w_16 =>
  CallR Tryd.prog fn_wal_Log_Append #[(.pointer v29), (.slice (some b3) 1 1)] w_16 fun res11 w_17 =>
  mInt .i64 res11 fun v36 =>
  Br (v36 != 0) (
  R (.bool false) w_17) (
  CallR Tryd.prog fn_wal_Open #[(.pointer d7), (.string (ByteArray.mk #[119])), (.int .i64 5)] w_17 fun res12 w_18 =>
  mTup res12 fun l27 =>
  mCons l27 fun v37 l28 =>
  mPtr v37 fun _ =>
  mCons l28 fun v39 l29 =>
  mSlice v39 fun v40 v_n10 v_c10 =>
  mCons l29 fun v41 l30 =>
  mInt .i64 v41 fun v42 =>
  mNil l30 (
  LetW (World.drew w_18) fun w_19 =>
  Br (v42 == 0) (
  (w_19 = w_19 ∧ 
  Br ((v_n10 : Int) == (IntKind.wrap .i64 (n2 + 1))) (
  rRun Tryd.prog (Instr.sliceAt 40 (.slice v40 v_n10 v_c10) none (some (.int .i64 n2)) none) w_19 fun sr2 w_20 =>
  mSlice sr2 fun v43 v_n11 v_c11 =>
  (w_20 = w_19 ∧ 
  rRun Tryd.prog (Instr.sliceAt 40 (.slice l22 l_n8 l_c8) none (some (.int .i64 n2)) none) w_19 fun sr3 w_21 =>
  mSlice sr3 fun v44 v_n12 v_c12 =>
  (w_21 = w_19 ∧ 
  CallR Tryd.prog fn_glacierlaw4_same #[(.slice v43 v_n11 v_c11), (.slice v44 v_n12 v_c12)] w_19 fun res13 w_22 =>
  mBool res13 fun v45 =>
  Br v45 (
  IX v40 v_n10 n2 1 fun a5 =>
  LDSl w_22 a5 fun v46 v_n13 v_c13 =>
  rRun Tryd.prog (convert 41 9 (.slice v46 v_n13 v_c13)) w_22 fun sr4 w_23 =>
  mStr sr4 fun v47 =>
  (w_23 = w_22 ∧ 
  rRun Tryd.prog (convert 41 9 (.slice more8 more_n8 more_c8)) w_22 fun sr5 w_24 =>
  mStr sr5 fun v48 =>
  (w_24 = w_22 ∧ 
  R (.bool (ByteArray.toList v47 == ByteArray.toList v48)) w_22))) (
  R (.bool false) w_22)))) (
  R (.bool false) w_19))) (
  R (.bool false) w_19)))))))

def glacierlaw4_WalTorn_b1 (l21 : Option Addr) (l_n7 : Nat) (l_c7 : Nat) (cut7 : Int) (more7 : Option Addr) (more_n7 : Nat) (more_c7 : Nat) (d6 : Option Addr) (ends6 : Option Addr) (ends_n6 : Nat) (ends_c6 : Nat) (n1 : Int) (K0 : ((Option Addr) × Nat × Nat × Int × (Option Addr) × Nat × Nat × (Option Addr) × (Option Addr) × Nat × Nat × Int) → World → Prop) (R : Value → World → Prop) (w : World) : Prop :=
  Br (decide (n1 < (ends_n6 : Int))) (
  IX ends6 ends_n6 n1 1 fun a4 =>
  LDI .i64 w a4 fun v27 =>
  Br (decide (v27 ≤ cut7)) (
  K0 (l21, l_n7, l_c7, cut7, more7, more_n7, more_c7, d6, ends6, ends_n6, ends_c6, IntKind.wrap .i64 (n1 + 1)) w) (
  glacierlaw4_WalTorn_b0 l21 l_n7 l_c7 more7 more_n7 more_c7 d6 n1 R w)) (
  glacierlaw4_WalTorn_b0 l21 l_n7 l_c7 more7 more_n7 more_c7 d6 n1 R w)

def glacierlaw4_WalTorn_b2 (l20 : Option Addr) (l_n6 : Nat) (l_c6 : Nat) (cut6 : Int) (more6 : Option Addr) (more_n6 : Nat) (more_c6 : Nat) (d5 : Option Addr) (ends5 : Option Addr) (ends_n5 : Nat) (ends_c5 : Nat) (n : Int) (R : Value → World → Prop) (w : World) : Prop :=
  LoopS (σ := (Option Addr) × Nat × Nat × Int × (Option Addr) × Nat × Nat × (Option Addr) × (Option Addr) × Nat × Nat × Int) (fun s w K0 =>
  glacierlaw4_WalTorn_b1 s.1 s.2.1 s.2.2.1 s.2.2.2.1 s.2.2.2.2.1 s.2.2.2.2.2.1 s.2.2.2.2.2.2.1 s.2.2.2.2.2.2.2.1 s.2.2.2.2.2.2.2.2.1 s.2.2.2.2.2.2.2.2.2.1 s.2.2.2.2.2.2.2.2.2.2.1 s.2.2.2.2.2.2.2.2.2.2.2 K0 R w) (l20, l_n6, l_c6, cut6, more6, more_n6, more_c6, d5, ends5, ends_n5, ends_c5, n) w

def glacierlaw4_WalTorn_b3 (l18 : Option Addr) (l_n5 : Nat) (l_c5 : Nat) (cut5 : Int) (more5 : Option Addr) (more_n5 : Nat) (more_c5 : Nat) (d4 : Option Addr) (ends4 : Option Addr) (ends_n4 : Nat) (ends_c4 : Nat) (R : Value → World → Prop) (w : World) : Prop :=
  AL w (.cells #[(.int .i64 cut5)] 3) fun b2 w_11 =>
  CallR Tryd.prog fn_disk_Disk_Crash #[(.pointer d4), (.slice (some b2) 1 1)] w_11 fun res8 w_12 =>
  mTup res8 fun l19 =>
  mNil l19 (
  glacierlaw4_WalTorn_b2 l18 l_n5 l_c5 cut5 more5 more_n5 more_c5 d4 ends4 ends_n4 ends_c4 0 R w_12)

def glacierlaw4_WalTorn_b4 (l14 : Option Addr) (l_n4 : Nat) (l_c4 : Nat) (cut4 : Int) (more4 : Option Addr) (more_n4 : Nat) (more_c4 : Nat) (d3 : Option Addr) (ends3 : Option Addr) (ends_n3 : Nat) (ends_c3 : Nat) (R : Value → World → Prop) (w : World) : Prop :=
  CallR Tryd.prog fn_wal_Segment #[(.string (ByteArray.mk #[119])), (.int .i64 5)] w fun res6 w_9 =>
  mStr res6 fun v22 =>
  CallR Tryd.prog fn_disk_Disk_Read #[(.pointer d3), (.string v22)] w_9 fun res7 w_10 =>
  mTup res7 fun l15 =>
  mCons l15 fun v23 l16 =>
  mSlice v23 fun _ v_n7 _ =>
  mCons l16 fun v25 l17 =>
  mInt .i64 v25 fun _ =>
  mNil l17 (
  Req ((IntKind.wrap .i64 ((v_n7 : Int) + 1)) ≠ 0) (
  Br (decide ((Int.tmod cut4 (IntKind.wrap .i64 ((v_n7 : Int) + 1))) < 0)) (
  glacierlaw4_WalTorn_b3 l14 l_n4 l_c4 (IntKind.wrap .i64 (0 - (Int.tmod cut4 (IntKind.wrap .i64 ((v_n7 : Int) + 1))))) more4 more_n4 more_c4 d3 ends3 ends_n3 ends_c3 R w_10) (
  glacierlaw4_WalTorn_b3 l14 l_n4 l_c4 (Int.tmod cut4 (IntKind.wrap .i64 ((v_n7 : Int) + 1))) more4 more_n4 more_c4 d3 ends3 ends_n3 ends_c3 R w_10)))

def glacierlaw4_WalTorn_b5 (l10 : Option Addr) (l_n3 : Nat) (l_c3 : Nat) (cut3 : Int) (more3 : Option Addr) (more_n3 : Nat) (more_c3 : Nat) (d2 : Option Addr) (g2 : Option Addr) (ends2 : Option Addr) (ends_n2 : Nat) (ends_c2 : Nat) (i1 : Int) (K0 : ((Option Addr) × Nat × Nat × Int × (Option Addr) × Nat × Nat × (Option Addr) × (Option Addr) × (Option Addr) × Nat × Nat × Int) → World → Prop) (R : Value → World → Prop) (w : World) : Prop :=
  Br (decide (i1 < (l_n3 : Int))) (
  IX l10 l_n3 i1 1 fun a =>
  LDSl w a fun _ v_n1 _ =>
  Br (decide ((v_n1 : Int) > 1000)) (
  IX l10 l_n3 i1 1 fun a1 =>
  LDSl w a1 fun _ v_n2 _ =>
  R (.bool (decide ((v_n2 : Int) > 1000))) w) (
  IX l10 l_n3 i1 1 fun a2 =>
  LDSl w a2 fun v13 v_n3 v_c3 =>
  AL w (.cells #[(.slice v13 v_n3 v_c3)] 41) fun b w_3 =>
  CallR Tryd.prog fn_wal_Log_Append #[(.pointer g2), (.slice (some b) 1 1)] w_3 fun res3 w_4 =>
  mInt .i64 res3 fun v14 =>
  Br (v14 != 0) (
  IX l10 l_n3 i1 1 fun a3 =>
  LDSl w_4 a3 fun _ v_n4 _ =>
  R (.bool (decide ((v_n4 : Int) > 1000))) w_4) (
  CallR Tryd.prog fn_wal_Segment #[(.string (ByteArray.mk #[119])), (.int .i64 5)] w_4 fun res4 w_5 =>
  mStr res4 fun v16 =>
  CallR Tryd.prog fn_disk_Disk_Read #[(.pointer d2), (.string v16)] w_5 fun res5 w_6 =>
  mTup res5 fun l11 =>
  mCons l11 fun v17 l12 =>
  mSlice v17 fun _ v_n5 _ =>
  mCons l12 fun v19 l13 =>
  mInt .i64 v19 fun _ =>
  mNil l13 (
  AL w_6 (.cells #[(.int .i64 (v_n5 : Int))] 3) fun b1 w_7 =>
  rRun Tryd.prog (Builtin.append_ #[29, 29] 29 #[(.slice ends2 ends_n2 ends_c2), (.slice (some b1) 1 1)]) w_7 fun sr w_8 =>
  mSlice sr fun v21 v_n6 v_c6 =>
  K0 (l10, l_n3, l_c3, cut3, more3, more_n3, more_c3, d2, g2, v21, v_n6, v_c6, IntKind.wrap .i64 (i1 + 1)) w_8)))) (
  glacierlaw4_WalTorn_b4 l10 l_n3 l_c3 cut3 more3 more_n3 more_c3 d2 ends2 ends_n2 ends_c2 R w)

def glacierlaw4_WalTorn_b6 (l9 : Option Addr) (l_n2 : Nat) (l_c2 : Nat) (cut2 : Int) (more2 : Option Addr) (more_n2 : Nat) (more_c2 : Nat) (d1 : Option Addr) (g1 : Option Addr) (ends1 : Option Addr) (ends_n1 : Nat) (ends_c1 : Nat) (i : Int) (R : Value → World → Prop) (w : World) : Prop :=
  LoopS (σ := (Option Addr) × Nat × Nat × Int × (Option Addr) × Nat × Nat × (Option Addr) × (Option Addr) × (Option Addr) × Nat × Nat × Int) (fun s w K0 =>
  glacierlaw4_WalTorn_b5 s.1 s.2.1 s.2.2.1 s.2.2.2.1 s.2.2.2.2.1 s.2.2.2.2.2.1 s.2.2.2.2.2.2.1 s.2.2.2.2.2.2.2.1 s.2.2.2.2.2.2.2.2.1 s.2.2.2.2.2.2.2.2.2.1 s.2.2.2.2.2.2.2.2.2.2.1 s.2.2.2.2.2.2.2.2.2.2.2.1 s.2.2.2.2.2.2.2.2.2.2.2.2 K0 R w) (l9, l_n2, l_c2, cut2, more2, more_n2, more_c2, d1, g1, ends1, ends_n1, ends_c1, i) w

def glacierlaw4_WalTorn_b7 (l8 : Option Addr) (l_n1 : Nat) (l_c1 : Nat) (cut1 : Int) (more1 : Option Addr) (more_n1 : Nat) (more_c1 : Nat) (d : Option Addr) (g : Option Addr) (ends : Option Addr) (ends_n : Nat) (ends_c : Nat) (R : Value → World → Prop) (w : World) : Prop :=
  glacierlaw4_WalTorn_b6 l8 l_n1 l_c1 cut1 more1 more_n1 more_c1 d g ends ends_n ends_c 0 R w

def glacierlaw4_WalTorn_b8 (l : Option Addr) (l_n : Nat) (l_c : Nat) (cut : Int) (more : Option Addr) (more_n : Nat) (more_c : Nat) (R : Value → World → Prop) (w : World) : Prop :=
  CallR Tryd.prog fn_glacierlaw4_known #[] w fun res w_ =>
  mBool res fun v =>
  Br (!v) (
  R (.bool false) w_) (
  Br (decide ((l_n : Int) > 60)) (
  R (.bool true) w_) (
  Br (decide ((more_n : Int) > 1000)) (
  R (.bool true) w_) (
  CallR Tryd.prog fn_disk_New #[(.int .i64 16777216)] w_ fun res1 w_1 =>
  mTup res1 fun l1 =>
  mCons l1 fun v1 l2 =>
  mPtr v1 fun v2 =>
  mCons l2 fun v3 l3 =>
  mInt .i64 v3 fun v4 =>
  mNil l3 (
  Br (v4 != 0) (
  R (.bool false) w_1) (
  Br (Option.isNone v2) (
  R (.bool false) w_1) (
  CallR Tryd.prog fn_wal_Open #[(.pointer v2), (.string (ByteArray.mk #[119])), (.int .i64 5)] w_1 fun res2 w_2 =>
  mTup res2 fun l4 =>
  mCons l4 fun v5 l5 =>
  mPtr v5 fun v6 =>
  mCons l5 fun v7 l6 =>
  mSlice v7 fun _ _ _ =>
  mCons l6 fun v9 l7 =>
  mInt .i64 v9 fun v10 =>
  mNil l7 (
  Br (v10 != 0) (
  R (.bool false) w_2) (
  Br (Option.isNone v6) (
  R (.bool false) w_2) (
  glacierlaw4_WalTorn_b7 l l_n l_c cut more more_n more_c v2 v6 none 0 0 R w_2)))))))))

def glacierlaw4_WalTorn_p0 : Point ((Option Addr) × Nat × Nat × Int × (Option Addr) × Nat × Nat × (Option Addr) × (Option Addr) × (Option Addr) × Nat × Nat) := { slots := fun s => [(0, (.slice s.1 s.2.1 s.2.2.1)), (1, (.int .i64 s.2.2.2.1)), (2, (.slice s.2.2.2.2.1 s.2.2.2.2.2.1 s.2.2.2.2.2.2.1)), (7, (.pointer s.2.2.2.2.2.2.2.1)), (9, (.pointer s.2.2.2.2.2.2.2.2.1)), (12, (.slice s.2.2.2.2.2.2.2.2.2.1 s.2.2.2.2.2.2.2.2.2.2.1 s.2.2.2.2.2.2.2.2.2.2.2))], dec := fun r K => mSlice (r 0) fun x x1 x2 => mInt .i64 (r 1) fun x3 => mSlice (r 2) fun x4 x5 x6 => mPtr (r 7) fun x7 => mPtr (r 9) fun x8 => mSlice (r 12) fun x9 x10 x11 => K (x, x1, x2, x3, x4, x5, x6, x7, x8, x9, x10, x11) }
theorem glacierlaw4_WalTorn_p0_ok : glacierlaw4_WalTorn_p0.ok := by
  intro r K h
  unfold glacierlaw4_WalTorn_p0 at h
  obtain ⟨x, x1, x2, e0, h⟩ := mSlice_elim h
  obtain ⟨x3, e1, h⟩ := mInt_elim h
  obtain ⟨x4, x5, x6, e2, h⟩ := mSlice_elim h
  obtain ⟨x7, e3, h⟩ := mPtr_elim h
  obtain ⟨x8, e4, h⟩ := mPtr_elim h
  obtain ⟨x9, x10, x11, e5, h⟩ := mSlice_elim h
  exact ⟨(x, x1, x2, x3, x4, x5, x6, x7, x8, x9, x10, x11), regsOf_self (L := [(0, (.slice x x1 x2)), (1, (.int .i64 x3)), (2, (.slice x4 x5 x6)), (7, (.pointer x7)), (9, (.pointer x8)), (12, (.slice x9 x10 x11))]) (List.forall_mem_cons.2 ⟨e0, List.forall_mem_cons.2 ⟨e1, List.forall_mem_cons.2 ⟨e2, List.forall_mem_cons.2 ⟨e3, List.forall_mem_cons.2 ⟨e4, List.forall_mem_cons.2 ⟨e5, List.forall_mem_nil _⟩⟩⟩⟩⟩⟩), h⟩
theorem glacierlaw4_WalTorn_p0_re (s : (Option Addr) × Nat × Nat × Int × (Option Addr) × Nat × Nat × (Option Addr) × (Option Addr) × (Option Addr) × Nat × Nat) (r : Regs) (K : ((Option Addr) × Nat × Nat × Int × (Option Addr) × Nat × Nat × (Option Addr) × (Option Addr) × (Option Addr) × Nat × Nat) → Prop) (h : K s) : glacierlaw4_WalTorn_p0.dec (regsOf (glacierlaw4_WalTorn_p0.slots s) r) K := by
  obtain ⟨x12, x13, x14, x15, x16, x17, x18, x19, x20, x21, x22, x23⟩ := s
  exact cast (show K (x12, x13, x14, x15, x16, x17, x18, x19, x20, x21, x22, x23) = glacierlaw4_WalTorn_p0.dec (regsOf (glacierlaw4_WalTorn_p0.slots (x12, x13, x14, x15, x16, x17, x18, x19, x20, x21, x22, x23)) r) K by kernel_rfl) h

def glacierlaw4_WalTorn_p1 : Point ((Option Addr) × Nat × Nat × Int × (Option Addr) × Nat × Nat × (Option Addr) × (Option Addr) × Nat × Nat) := { slots := fun s => [(0, (.slice s.1 s.2.1 s.2.2.1)), (1, (.int .i64 s.2.2.2.1)), (2, (.slice s.2.2.2.2.1 s.2.2.2.2.2.1 s.2.2.2.2.2.2.1)), (7, (.pointer s.2.2.2.2.2.2.2.1)), (12, (.slice s.2.2.2.2.2.2.2.2.1 s.2.2.2.2.2.2.2.2.2.1 s.2.2.2.2.2.2.2.2.2.2))], dec := fun r K => mSlice (r 0) fun x x1 x2 => mInt .i64 (r 1) fun x3 => mSlice (r 2) fun x4 x5 x6 => mPtr (r 7) fun x7 => mSlice (r 12) fun x8 x9 x10 => K (x, x1, x2, x3, x4, x5, x6, x7, x8, x9, x10) }
theorem glacierlaw4_WalTorn_p1_ok : glacierlaw4_WalTorn_p1.ok := by
  intro r K h
  unfold glacierlaw4_WalTorn_p1 at h
  obtain ⟨x, x1, x2, e0, h⟩ := mSlice_elim h
  obtain ⟨x3, e1, h⟩ := mInt_elim h
  obtain ⟨x4, x5, x6, e2, h⟩ := mSlice_elim h
  obtain ⟨x7, e3, h⟩ := mPtr_elim h
  obtain ⟨x8, x9, x10, e4, h⟩ := mSlice_elim h
  exact ⟨(x, x1, x2, x3, x4, x5, x6, x7, x8, x9, x10), regsOf_self (L := [(0, (.slice x x1 x2)), (1, (.int .i64 x3)), (2, (.slice x4 x5 x6)), (7, (.pointer x7)), (12, (.slice x8 x9 x10))]) (List.forall_mem_cons.2 ⟨e0, List.forall_mem_cons.2 ⟨e1, List.forall_mem_cons.2 ⟨e2, List.forall_mem_cons.2 ⟨e3, List.forall_mem_cons.2 ⟨e4, List.forall_mem_nil _⟩⟩⟩⟩⟩), h⟩
theorem glacierlaw4_WalTorn_p1_re (s : (Option Addr) × Nat × Nat × Int × (Option Addr) × Nat × Nat × (Option Addr) × (Option Addr) × Nat × Nat) (r : Regs) (K : ((Option Addr) × Nat × Nat × Int × (Option Addr) × Nat × Nat × (Option Addr) × (Option Addr) × Nat × Nat) → Prop) (h : K s) : glacierlaw4_WalTorn_p1.dec (regsOf (glacierlaw4_WalTorn_p1.slots s) r) K := by
  obtain ⟨x11, x12, x13, x14, x15, x16, x17, x18, x19, x20, x21⟩ := s
  exact cast (show K (x11, x12, x13, x14, x15, x16, x17, x18, x19, x20, x21) = glacierlaw4_WalTorn_p1.dec (regsOf (glacierlaw4_WalTorn_p1.slots (x11, x12, x13, x14, x15, x16, x17, x18, x19, x20, x21)) r) K by kernel_rfl) h

def glacierlaw4_WalTorn_p2 : Point ((Option Addr) × Nat × Nat × Int × (Option Addr) × Nat × Nat × (Option Addr) × (Option Addr) × Nat × Nat) := { slots := fun s => [(0, (.slice s.1 s.2.1 s.2.2.1)), (1, (.int .i64 s.2.2.2.1)), (2, (.slice s.2.2.2.2.1 s.2.2.2.2.2.1 s.2.2.2.2.2.2.1)), (7, (.pointer s.2.2.2.2.2.2.2.1)), (12, (.slice s.2.2.2.2.2.2.2.2.1 s.2.2.2.2.2.2.2.2.2.1 s.2.2.2.2.2.2.2.2.2.2))], dec := fun r K => mSlice (r 0) fun x x1 x2 => mInt .i64 (r 1) fun x3 => mSlice (r 2) fun x4 x5 x6 => mPtr (r 7) fun x7 => mSlice (r 12) fun x8 x9 x10 => K (x, x1, x2, x3, x4, x5, x6, x7, x8, x9, x10) }
theorem glacierlaw4_WalTorn_p2_ok : glacierlaw4_WalTorn_p2.ok := by
  intro r K h
  unfold glacierlaw4_WalTorn_p2 at h
  obtain ⟨x, x1, x2, e0, h⟩ := mSlice_elim h
  obtain ⟨x3, e1, h⟩ := mInt_elim h
  obtain ⟨x4, x5, x6, e2, h⟩ := mSlice_elim h
  obtain ⟨x7, e3, h⟩ := mPtr_elim h
  obtain ⟨x8, x9, x10, e4, h⟩ := mSlice_elim h
  exact ⟨(x, x1, x2, x3, x4, x5, x6, x7, x8, x9, x10), regsOf_self (L := [(0, (.slice x x1 x2)), (1, (.int .i64 x3)), (2, (.slice x4 x5 x6)), (7, (.pointer x7)), (12, (.slice x8 x9 x10))]) (List.forall_mem_cons.2 ⟨e0, List.forall_mem_cons.2 ⟨e1, List.forall_mem_cons.2 ⟨e2, List.forall_mem_cons.2 ⟨e3, List.forall_mem_cons.2 ⟨e4, List.forall_mem_nil _⟩⟩⟩⟩⟩), h⟩
theorem glacierlaw4_WalTorn_p2_re (s : (Option Addr) × Nat × Nat × Int × (Option Addr) × Nat × Nat × (Option Addr) × (Option Addr) × Nat × Nat) (r : Regs) (K : ((Option Addr) × Nat × Nat × Int × (Option Addr) × Nat × Nat × (Option Addr) × (Option Addr) × Nat × Nat) → Prop) (h : K s) : glacierlaw4_WalTorn_p2.dec (regsOf (glacierlaw4_WalTorn_p2.slots s) r) K := by
  obtain ⟨x11, x12, x13, x14, x15, x16, x17, x18, x19, x20, x21⟩ := s
  exact cast (show K (x11, x12, x13, x14, x15, x16, x17, x18, x19, x20, x21) = glacierlaw4_WalTorn_p2.dec (regsOf (glacierlaw4_WalTorn_p2.slots (x11, x12, x13, x14, x15, x16, x17, x18, x19, x20, x21)) r) K by kernel_rfl) h

def glacierlaw4_WalTorn_p3 : Point ((Option Addr) × Nat × Nat × Int × (Option Addr) × Nat × Nat × (Option Addr) × (Option Addr) × Nat × Nat × Int) := { slots := fun s => [(0, (.slice s.1 s.2.1 s.2.2.1)), (1, (.int .i64 s.2.2.2.1)), (2, (.slice s.2.2.2.2.1 s.2.2.2.2.2.1 s.2.2.2.2.2.2.1)), (7, (.pointer s.2.2.2.2.2.2.2.1)), (12, (.slice s.2.2.2.2.2.2.2.2.1 s.2.2.2.2.2.2.2.2.2.1 s.2.2.2.2.2.2.2.2.2.2.1)), (18, (.int .i64 s.2.2.2.2.2.2.2.2.2.2.2))], dec := fun r K => mSlice (r 0) fun x x1 x2 => mInt .i64 (r 1) fun x3 => mSlice (r 2) fun x4 x5 x6 => mPtr (r 7) fun x7 => mSlice (r 12) fun x8 x9 x10 => mInt .i64 (r 18) fun x11 => K (x, x1, x2, x3, x4, x5, x6, x7, x8, x9, x10, x11) }
theorem glacierlaw4_WalTorn_p3_ok : glacierlaw4_WalTorn_p3.ok := by
  intro r K h
  unfold glacierlaw4_WalTorn_p3 at h
  obtain ⟨x, x1, x2, e0, h⟩ := mSlice_elim h
  obtain ⟨x3, e1, h⟩ := mInt_elim h
  obtain ⟨x4, x5, x6, e2, h⟩ := mSlice_elim h
  obtain ⟨x7, e3, h⟩ := mPtr_elim h
  obtain ⟨x8, x9, x10, e4, h⟩ := mSlice_elim h
  obtain ⟨x11, e5, h⟩ := mInt_elim h
  exact ⟨(x, x1, x2, x3, x4, x5, x6, x7, x8, x9, x10, x11), regsOf_self (L := [(0, (.slice x x1 x2)), (1, (.int .i64 x3)), (2, (.slice x4 x5 x6)), (7, (.pointer x7)), (12, (.slice x8 x9 x10)), (18, (.int .i64 x11))]) (List.forall_mem_cons.2 ⟨e0, List.forall_mem_cons.2 ⟨e1, List.forall_mem_cons.2 ⟨e2, List.forall_mem_cons.2 ⟨e3, List.forall_mem_cons.2 ⟨e4, List.forall_mem_cons.2 ⟨e5, List.forall_mem_nil _⟩⟩⟩⟩⟩⟩), h⟩
theorem glacierlaw4_WalTorn_p3_re (s : (Option Addr) × Nat × Nat × Int × (Option Addr) × Nat × Nat × (Option Addr) × (Option Addr) × Nat × Nat × Int) (r : Regs) (K : ((Option Addr) × Nat × Nat × Int × (Option Addr) × Nat × Nat × (Option Addr) × (Option Addr) × Nat × Nat × Int) → Prop) (h : K s) : glacierlaw4_WalTorn_p3.dec (regsOf (glacierlaw4_WalTorn_p3.slots s) r) K := by
  obtain ⟨x12, x13, x14, x15, x16, x17, x18, x19, x20, x21, x22, x23⟩ := s
  exact cast (show K (x12, x13, x14, x15, x16, x17, x18, x19, x20, x21, x22, x23) = glacierlaw4_WalTorn_p3.dec (regsOf (glacierlaw4_WalTorn_p3.slots (x12, x13, x14, x15, x16, x17, x18, x19, x20, x21, x22, x23)) r) K by kernel_rfl) h

def glacierlaw4_WalTorn_p4 : Point ((Option Addr) × Nat × Nat × (Option Addr) × Nat × Nat × (Option Addr) × Int) := { slots := fun s => [(0, (.slice s.1 s.2.1 s.2.2.1)), (2, (.slice s.2.2.2.1 s.2.2.2.2.1 s.2.2.2.2.2.1)), (7, (.pointer s.2.2.2.2.2.2.1)), (18, (.int .i64 s.2.2.2.2.2.2.2))], dec := fun r K => mSlice (r 0) fun x x1 x2 => mSlice (r 2) fun x3 x4 x5 => mPtr (r 7) fun x6 => mInt .i64 (r 18) fun x7 => K (x, x1, x2, x3, x4, x5, x6, x7) }
theorem glacierlaw4_WalTorn_p4_ok : glacierlaw4_WalTorn_p4.ok := by
  intro r K h
  unfold glacierlaw4_WalTorn_p4 at h
  obtain ⟨x, x1, x2, e0, h⟩ := mSlice_elim h
  obtain ⟨x3, x4, x5, e1, h⟩ := mSlice_elim h
  obtain ⟨x6, e2, h⟩ := mPtr_elim h
  obtain ⟨x7, e3, h⟩ := mInt_elim h
  exact ⟨(x, x1, x2, x3, x4, x5, x6, x7), regsOf_self (L := [(0, (.slice x x1 x2)), (2, (.slice x3 x4 x5)), (7, (.pointer x6)), (18, (.int .i64 x7))]) (List.forall_mem_cons.2 ⟨e0, List.forall_mem_cons.2 ⟨e1, List.forall_mem_cons.2 ⟨e2, List.forall_mem_cons.2 ⟨e3, List.forall_mem_nil _⟩⟩⟩⟩), h⟩
theorem glacierlaw4_WalTorn_p4_re (s : (Option Addr) × Nat × Nat × (Option Addr) × Nat × Nat × (Option Addr) × Int) (r : Regs) (K : ((Option Addr) × Nat × Nat × (Option Addr) × Nat × Nat × (Option Addr) × Int) → Prop) (h : K s) : glacierlaw4_WalTorn_p4.dec (regsOf (glacierlaw4_WalTorn_p4.slots s) r) K := by
  obtain ⟨x8, x9, x10, x11, x12, x13, x14, x15⟩ := s
  exact cast (show K (x8, x9, x10, x11, x12, x13, x14, x15) = glacierlaw4_WalTorn_p4.dec (regsOf (glacierlaw4_WalTorn_p4.slots (x8, x9, x10, x11, x12, x13, x14, x15)) r) K by kernel_rfl) h

def glacierlaw4_WalTorn_p5 : Point ((Option Addr) × Nat × Nat × Int × (Option Addr) × Nat × Nat × (Option Addr) × (Option Addr) × (Option Addr) × Nat × Nat × Int) := { slots := fun s => [(0, (.slice s.1 s.2.1 s.2.2.1)), (1, (.int .i64 s.2.2.2.1)), (2, (.slice s.2.2.2.2.1 s.2.2.2.2.2.1 s.2.2.2.2.2.2.1)), (7, (.pointer s.2.2.2.2.2.2.2.1)), (9, (.pointer s.2.2.2.2.2.2.2.2.1)), (12, (.slice s.2.2.2.2.2.2.2.2.2.1 s.2.2.2.2.2.2.2.2.2.2.1 s.2.2.2.2.2.2.2.2.2.2.2.1)), (13, (.int .i64 s.2.2.2.2.2.2.2.2.2.2.2.2))], dec := fun r K => mSlice (r 0) fun x x1 x2 => mInt .i64 (r 1) fun x3 => mSlice (r 2) fun x4 x5 x6 => mPtr (r 7) fun x7 => mPtr (r 9) fun x8 => mSlice (r 12) fun x9 x10 x11 => mInt .i64 (r 13) fun x12 => K (x, x1, x2, x3, x4, x5, x6, x7, x8, x9, x10, x11, x12) }
theorem glacierlaw4_WalTorn_p5_ok : glacierlaw4_WalTorn_p5.ok := by
  intro r K h
  unfold glacierlaw4_WalTorn_p5 at h
  obtain ⟨x, x1, x2, e0, h⟩ := mSlice_elim h
  obtain ⟨x3, e1, h⟩ := mInt_elim h
  obtain ⟨x4, x5, x6, e2, h⟩ := mSlice_elim h
  obtain ⟨x7, e3, h⟩ := mPtr_elim h
  obtain ⟨x8, e4, h⟩ := mPtr_elim h
  obtain ⟨x9, x10, x11, e5, h⟩ := mSlice_elim h
  obtain ⟨x12, e6, h⟩ := mInt_elim h
  exact ⟨(x, x1, x2, x3, x4, x5, x6, x7, x8, x9, x10, x11, x12), regsOf_self (L := [(0, (.slice x x1 x2)), (1, (.int .i64 x3)), (2, (.slice x4 x5 x6)), (7, (.pointer x7)), (9, (.pointer x8)), (12, (.slice x9 x10 x11)), (13, (.int .i64 x12))]) (List.forall_mem_cons.2 ⟨e0, List.forall_mem_cons.2 ⟨e1, List.forall_mem_cons.2 ⟨e2, List.forall_mem_cons.2 ⟨e3, List.forall_mem_cons.2 ⟨e4, List.forall_mem_cons.2 ⟨e5, List.forall_mem_cons.2 ⟨e6, List.forall_mem_nil _⟩⟩⟩⟩⟩⟩⟩), h⟩
theorem glacierlaw4_WalTorn_p5_re (s : (Option Addr) × Nat × Nat × Int × (Option Addr) × Nat × Nat × (Option Addr) × (Option Addr) × (Option Addr) × Nat × Nat × Int) (r : Regs) (K : ((Option Addr) × Nat × Nat × Int × (Option Addr) × Nat × Nat × (Option Addr) × (Option Addr) × (Option Addr) × Nat × Nat × Int) → Prop) (h : K s) : glacierlaw4_WalTorn_p5.dec (regsOf (glacierlaw4_WalTorn_p5.slots s) r) K := by
  obtain ⟨x13, x14, x15, x16, x17, x18, x19, x20, x21, x22, x23, x24, x25⟩ := s
  exact cast (show K (x13, x14, x15, x16, x17, x18, x19, x20, x21, x22, x23, x24, x25) = glacierlaw4_WalTorn_p5.dec (regsOf (glacierlaw4_WalTorn_p5.slots (x13, x14, x15, x16, x17, x18, x19, x20, x21, x22, x23, x24, x25)) r) K by kernel_rfl) h

set_option maxRecDepth 100000 in
theorem glacierlaw4_WalTorn_sound (l : Option Addr) (l_n : Nat) (l_c : Nat) (cut : Int) (more : Option Addr) (more_n : Nat) (more_c : Nat) (R : Value → World → Prop) (w : World) (h : glacierlaw4_WalTorn_b8 l l_n l_c cut more more_n more_c R w) :
    CallR Tryd.prog fn_glacierlaw4_WalTorn #[(.slice l l_n l_c), (.int .i64 cut), (.slice more more_n more_c)] w R := by
  refine CallR_intro (args := [(.slice l l_n l_c), (.int .i64 cut), (.slice more more_n more_c)]) Tryd.func4 rfl (Nat.le_of_ble_eq_true (by kernel_rfl)) ?_
  refine Wp_glue glacierlaw4_WalTorn_p0 (fun s w => glacierlaw4_WalTorn_b7 s.1 s.2.1 s.2.2.1 s.2.2.2.1 s.2.2.2.2.1 s.2.2.2.2.2.1 s.2.2.2.2.2.2.1 s.2.2.2.2.2.2.2.1 s.2.2.2.2.2.2.2.2.1 s.2.2.2.2.2.2.2.2.2.1 s.2.2.2.2.2.2.2.2.2.2.1 s.2.2.2.2.2.2.2.2.2.2.2 R w) [_, _, _, _, _, _, _, _] (Q0 := fun e _ r w => match e with | .normal => glacierlaw4_WalTorn_p0.dec r (fun s => glacierlaw4_WalTorn_b7 s.1 s.2.1 s.2.2.1 s.2.2.2.1 s.2.2.2.2.1 s.2.2.2.2.2.1 s.2.2.2.2.2.2.1 s.2.2.2.2.2.2.2.1 s.2.2.2.2.2.2.2.2.1 s.2.2.2.2.2.2.2.2.2.1 s.2.2.2.2.2.2.2.2.2.2.1 s.2.2.2.2.2.2.2.2.2.2.2 R w) | .exit _ => False | .ret => retQ Tryd.prog Tryd.f4.results R .ret [] r w | _ => False) h (by kernel_rfl) (fun s r w h => ?_) glacierlaw4_WalTorn_p0_ok (fun _ _ _ h => h) ?_
  · obtain ⟨l8, l_n1, l_c1, cut1, more1, more_n1, more_c1, d, g, ends, ends_n, ends_c⟩ := s
    have h : glacierlaw4_WalTorn_b7 l8 l_n1 l_c1 cut1 more1 more_n1 more_c1 d g ends ends_n ends_c R w := h
    refine Wp_seq_via glacierlaw4_WalTorn_p1 (fun s w => glacierlaw4_WalTorn_b4 s.1 s.2.1 s.2.2.1 s.2.2.2.1 s.2.2.2.2.1 s.2.2.2.2.2.1 s.2.2.2.2.2.2.1 s.2.2.2.2.2.2.2.1 s.2.2.2.2.2.2.2.2.1 s.2.2.2.2.2.2.2.2.2.1 s.2.2.2.2.2.2.2.2.2.2 R w) (fun s r w h => ?_) (fun hN1 => ?_)
    · obtain ⟨l14, l_n4, l_c4, cut4, more4, more_n4, more_c4, d3, ends3, ends_n3, ends_c3⟩ := s
      have h : glacierlaw4_WalTorn_b4 l14 l_n4 l_c4 cut4 more4 more_n4 more_c4 d3 ends3 ends_n3 ends_c3 R w := h
      refine Wp_glue glacierlaw4_WalTorn_p2 (fun s w => glacierlaw4_WalTorn_b3 s.1 s.2.1 s.2.2.1 s.2.2.2.1 s.2.2.2.2.1 s.2.2.2.2.2.1 s.2.2.2.2.2.2.1 s.2.2.2.2.2.2.2.1 s.2.2.2.2.2.2.2.2.1 s.2.2.2.2.2.2.2.2.2.1 s.2.2.2.2.2.2.2.2.2.2 R w) [_, _, _] (Q0 := fun e _ r w => match e with | .normal => glacierlaw4_WalTorn_p2.dec r (fun s => glacierlaw4_WalTorn_b3 s.1 s.2.1 s.2.2.1 s.2.2.2.1 s.2.2.2.2.1 s.2.2.2.2.2.1 s.2.2.2.2.2.2.1 s.2.2.2.2.2.2.2.1 s.2.2.2.2.2.2.2.2.1 s.2.2.2.2.2.2.2.2.2.1 s.2.2.2.2.2.2.2.2.2.2 R w) | .exit _ => False | .ret => retQ Tryd.prog Tryd.f4.results R .ret [] r w | _ => False) h (by kernel_rfl) (fun s r w h => ?_) glacierlaw4_WalTorn_p2_ok (fun _ _ _ h => h) ?_
      · obtain ⟨l18, l_n5, l_c5, cut5, more5, more_n5, more_c5, d4, ends4, ends_n4, ends_c4⟩ := s
        have h : glacierlaw4_WalTorn_b3 l18 l_n5 l_c5 cut5 more5 more_n5 more_c5 d4 ends4 ends_n4 ends_c4 R w := h
        refine Wp_glue glacierlaw4_WalTorn_p3 (fun s w => glacierlaw4_WalTorn_b2 s.1 s.2.1 s.2.2.1 s.2.2.2.1 s.2.2.2.2.1 s.2.2.2.2.2.1 s.2.2.2.2.2.2.1 s.2.2.2.2.2.2.2.1 s.2.2.2.2.2.2.2.2.1 s.2.2.2.2.2.2.2.2.2.1 s.2.2.2.2.2.2.2.2.2.2.1 s.2.2.2.2.2.2.2.2.2.2.2 R w) [_, _] (Q0 := fun e _ r w => match e with | .normal => glacierlaw4_WalTorn_p3.dec r (fun s => glacierlaw4_WalTorn_b2 s.1 s.2.1 s.2.2.1 s.2.2.2.1 s.2.2.2.2.1 s.2.2.2.2.2.1 s.2.2.2.2.2.2.1 s.2.2.2.2.2.2.2.1 s.2.2.2.2.2.2.2.2.1 s.2.2.2.2.2.2.2.2.2.1 s.2.2.2.2.2.2.2.2.2.2.1 s.2.2.2.2.2.2.2.2.2.2.2 R w) | .exit _ => False | .ret => retQ Tryd.prog Tryd.f4.results R .ret [] r w | _ => False) h (by kernel_rfl) (fun s r w h => ?_) glacierlaw4_WalTorn_p3_ok (fun _ _ _ h => h) ?_
        · obtain ⟨l20, l_n6, l_c6, cut6, more6, more_n6, more_c6, d5, ends5, ends_n5, ends_c5, n⟩ := s
          have h : glacierlaw4_WalTorn_b2 l20 l_n6 l_c6 cut6 more6 more_n6 more_c6 d5 ends5 ends_n5 ends_c5 n R w := h
          refine Wp_seq_via glacierlaw4_WalTorn_p4 (fun s w => glacierlaw4_WalTorn_b0 s.1 s.2.1 s.2.2.1 s.2.2.2.1 s.2.2.2.2.1 s.2.2.2.2.2.1 s.2.2.2.2.2.2.1 s.2.2.2.2.2.2.2 R w) (fun s r w h => ?_) (fun hN2 => ?_)
          · obtain ⟨l22, l_n8, l_c8, more8, more_n8, more_c8, d7, n2⟩ := s
            have h : glacierlaw4_WalTorn_b0 l22 l_n8 l_c8 more8 more_n8 more_c8 d7 n2 R w := h
            refine Wp_leaf_end (Q0 := fun e _ r w => match e with | .normal => retQ Tryd.prog Tryd.f4.results R .normal [] r w | .exit _ => False | .ret => retQ Tryd.prog Tryd.f4.results R .ret [] r w | _ => False) h (by kernel_rfl) ?_
            intro e _ r w h
            cases e with
            | normal => exact h
            | exit i => exact h.elim
            | ret => exact h
            | goto i => exact h.elim
            | panic c => exact h.elim
            | outgrown => exact h.elim
          · refine Wp_block_via glacierlaw4_WalTorn_p4 (fun s w => glacierlaw4_WalTorn_b0 s.1 s.2.1 s.2.2.1 s.2.2.2.1 s.2.2.2.2.1 s.2.2.2.2.2.1 s.2.2.2.2.2.2.1 s.2.2.2.2.2.2.2 R w) hN2 (fun hX3 => ?_)
            refine Wp_loop (p := glacierlaw4_WalTorn_p3) glacierlaw4_WalTorn_p3_ok (fun s r w K0 h => ?_) h
            obtain ⟨l21, l_n7, l_c7, cut7, more7, more_n7, more_c7, d6, ends6, ends_n6, ends_c6, n1⟩ := s
            have h : glacierlaw4_WalTorn_b1 l21 l_n7 l_c7 cut7 more7 more_n7 more_c7 d6 ends6 ends_n6 ends_c6 n1 K0 R w := h
            have hK4 := fun (s : (Option Addr) × Nat × Nat × Int × (Option Addr) × Nat × Nat × (Option Addr) × (Option Addr) × Nat × Nat × Int) (r : Regs) (w : World) (h : K0 s w) => glacierlaw4_WalTorn_p3_re s r (fun s => K0 s w) h
            refine Wp_leaf_end (Q0 := fun e _ r w => match e with | .normal => glacierlaw4_WalTorn_p3.dec r (fun s => K0 s w) | .exit i => exitQ i 2 (glacierlaw4_WalTorn_p4.dec r (fun s => glacierlaw4_WalTorn_b0 s.1 s.2.1 s.2.2.1 s.2.2.2.1 s.2.2.2.2.1 s.2.2.2.2.2.1 s.2.2.2.2.2.2.1 s.2.2.2.2.2.2.2 R w)) (False) | .ret => retQ Tryd.prog Tryd.f4.results R .ret [] r w | _ => False) h (by kernel_rfl) ?_
            intro e _ r w h
            cases e with
            | normal =>
              obtain ⟨s, hs, h⟩ := glacierlaw4_WalTorn_p3_ok _ _ h
              rw [← hs]
              exact hK4 s r w h
            | exit i =>
              rcases exitQ_elim h with ⟨rfl, h⟩ | ⟨_, h⟩
              · obtain ⟨s, hs, h⟩ := glacierlaw4_WalTorn_p4_ok _ _ h
                rw [← hs]
                exact hX3 s r w h
              exact h.elim
            | ret => exact h
            | goto i => exact h.elim
            | panic c => exact h.elim
            | outgrown => exact h.elim
        · intro e _ r w hne h
          cases e with
          | normal => exact absurd rfl hne
          | exit i => exact h.elim
          | ret => exact h
          | goto i => exact h.elim
          | panic c => exact h.elim
          | outgrown => exact h.elim
      · intro e _ r w hne h
        cases e with
        | normal => exact absurd rfl hne
        | exit i => exact h.elim
        | ret => exact h
        | goto i => exact h.elim
        | panic c => exact h.elim
        | outgrown => exact h.elim
    · refine Wp_glue glacierlaw4_WalTorn_p5 (fun s w => glacierlaw4_WalTorn_b6 s.1 s.2.1 s.2.2.1 s.2.2.2.1 s.2.2.2.2.1 s.2.2.2.2.2.1 s.2.2.2.2.2.2.1 s.2.2.2.2.2.2.2.1 s.2.2.2.2.2.2.2.2.1 s.2.2.2.2.2.2.2.2.2.1 s.2.2.2.2.2.2.2.2.2.2.1 s.2.2.2.2.2.2.2.2.2.2.2.1 s.2.2.2.2.2.2.2.2.2.2.2.2 R w) [_] (Q0 := fun e _ r w => match e with | .normal => glacierlaw4_WalTorn_p5.dec r (fun s => glacierlaw4_WalTorn_b6 s.1 s.2.1 s.2.2.1 s.2.2.2.1 s.2.2.2.2.1 s.2.2.2.2.2.1 s.2.2.2.2.2.2.1 s.2.2.2.2.2.2.2.1 s.2.2.2.2.2.2.2.2.1 s.2.2.2.2.2.2.2.2.2.1 s.2.2.2.2.2.2.2.2.2.2.1 s.2.2.2.2.2.2.2.2.2.2.2.1 s.2.2.2.2.2.2.2.2.2.2.2.2 R w) | .exit _ => False | .ret => retQ Tryd.prog Tryd.f4.results R .ret [] r w | _ => False) h (by kernel_rfl) (fun s r w h => ?_) glacierlaw4_WalTorn_p5_ok (fun _ _ _ h => h) ?_
      · obtain ⟨l9, l_n2, l_c2, cut2, more2, more_n2, more_c2, d1, g1, ends1, ends_n1, ends_c1, i⟩ := s
        have h : glacierlaw4_WalTorn_b6 l9 l_n2 l_c2 cut2 more2 more_n2 more_c2 d1 g1 ends1 ends_n1 ends_c1 i R w := h
        refine Wp_block_via glacierlaw4_WalTorn_p1 (fun s w => glacierlaw4_WalTorn_b4 s.1 s.2.1 s.2.2.1 s.2.2.2.1 s.2.2.2.2.1 s.2.2.2.2.2.1 s.2.2.2.2.2.2.1 s.2.2.2.2.2.2.2.1 s.2.2.2.2.2.2.2.2.1 s.2.2.2.2.2.2.2.2.2.1 s.2.2.2.2.2.2.2.2.2.2 R w) hN1 (fun hX5 => ?_)
        refine Wp_loop (p := glacierlaw4_WalTorn_p5) glacierlaw4_WalTorn_p5_ok (fun s r w K0 h => ?_) h
        obtain ⟨l10, l_n3, l_c3, cut3, more3, more_n3, more_c3, d2, g2, ends2, ends_n2, ends_c2, i1⟩ := s
        have h : glacierlaw4_WalTorn_b5 l10 l_n3 l_c3 cut3 more3 more_n3 more_c3 d2 g2 ends2 ends_n2 ends_c2 i1 K0 R w := h
        have hK6 := fun (s : (Option Addr) × Nat × Nat × Int × (Option Addr) × Nat × Nat × (Option Addr) × (Option Addr) × (Option Addr) × Nat × Nat × Int) (r : Regs) (w : World) (h : K0 s w) => glacierlaw4_WalTorn_p5_re s r (fun s => K0 s w) h
        refine Wp_leaf_end (Q0 := fun e _ r w => match e with | .normal => glacierlaw4_WalTorn_p5.dec r (fun s => K0 s w) | .exit i => exitQ i 0 (glacierlaw4_WalTorn_p1.dec r (fun s => glacierlaw4_WalTorn_b4 s.1 s.2.1 s.2.2.1 s.2.2.2.1 s.2.2.2.2.1 s.2.2.2.2.2.1 s.2.2.2.2.2.2.1 s.2.2.2.2.2.2.2.1 s.2.2.2.2.2.2.2.2.1 s.2.2.2.2.2.2.2.2.2.1 s.2.2.2.2.2.2.2.2.2.2 R w)) (False) | .ret => retQ Tryd.prog Tryd.f4.results R .ret [] r w | _ => False) h (by kernel_rfl) ?_
        intro e _ r w h
        cases e with
        | normal =>
          obtain ⟨s, hs, h⟩ := glacierlaw4_WalTorn_p5_ok _ _ h
          rw [← hs]
          exact hK6 s r w h
        | exit i =>
          rcases exitQ_elim h with ⟨rfl, h⟩ | ⟨_, h⟩
          · obtain ⟨s, hs, h⟩ := glacierlaw4_WalTorn_p1_ok _ _ h
            rw [← hs]
            exact hX5 s r w h
          exact h.elim
        | ret => exact h
        | goto i => exact h.elim
        | panic c => exact h.elim
        | outgrown => exact h.elim
      · intro e _ r w hne h
        cases e with
        | normal => exact absurd rfl hne
        | exit i => exact h.elim
        | ret => exact h
        | goto i => exact h.elim
        | panic c => exact h.elim
        | outgrown => exact h.elim
  · intro e _ r w hne h
    cases e with
    | normal => exact absurd rfl hne
    | exit i => exact h.elim
    | ret => exact h
    | goto i => exact h.elim
    | panic c => exact h.elim
    | outgrown => exact h.elim

/- glacier/glacierlaw4.WalKeeps -/
def glacierlaw4_WalKeeps_b0 (picks4 : Option Addr) (picks_n4 : Nat) (picks_c4 : Nat) (d3 : Option Addr) (all3 : Option Addr) (all_n3 : Nat) (all_c3 : Nat) (synced3 : Int) (R : Value → World → Prop) (w : World) : Prop :=
  CallR Tryd.prog fn_disk_Disk_Crash #[(.pointer d3), (.slice picks4 picks_n4 picks_c4)] w fun res7 w_8 =>
  mTup res7 fun l11 =>
  mNil l11 (
  CallR Tryd.prog fn_wal_Open #[(.pointer d3), (.string (ByteArray.mk #[119])), (.int .i64 0)] w_8 fun res8 w_9 =>
  mTup res8 fun l12 =>
  mCons l12 fun v19 l13 =>
  mPtr v19 fun _ =>
  mCons l13 fun v21 l14 =>
  mSlice v21 fun v22 v_n4 v_c4 =>
  mCons l14 fun v23 l15 =>
  mInt .i64 v23 fun v24 =>
  mNil l15 (
  Br (v24 != 0) (
  R (.bool false) w_9) (
  Br (decide ((v_n4 : Int) < synced3)) (
  R (.bool false) w_9) (
  Br (decide ((v_n4 : Int) > (all_n3 : Int))) (
  R (.bool false) w_9) (
  rRun Tryd.prog (Instr.sliceAt 40 (.slice all3 all_n3 all_c3) none (some (.int .i64 (v_n4 : Int))) none) w_9 fun sr1 w_10 =>
  mSlice sr1 fun v25 v_n5 v_c5 =>
  CallR Tryd.prog fn_glacierlaw4_same #[(.slice v22 v_n4 v_c4), (.slice v25 v_n5 v_c5)] w_10 fun res9 w_11 =>
  mBool res9 fun v26 =>
  Br (!v26) (
  R (.bool false) w_11) (
  CallR Tryd.prog fn_wal_Open #[(.pointer d3), (.string (ByteArray.mk #[119])), (.int .i64 0)] w_11 fun res10 w_12 =>
  mTup res10 fun l16 =>
  mCons l16 fun v27 l17 =>
  mPtr v27 fun _ =>
  mCons l17 fun v29 l18 =>
  mSlice v29 fun v30 v_n6 v_c6 =>
  mCons l18 fun v31 l19 =>
  mInt .i64 v31 fun v32 =>
  mNil l19 (
  Br (v32 == 0) (
  CallR Tryd.prog fn_glacierlaw4_same #[(.slice v22 v_n4 v_c4), (.slice v30 v_n6 v_c6)] w_12 fun res11 w_13 =>
  mBool res11 fun v33 =>
  R (.bool v33) w_13) (
  R (.bool false) w_12))))))))

def glacierlaw4_WalKeeps_b1 (l10 : Option Addr) (l_n3 : Nat) (l_c3 : Nat) (picks3 : Option Addr) (picks_n3 : Nat) (picks_c3 : Nat) (d2 : Option Addr) (g2 : Option Addr) (all2 : Option Addr) (all_n2 : Nat) (all_c2 : Nat) (synced2 : Int) (i1 : Int) (K0 : ((Option Addr) × Nat × Nat × (Option Addr) × Nat × Nat × (Option Addr) × (Option Addr) × (Option Addr) × Nat × Nat × Int × Int) → World → Prop) (R : Value → World → Prop) (w : World) : Prop :=
  Br (decide (i1 < (l_n3 : Int))) (
  IX l10 l_n3 i1 4 fun a =>
  LDI .i64 w a fun v12 =>
  Br (v12 == 1) (
  IX l10 l_n3 i1 4 fun a1 =>
  LDSl w (Addr.add a1 2) fun v13 v_n1 v_c1 =>
  CallR Tryd.prog fn_wal_Log_Append #[(.pointer g2), (.slice v13 v_n1 v_c1)] w fun res4 w_4 =>
  mInt .i64 res4 fun v14 =>
  Br (v14 == 0) (
  IX l10 l_n3 i1 4 fun a2 =>
  LDSl w_4 (Addr.add a2 2) fun v15 v_n2 v_c2 =>
  rRun Tryd.prog (Builtin.append_ #[40, 40] 40 #[(.slice all2 all_n2 all_c2), (.slice v15 v_n2 v_c2)]) w_4 fun sr w_5 =>
  mSlice sr fun v16 v_n3 v_c3 =>
  K0 (l10, l_n3, l_c3, picks3, picks_n3, picks_c3, d2, g2, v16, v_n3, v_c3, synced2, IntKind.wrap .i64 (i1 + 1)) w_5) (
  K0 (l10, l_n3, l_c3, picks3, picks_n3, picks_c3, d2, g2, all2, all_n2, all_c2, synced2, IntKind.wrap .i64 (i1 + 1)) w_4)) (
  Br (v12 == 2) (
  CallR Tryd.prog fn_wal_Log_Sync #[(.pointer g2)] w fun res5 w_6 =>
  mInt .i64 res5 fun v17 =>
  Br (v17 == 0) (
  K0 (l10, l_n3, l_c3, picks3, picks_n3, picks_c3, d2, g2, all2, all_n2, all_c2, (all_n2 : Int), IntKind.wrap .i64 (i1 + 1)) w_6) (
  K0 (l10, l_n3, l_c3, picks3, picks_n3, picks_c3, d2, g2, all2, all_n2, all_c2, synced2, IntKind.wrap .i64 (i1 + 1)) w_6)) (
  Br (v12 == 3) (
  CallR Tryd.prog fn_wal_Log_Rotate #[(.pointer g2)] w fun res6 w_7 =>
  mInt .i64 res6 fun v18 =>
  Br (v18 == 0) (
  K0 (l10, l_n3, l_c3, picks3, picks_n3, picks_c3, d2, g2, all2, all_n2, all_c2, (all_n2 : Int), IntKind.wrap .i64 (i1 + 1)) w_7) (
  K0 (l10, l_n3, l_c3, picks3, picks_n3, picks_c3, d2, g2, all2, all_n2, all_c2, synced2, IntKind.wrap .i64 (i1 + 1)) w_7)) (
  K0 (l10, l_n3, l_c3, picks3, picks_n3, picks_c3, d2, g2, all2, all_n2, all_c2, synced2, IntKind.wrap .i64 (i1 + 1)) w)))) (
  glacierlaw4_WalKeeps_b0 picks3 picks_n3 picks_c3 d2 all2 all_n2 all_c2 synced2 R w)

def glacierlaw4_WalKeeps_b2 (l9 : Option Addr) (l_n2 : Nat) (l_c2 : Nat) (picks2 : Option Addr) (picks_n2 : Nat) (picks_c2 : Nat) (d1 : Option Addr) (g1 : Option Addr) (all1 : Option Addr) (all_n1 : Nat) (all_c1 : Nat) (synced1 : Int) (i : Int) (R : Value → World → Prop) (w : World) : Prop :=
  LoopS (σ := (Option Addr) × Nat × Nat × (Option Addr) × Nat × Nat × (Option Addr) × (Option Addr) × (Option Addr) × Nat × Nat × Int × Int) (fun s w K0 =>
  glacierlaw4_WalKeeps_b1 s.1 s.2.1 s.2.2.1 s.2.2.2.1 s.2.2.2.2.1 s.2.2.2.2.2.1 s.2.2.2.2.2.2.1 s.2.2.2.2.2.2.2.1 s.2.2.2.2.2.2.2.2.1 s.2.2.2.2.2.2.2.2.2.1 s.2.2.2.2.2.2.2.2.2.2.1 s.2.2.2.2.2.2.2.2.2.2.2.1 s.2.2.2.2.2.2.2.2.2.2.2.2 K0 R w) (l9, l_n2, l_c2, picks2, picks_n2, picks_c2, d1, g1, all1, all_n1, all_c1, synced1, i) w

def glacierlaw4_WalKeeps_b3 (l8 : Option Addr) (l_n1 : Nat) (l_c1 : Nat) (picks1 : Option Addr) (picks_n1 : Nat) (picks_c1 : Nat) (d : Option Addr) (g : Option Addr) (all : Option Addr) (all_n : Nat) (all_c : Nat) (synced : Int) (R : Value → World → Prop) (w : World) : Prop :=
  glacierlaw4_WalKeeps_b2 l8 l_n1 l_c1 picks1 picks_n1 picks_c1 d g all all_n all_c synced 0 R w

def glacierlaw4_WalKeeps_b4 (l : Option Addr) (l_n : Nat) (l_c : Nat) (picks : Option Addr) (picks_n : Nat) (picks_c : Nat) (R : Value → World → Prop) (w : World) : Prop :=
  CallR Tryd.prog fn_glacierlaw4_known #[] w fun res w_ =>
  mBool res fun v =>
  Br (!v) (
  R (.bool false) w_) (
  CallR Tryd.prog fn_glacierlaw4_few #[(.slice l l_n l_c)] w_ fun res1 w_1 =>
  mBool res1 fun v1 =>
  Br (!v1) (
  R (.bool true) w_1) (
  Br (decide ((picks_n : Int) > 300)) (
  R (.bool true) w_1) (
  CallR Tryd.prog fn_disk_New #[(.int .i64 16777216)] w_1 fun res2 w_2 =>
  mTup res2 fun l1 =>
  mCons l1 fun v2 l2 =>
  mPtr v2 fun v3 =>
  mCons l2 fun v4 l3 =>
  mInt .i64 v4 fun v5 =>
  mNil l3 (
  Br (v5 != 0) (
  R (.bool false) w_2) (
  Br (Option.isNone v3) (
  R (.bool false) w_2) (
  CallR Tryd.prog fn_wal_Open #[(.pointer v3), (.string (ByteArray.mk #[119])), (.int .i64 0)] w_2 fun res3 w_3 =>
  mTup res3 fun l4 =>
  mCons l4 fun v6 l5 =>
  mPtr v6 fun v7 =>
  mCons l5 fun v8 l6 =>
  mSlice v8 fun _ _ _ =>
  mCons l6 fun v10 l7 =>
  mInt .i64 v10 fun v11 =>
  mNil l7 (
  Br (v11 != 0) (
  R (.bool false) w_3) (
  Br (Option.isNone v7) (
  R (.bool false) w_3) (
  glacierlaw4_WalKeeps_b3 l l_n l_c picks picks_n picks_c v3 v7 none 0 0 0 R w_3)))))))))

def glacierlaw4_WalKeeps_p0 : Point ((Option Addr) × Nat × Nat × (Option Addr) × Nat × Nat × (Option Addr) × (Option Addr) × (Option Addr) × Nat × Nat × Int) := { slots := fun s => [(0, (.slice s.1 s.2.1 s.2.2.1)), (1, (.slice s.2.2.2.1 s.2.2.2.2.1 s.2.2.2.2.2.1)), (5, (.pointer s.2.2.2.2.2.2.1)), (7, (.pointer s.2.2.2.2.2.2.2.1)), (10, (.slice s.2.2.2.2.2.2.2.2.1 s.2.2.2.2.2.2.2.2.2.1 s.2.2.2.2.2.2.2.2.2.2.1)), (11, (.int .i64 s.2.2.2.2.2.2.2.2.2.2.2))], dec := fun r K => mSlice (r 0) fun x x1 x2 => mSlice (r 1) fun x3 x4 x5 => mPtr (r 5) fun x6 => mPtr (r 7) fun x7 => mSlice (r 10) fun x8 x9 x10 => mInt .i64 (r 11) fun x11 => K (x, x1, x2, x3, x4, x5, x6, x7, x8, x9, x10, x11) }
theorem glacierlaw4_WalKeeps_p0_ok : glacierlaw4_WalKeeps_p0.ok := by
  intro r K h
  unfold glacierlaw4_WalKeeps_p0 at h
  obtain ⟨x, x1, x2, e0, h⟩ := mSlice_elim h
  obtain ⟨x3, x4, x5, e1, h⟩ := mSlice_elim h
  obtain ⟨x6, e2, h⟩ := mPtr_elim h
  obtain ⟨x7, e3, h⟩ := mPtr_elim h
  obtain ⟨x8, x9, x10, e4, h⟩ := mSlice_elim h
  obtain ⟨x11, e5, h⟩ := mInt_elim h
  exact ⟨(x, x1, x2, x3, x4, x5, x6, x7, x8, x9, x10, x11), regsOf_self (L := [(0, (.slice x x1 x2)), (1, (.slice x3 x4 x5)), (5, (.pointer x6)), (7, (.pointer x7)), (10, (.slice x8 x9 x10)), (11, (.int .i64 x11))]) (List.forall_mem_cons.2 ⟨e0, List.forall_mem_cons.2 ⟨e1, List.forall_mem_cons.2 ⟨e2, List.forall_mem_cons.2 ⟨e3, List.forall_mem_cons.2 ⟨e4, List.forall_mem_cons.2 ⟨e5, List.forall_mem_nil _⟩⟩⟩⟩⟩⟩), h⟩
theorem glacierlaw4_WalKeeps_p0_re (s : (Option Addr) × Nat × Nat × (Option Addr) × Nat × Nat × (Option Addr) × (Option Addr) × (Option Addr) × Nat × Nat × Int) (r : Regs) (K : ((Option Addr) × Nat × Nat × (Option Addr) × Nat × Nat × (Option Addr) × (Option Addr) × (Option Addr) × Nat × Nat × Int) → Prop) (h : K s) : glacierlaw4_WalKeeps_p0.dec (regsOf (glacierlaw4_WalKeeps_p0.slots s) r) K := by
  obtain ⟨x12, x13, x14, x15, x16, x17, x18, x19, x20, x21, x22, x23⟩ := s
  exact cast (show K (x12, x13, x14, x15, x16, x17, x18, x19, x20, x21, x22, x23) = glacierlaw4_WalKeeps_p0.dec (regsOf (glacierlaw4_WalKeeps_p0.slots (x12, x13, x14, x15, x16, x17, x18, x19, x20, x21, x22, x23)) r) K by kernel_rfl) h

def glacierlaw4_WalKeeps_p1 : Point ((Option Addr) × Nat × Nat × (Option Addr) × (Option Addr) × Nat × Nat × Int) := { slots := fun s => [(1, (.slice s.1 s.2.1 s.2.2.1)), (5, (.pointer s.2.2.2.1)), (10, (.slice s.2.2.2.2.1 s.2.2.2.2.2.1 s.2.2.2.2.2.2.1)), (11, (.int .i64 s.2.2.2.2.2.2.2))], dec := fun r K => mSlice (r 1) fun x x1 x2 => mPtr (r 5) fun x3 => mSlice (r 10) fun x4 x5 x6 => mInt .i64 (r 11) fun x7 => K (x, x1, x2, x3, x4, x5, x6, x7) }
theorem glacierlaw4_WalKeeps_p1_ok : glacierlaw4_WalKeeps_p1.ok := by
  intro r K h
  unfold glacierlaw4_WalKeeps_p1 at h
  obtain ⟨x, x1, x2, e0, h⟩ := mSlice_elim h
  obtain ⟨x3, e1, h⟩ := mPtr_elim h
  obtain ⟨x4, x5, x6, e2, h⟩ := mSlice_elim h
  obtain ⟨x7, e3, h⟩ := mInt_elim h
  exact ⟨(x, x1, x2, x3, x4, x5, x6, x7), regsOf_self (L := [(1, (.slice x x1 x2)), (5, (.pointer x3)), (10, (.slice x4 x5 x6)), (11, (.int .i64 x7))]) (List.forall_mem_cons.2 ⟨e0, List.forall_mem_cons.2 ⟨e1, List.forall_mem_cons.2 ⟨e2, List.forall_mem_cons.2 ⟨e3, List.forall_mem_nil _⟩⟩⟩⟩), h⟩
theorem glacierlaw4_WalKeeps_p1_re (s : (Option Addr) × Nat × Nat × (Option Addr) × (Option Addr) × Nat × Nat × Int) (r : Regs) (K : ((Option Addr) × Nat × Nat × (Option Addr) × (Option Addr) × Nat × Nat × Int) → Prop) (h : K s) : glacierlaw4_WalKeeps_p1.dec (regsOf (glacierlaw4_WalKeeps_p1.slots s) r) K := by
  obtain ⟨x8, x9, x10, x11, x12, x13, x14, x15⟩ := s
  exact cast (show K (x8, x9, x10, x11, x12, x13, x14, x15) = glacierlaw4_WalKeeps_p1.dec (regsOf (glacierlaw4_WalKeeps_p1.slots (x8, x9, x10, x11, x12, x13, x14, x15)) r) K by kernel_rfl) h

def glacierlaw4_WalKeeps_p2 : Point ((Option Addr) × Nat × Nat × (Option Addr) × Nat × Nat × (Option Addr) × (Option Addr) × (Option Addr) × Nat × Nat × Int × Int) := { slots := fun s => [(0, (.slice s.1 s.2.1 s.2.2.1)), (1, (.slice s.2.2.2.1 s.2.2.2.2.1 s.2.2.2.2.2.1)), (5, (.pointer s.2.2.2.2.2.2.1)), (7, (.pointer s.2.2.2.2.2.2.2.1)), (10, (.slice s.2.2.2.2.2.2.2.2.1 s.2.2.2.2.2.2.2.2.2.1 s.2.2.2.2.2.2.2.2.2.2.1)), (11, (.int .i64 s.2.2.2.2.2.2.2.2.2.2.2.1)), (12, (.int .i64 s.2.2.2.2.2.2.2.2.2.2.2.2))], dec := fun r K => mSlice (r 0) fun x x1 x2 => mSlice (r 1) fun x3 x4 x5 => mPtr (r 5) fun x6 => mPtr (r 7) fun x7 => mSlice (r 10) fun x8 x9 x10 => mInt .i64 (r 11) fun x11 => mInt .i64 (r 12) fun x12 => K (x, x1, x2, x3, x4, x5, x6, x7, x8, x9, x10, x11, x12) }
theorem glacierlaw4_WalKeeps_p2_ok : glacierlaw4_WalKeeps_p2.ok := by
  intro r K h
  unfold glacierlaw4_WalKeeps_p2 at h
  obtain ⟨x, x1, x2, e0, h⟩ := mSlice_elim h
  obtain ⟨x3, x4, x5, e1, h⟩ := mSlice_elim h
  obtain ⟨x6, e2, h⟩ := mPtr_elim h
  obtain ⟨x7, e3, h⟩ := mPtr_elim h
  obtain ⟨x8, x9, x10, e4, h⟩ := mSlice_elim h
  obtain ⟨x11, e5, h⟩ := mInt_elim h
  obtain ⟨x12, e6, h⟩ := mInt_elim h
  exact ⟨(x, x1, x2, x3, x4, x5, x6, x7, x8, x9, x10, x11, x12), regsOf_self (L := [(0, (.slice x x1 x2)), (1, (.slice x3 x4 x5)), (5, (.pointer x6)), (7, (.pointer x7)), (10, (.slice x8 x9 x10)), (11, (.int .i64 x11)), (12, (.int .i64 x12))]) (List.forall_mem_cons.2 ⟨e0, List.forall_mem_cons.2 ⟨e1, List.forall_mem_cons.2 ⟨e2, List.forall_mem_cons.2 ⟨e3, List.forall_mem_cons.2 ⟨e4, List.forall_mem_cons.2 ⟨e5, List.forall_mem_cons.2 ⟨e6, List.forall_mem_nil _⟩⟩⟩⟩⟩⟩⟩), h⟩
theorem glacierlaw4_WalKeeps_p2_re (s : (Option Addr) × Nat × Nat × (Option Addr) × Nat × Nat × (Option Addr) × (Option Addr) × (Option Addr) × Nat × Nat × Int × Int) (r : Regs) (K : ((Option Addr) × Nat × Nat × (Option Addr) × Nat × Nat × (Option Addr) × (Option Addr) × (Option Addr) × Nat × Nat × Int × Int) → Prop) (h : K s) : glacierlaw4_WalKeeps_p2.dec (regsOf (glacierlaw4_WalKeeps_p2.slots s) r) K := by
  obtain ⟨x13, x14, x15, x16, x17, x18, x19, x20, x21, x22, x23, x24, x25⟩ := s
  exact cast (show K (x13, x14, x15, x16, x17, x18, x19, x20, x21, x22, x23, x24, x25) = glacierlaw4_WalKeeps_p2.dec (regsOf (glacierlaw4_WalKeeps_p2.slots (x13, x14, x15, x16, x17, x18, x19, x20, x21, x22, x23, x24, x25)) r) K by kernel_rfl) h

set_option maxRecDepth 100000 in
theorem glacierlaw4_WalKeeps_sound (l : Option Addr) (l_n : Nat) (l_c : Nat) (picks : Option Addr) (picks_n : Nat) (picks_c : Nat) (R : Value → World → Prop) (w : World) (h : glacierlaw4_WalKeeps_b4 l l_n l_c picks picks_n picks_c R w) :
    CallR Tryd.prog fn_glacierlaw4_WalKeeps #[(.slice l l_n l_c), (.slice picks picks_n picks_c)] w R := by
  refine CallR_intro (args := [(.slice l l_n l_c), (.slice picks picks_n picks_c)]) Tryd.func5 rfl (Nat.le_of_ble_eq_true (by kernel_rfl)) ?_
  refine Wp_glue glacierlaw4_WalKeeps_p0 (fun s w => glacierlaw4_WalKeeps_b3 s.1 s.2.1 s.2.2.1 s.2.2.2.1 s.2.2.2.2.1 s.2.2.2.2.2.1 s.2.2.2.2.2.2.1 s.2.2.2.2.2.2.2.1 s.2.2.2.2.2.2.2.2.1 s.2.2.2.2.2.2.2.2.2.1 s.2.2.2.2.2.2.2.2.2.2.1 s.2.2.2.2.2.2.2.2.2.2.2 R w) [_, _, _, _, _, _, _, _, _] (Q0 := fun e _ r w => match e with | .normal => glacierlaw4_WalKeeps_p0.dec r (fun s => glacierlaw4_WalKeeps_b3 s.1 s.2.1 s.2.2.1 s.2.2.2.1 s.2.2.2.2.1 s.2.2.2.2.2.1 s.2.2.2.2.2.2.1 s.2.2.2.2.2.2.2.1 s.2.2.2.2.2.2.2.2.1 s.2.2.2.2.2.2.2.2.2.1 s.2.2.2.2.2.2.2.2.2.2.1 s.2.2.2.2.2.2.2.2.2.2.2 R w) | .exit _ => False | .ret => retQ Tryd.prog Tryd.f5.results R .ret [] r w | _ => False) h (by kernel_rfl) (fun s r w h => ?_) glacierlaw4_WalKeeps_p0_ok (fun _ _ _ h => h) ?_
  · obtain ⟨l8, l_n1, l_c1, picks1, picks_n1, picks_c1, d, g, all, all_n, all_c, synced⟩ := s
    have h : glacierlaw4_WalKeeps_b3 l8 l_n1 l_c1 picks1 picks_n1 picks_c1 d g all all_n all_c synced R w := h
    refine Wp_seq_via glacierlaw4_WalKeeps_p1 (fun s w => glacierlaw4_WalKeeps_b0 s.1 s.2.1 s.2.2.1 s.2.2.2.1 s.2.2.2.2.1 s.2.2.2.2.2.1 s.2.2.2.2.2.2.1 s.2.2.2.2.2.2.2 R w) (fun s r w h => ?_) (fun hN1 => ?_)
    · obtain ⟨picks4, picks_n4, picks_c4, d3, all3, all_n3, all_c3, synced3⟩ := s
      have h : glacierlaw4_WalKeeps_b0 picks4 picks_n4 picks_c4 d3 all3 all_n3 all_c3 synced3 R w := h
      refine Wp_leaf_end (Q0 := fun e _ r w => match e with | .normal => retQ Tryd.prog Tryd.f5.results R .normal [] r w | .exit _ => False | .ret => retQ Tryd.prog Tryd.f5.results R .ret [] r w | _ => False) h (by kernel_rfl) ?_
      intro e _ r w h
      cases e with
      | normal => exact h
      | exit i => exact h.elim
      | ret => exact h
      | goto i => exact h.elim
      | panic c => exact h.elim
      | outgrown => exact h.elim
    · refine Wp_glue glacierlaw4_WalKeeps_p2 (fun s w => glacierlaw4_WalKeeps_b2 s.1 s.2.1 s.2.2.1 s.2.2.2.1 s.2.2.2.2.1 s.2.2.2.2.2.1 s.2.2.2.2.2.2.1 s.2.2.2.2.2.2.2.1 s.2.2.2.2.2.2.2.2.1 s.2.2.2.2.2.2.2.2.2.1 s.2.2.2.2.2.2.2.2.2.2.1 s.2.2.2.2.2.2.2.2.2.2.2.1 s.2.2.2.2.2.2.2.2.2.2.2.2 R w) [_] (Q0 := fun e _ r w => match e with | .normal => glacierlaw4_WalKeeps_p2.dec r (fun s => glacierlaw4_WalKeeps_b2 s.1 s.2.1 s.2.2.1 s.2.2.2.1 s.2.2.2.2.1 s.2.2.2.2.2.1 s.2.2.2.2.2.2.1 s.2.2.2.2.2.2.2.1 s.2.2.2.2.2.2.2.2.1 s.2.2.2.2.2.2.2.2.2.1 s.2.2.2.2.2.2.2.2.2.2.1 s.2.2.2.2.2.2.2.2.2.2.2.1 s.2.2.2.2.2.2.2.2.2.2.2.2 R w) | .exit _ => False | .ret => retQ Tryd.prog Tryd.f5.results R .ret [] r w | _ => False) h (by kernel_rfl) (fun s r w h => ?_) glacierlaw4_WalKeeps_p2_ok (fun _ _ _ h => h) ?_
      · obtain ⟨l9, l_n2, l_c2, picks2, picks_n2, picks_c2, d1, g1, all1, all_n1, all_c1, synced1, i⟩ := s
        have h : glacierlaw4_WalKeeps_b2 l9 l_n2 l_c2 picks2 picks_n2 picks_c2 d1 g1 all1 all_n1 all_c1 synced1 i R w := h
        refine Wp_block_via glacierlaw4_WalKeeps_p1 (fun s w => glacierlaw4_WalKeeps_b0 s.1 s.2.1 s.2.2.1 s.2.2.2.1 s.2.2.2.2.1 s.2.2.2.2.2.1 s.2.2.2.2.2.2.1 s.2.2.2.2.2.2.2 R w) hN1 (fun hX2 => ?_)
        refine Wp_loop (p := glacierlaw4_WalKeeps_p2) glacierlaw4_WalKeeps_p2_ok (fun s r w K0 h => ?_) h
        obtain ⟨l10, l_n3, l_c3, picks3, picks_n3, picks_c3, d2, g2, all2, all_n2, all_c2, synced2, i1⟩ := s
        have h : glacierlaw4_WalKeeps_b1 l10 l_n3 l_c3 picks3 picks_n3 picks_c3 d2 g2 all2 all_n2 all_c2 synced2 i1 K0 R w := h
        have hK3 := fun (s : (Option Addr) × Nat × Nat × (Option Addr) × Nat × Nat × (Option Addr) × (Option Addr) × (Option Addr) × Nat × Nat × Int × Int) (r : Regs) (w : World) (h : K0 s w) => glacierlaw4_WalKeeps_p2_re s r (fun s => K0 s w) h
        refine Wp_leaf_end (Q0 := fun e _ r w => match e with | .normal => glacierlaw4_WalKeeps_p2.dec r (fun s => K0 s w) | .exit i => exitQ i 0 (glacierlaw4_WalKeeps_p1.dec r (fun s => glacierlaw4_WalKeeps_b0 s.1 s.2.1 s.2.2.1 s.2.2.2.1 s.2.2.2.2.1 s.2.2.2.2.2.1 s.2.2.2.2.2.2.1 s.2.2.2.2.2.2.2 R w)) (False) | .ret => retQ Tryd.prog Tryd.f5.results R .ret [] r w | _ => False) h (by kernel_rfl) ?_
        intro e _ r w h
        cases e with
        | normal =>
          obtain ⟨s, hs, h⟩ := glacierlaw4_WalKeeps_p2_ok _ _ h
          rw [← hs]
          exact hK3 s r w h
        | exit i =>
          rcases exitQ_elim h with ⟨rfl, h⟩ | ⟨_, h⟩
          · obtain ⟨s, hs, h⟩ := glacierlaw4_WalKeeps_p1_ok _ _ h
            rw [← hs]
            exact hX2 s r w h
          exact h.elim
        | ret => exact h
        | goto i => exact h.elim
        | panic c => exact h.elim
        | outgrown => exact h.elim
      · intro e _ r w hne h
        cases e with
        | normal => exact absurd rfl hne
        | exit i => exact h.elim
        | ret => exact h
        | goto i => exact h.elim
        | panic c => exact h.elim
        | outgrown => exact h.elim
  · intro e _ r w hne h
    cases e with
    | normal => exact absurd rfl hne
    | exit i => exact h.elim
    | ret => exact h
    | goto i => exact h.elim
    | panic c => exact h.elim
    | outgrown => exact h.elim

/- glacier/glacierlaw4.WalSpans -/
def glacierlaw4_WalSpans_b0 (l15 : Option Addr) (l_n8 : Nat) (l_c8 : Nat) (below8 : Int) (d7 : Option Addr) (n2 : Int) (R : Value → World → Prop) (w : World) : Prop :=
  CallR Tryd.prog fn_disk_Disk_Crash #[(.pointer d7), (.slice none 0 0)] w fun res10 w_13 =>
  mTup res10 fun l16 =>
  mNil l16 (
  CallR Tryd.prog fn_wal_Open #[(.pointer d7), (.string (ByteArray.mk #[119])), (.int .i64 below8)] w_13 fun res11 w_14 =>
  mTup res11 fun l17 =>
  mCons l17 fun v23 l18 =>
  mPtr v23 fun _ =>
  mCons l18 fun v25 l19 =>
  mSlice v25 fun v26 v_n4 v_c4 =>
  mCons l19 fun v27 l20 =>
  mInt .i64 v27 fun v28 =>
  mNil l20 (
  Br (v28 == 0) (
  rRun Tryd.prog (Instr.sliceAt 40 (.slice l15 l_n8 l_c8) (some (.int .i64 n2)) none none) w_14 fun sr1 w_15 =>
  mSlice sr1 fun v29 v_n5 v_c5 =>
  CallR Tryd.prog fn_glacierlaw4_same #[(.slice v26 v_n4 v_c4), (.slice v29 v_n5 v_c5)] w_15 fun res12 w_16 =>
  mBool res12 fun v30 =>
  R (.bool v30) w_16) (
  R (.bool false) w_14)))

def glacierlaw4_WalSpans_b1 (l14 : Option Addr) (l_n7 : Nat) (l_c7 : Nat) (below7 : Int) (d6 : Option Addr) (in_6 : Option Addr) (in_n6 : Nat) (in_c6 : Nat) (n1 : Int) (K0 : ((Option Addr) × Nat × Nat × Int × (Option Addr) × (Option Addr) × Nat × Nat × Int) → World → Prop) (R : Value → World → Prop) (w : World) : Prop :=
  Br (decide (n1 < (in_n6 : Int))) (
  IX in_6 in_n6 n1 1 fun a3 =>
  LDI .i64 w a3 fun v22 =>
  Br (decide (v22 < below7)) (
  K0 (l14, l_n7, l_c7, below7, d6, in_6, in_n6, in_c6, IntKind.wrap .i64 (n1 + 1)) w) (
  glacierlaw4_WalSpans_b0 l14 l_n7 l_c7 below7 d6 n1 R w)) (
  glacierlaw4_WalSpans_b0 l14 l_n7 l_c7 below7 d6 n1 R w)

def glacierlaw4_WalSpans_b2 (l13 : Option Addr) (l_n6 : Nat) (l_c6 : Nat) (below6 : Int) (d5 : Option Addr) (in_5 : Option Addr) (in_n5 : Nat) (in_c5 : Nat) (n : Int) (R : Value → World → Prop) (w : World) : Prop :=
  LoopS (σ := (Option Addr) × Nat × Nat × Int × (Option Addr) × (Option Addr) × Nat × Nat × Int) (fun s w K0 =>
  glacierlaw4_WalSpans_b1 s.1 s.2.1 s.2.2.1 s.2.2.2.1 s.2.2.2.2.1 s.2.2.2.2.2.1 s.2.2.2.2.2.2.1 s.2.2.2.2.2.2.2.1 s.2.2.2.2.2.2.2.2 K0 R w) (l13, l_n6, l_c6, below6, d5, in_5, in_n5, in_c5, n) w

def glacierlaw4_WalSpans_b3 (l12 : Option Addr) (l_n5 : Nat) (l_c5 : Nat) (below5 : Int) (d4 : Option Addr) (g4 : Option Addr) (in_4 : Option Addr) (in_n4 : Nat) (in_c4 : Nat) (R : Value → World → Prop) (w : World) : Prop :=
  CallR Tryd.prog fn_wal_Log_Sync #[(.pointer g4)] w fun res7 w_10 =>
  mInt .i64 res7 fun v19 =>
  Br (v19 != 0) (
  R (.bool false) w_10) (
  CallR Tryd.prog fn_wal_Log_Truncate #[(.pointer g4), (.int .i64 below5)] w_10 fun res8 w_11 =>
  mInt .i64 res8 fun v20 =>
  Br (v20 != 0) (
  R (.bool false) w_11) (
  CallR Tryd.prog fn_wal_Log_First #[(.pointer g4)] w_11 fun res9 w_12 =>
  mInt .i64 res9 fun v21 =>
  Br (v21 != below5) (
  R (.bool false) w_12) (
  glacierlaw4_WalSpans_b2 l12 l_n5 l_c5 below5 d4 in_4 in_n4 in_c4 0 R w_12)))

def glacierlaw4_WalSpans_b4 (l11 : Option Addr) (l_n4 : Nat) (l_c4 : Nat) (below4 : Int) (d3 : Option Addr) (g3 : Option Addr) (in_3 : Option Addr) (in_n3 : Nat) (in_c3 : Nat) (R : Value → World → Prop) (w : World) : Prop :=
  CallR Tryd.prog fn_wal_Log_Segment #[(.pointer g3)] w fun res6 w_9 =>
  mInt .i64 res6 fun v18 =>
  Req ((IntKind.wrap .i64 (v18 + 1)) ≠ 0) (
  Br (decide ((Int.tmod below4 (IntKind.wrap .i64 (v18 + 1))) < 0)) (
  glacierlaw4_WalSpans_b3 l11 l_n4 l_c4 (IntKind.wrap .i64 (0 - (Int.tmod below4 (IntKind.wrap .i64 (v18 + 1))))) d3 g3 in_3 in_n3 in_c3 R w_9) (
  glacierlaw4_WalSpans_b3 l11 l_n4 l_c4 (Int.tmod below4 (IntKind.wrap .i64 (v18 + 1))) d3 g3 in_3 in_n3 in_c3 R w_9))

def glacierlaw4_WalSpans_b5 (l10 : Option Addr) (l_n3 : Nat) (l_c3 : Nat) (turns3 : Option Addr) (turns_n3 : Nat) (turns_c3 : Nat) (below3 : Int) (d2 : Option Addr) (g2 : Option Addr) (in_2 : Option Addr) (in_n2 : Nat) (in_c2 : Nat) (i1 : Int) (K0 : ((Option Addr) × Nat × Nat × (Option Addr) × Nat × Nat × Int × (Option Addr) × (Option Addr) × (Option Addr) × Nat × Nat × Int) → World → Prop) (R : Value → World → Prop) (w : World) : Prop :=
  Br (decide (i1 < (l_n3 : Int))) (
  IX l10 l_n3 i1 1 fun a =>
  LDSl w a fun _ v_n1 _ =>
  Br (decide ((v_n1 : Int) > 1000)) (
  R (.bool true) w) (
  IX l10 l_n3 i1 1 fun a1 =>
  LDSl w a1 fun v12 v_n2 v_c2 =>
  AL w (.cells #[(.slice v12 v_n2 v_c2)] 41) fun b w_3 =>
  CallR Tryd.prog fn_wal_Log_Append #[(.pointer g2), (.slice (some b) 1 1)] w_3 fun res3 w_4 =>
  mInt .i64 res3 fun v13 =>
  Br (v13 != 0) (
  R (.bool false) w_4) (
  CallR Tryd.prog fn_wal_Log_Segment #[(.pointer g2)] w_4 fun res4 w_5 =>
  mInt .i64 res4 fun v14 =>
  AL w_5 (.cells #[(.int .i64 v14)] 3) fun b1 w_6 =>
  rRun Tryd.prog (Builtin.append_ #[29, 29] 29 #[(.slice in_2 in_n2 in_c2), (.slice (some b1) 1 1)]) w_6 fun sr w_7 =>
  mSlice sr fun v15 v_n3 v_c3 =>
  Br (decide (i1 < (turns_n3 : Int))) (
  IX turns3 turns_n3 i1 1 fun a2 =>
  LDB w_7 a2 fun v16 =>
  Br v16 (
  CallR Tryd.prog fn_wal_Log_Rotate #[(.pointer g2)] w_7 fun res5 w_8 =>
  mInt .i64 res5 fun v17 =>
  Br (v17 != 0) (
  R (.bool false) w_8) (
  K0 (l10, l_n3, l_c3, turns3, turns_n3, turns_c3, below3, d2, g2, v15, v_n3, v_c3, IntKind.wrap .i64 (i1 + 1)) w_8)) (
  K0 (l10, l_n3, l_c3, turns3, turns_n3, turns_c3, below3, d2, g2, v15, v_n3, v_c3, IntKind.wrap .i64 (i1 + 1)) w_7)) (
  K0 (l10, l_n3, l_c3, turns3, turns_n3, turns_c3, below3, d2, g2, v15, v_n3, v_c3, IntKind.wrap .i64 (i1 + 1)) w_7)))) (
  glacierlaw4_WalSpans_b4 l10 l_n3 l_c3 below3 d2 g2 in_2 in_n2 in_c2 R w)

def glacierlaw4_WalSpans_b6 (l9 : Option Addr) (l_n2 : Nat) (l_c2 : Nat) (turns2 : Option Addr) (turns_n2 : Nat) (turns_c2 : Nat) (below2 : Int) (d1 : Option Addr) (g1 : Option Addr) (in_1 : Option Addr) (in_n1 : Nat) (in_c1 : Nat) (i : Int) (R : Value → World → Prop) (w : World) : Prop :=
  LoopS (σ := (Option Addr) × Nat × Nat × (Option Addr) × Nat × Nat × Int × (Option Addr) × (Option Addr) × (Option Addr) × Nat × Nat × Int) (fun s w K0 =>
  glacierlaw4_WalSpans_b5 s.1 s.2.1 s.2.2.1 s.2.2.2.1 s.2.2.2.2.1 s.2.2.2.2.2.1 s.2.2.2.2.2.2.1 s.2.2.2.2.2.2.2.1 s.2.2.2.2.2.2.2.2.1 s.2.2.2.2.2.2.2.2.2.1 s.2.2.2.2.2.2.2.2.2.2.1 s.2.2.2.2.2.2.2.2.2.2.2.1 s.2.2.2.2.2.2.2.2.2.2.2.2 K0 R w) (l9, l_n2, l_c2, turns2, turns_n2, turns_c2, below2, d1, g1, in_1, in_n1, in_c1, i) w

def glacierlaw4_WalSpans_b7 (l8 : Option Addr) (l_n1 : Nat) (l_c1 : Nat) (turns1 : Option Addr) (turns_n1 : Nat) (turns_c1 : Nat) (below1 : Int) (d : Option Addr) (g : Option Addr) (in_ : Option Addr) (in_n : Nat) (in_c : Nat) (R : Value → World → Prop) (w : World) : Prop :=
  glacierlaw4_WalSpans_b6 l8 l_n1 l_c1 turns1 turns_n1 turns_c1 below1 d g in_ in_n in_c 0 R w

def glacierlaw4_WalSpans_b8 (l : Option Addr) (l_n : Nat) (l_c : Nat) (turns : Option Addr) (turns_n : Nat) (turns_c : Nat) (below : Int) (R : Value → World → Prop) (w : World) : Prop :=
  CallR Tryd.prog fn_glacierlaw4_known #[] w fun res w_ =>
  mBool res fun v =>
  Br (!v) (
  R (.bool false) w_) (
  Br (decide ((l_n : Int) > 60)) (
  R (.bool true) w_) (
  CallR Tryd.prog fn_disk_New #[(.int .i64 16777216)] w_ fun res1 w_1 =>
  mTup res1 fun l1 =>
  mCons l1 fun v1 l2 =>
  mPtr v1 fun v2 =>
  mCons l2 fun v3 l3 =>
  mInt .i64 v3 fun v4 =>
  mNil l3 (
  Br (v4 != 0) (
  R (.bool false) w_1) (
  Br (Option.isNone v2) (
  R (.bool false) w_1) (
  CallR Tryd.prog fn_wal_Open #[(.pointer v2), (.string (ByteArray.mk #[119])), (.int .i64 0)] w_1 fun res2 w_2 =>
  mTup res2 fun l4 =>
  mCons l4 fun v5 l5 =>
  mPtr v5 fun v6 =>
  mCons l5 fun v7 l6 =>
  mSlice v7 fun _ _ _ =>
  mCons l6 fun v9 l7 =>
  mInt .i64 v9 fun v10 =>
  mNil l7 (
  Br (v10 != 0) (
  R (.bool false) w_2) (
  Br (Option.isNone v6) (
  R (.bool false) w_2) (
  glacierlaw4_WalSpans_b7 l l_n l_c turns turns_n turns_c below v2 v6 none 0 0 R w_2))))))))

def glacierlaw4_WalSpans_p0 : Point ((Option Addr) × Nat × Nat × (Option Addr) × Nat × Nat × Int × (Option Addr) × (Option Addr) × (Option Addr) × Nat × Nat) := { slots := fun s => [(0, (.slice s.1 s.2.1 s.2.2.1)), (1, (.slice s.2.2.2.1 s.2.2.2.2.1 s.2.2.2.2.2.1)), (2, (.int .i64 s.2.2.2.2.2.2.1)), (7, (.pointer s.2.2.2.2.2.2.2.1)), (9, (.pointer s.2.2.2.2.2.2.2.2.1)), (12, (.slice s.2.2.2.2.2.2.2.2.2.1 s.2.2.2.2.2.2.2.2.2.2.1 s.2.2.2.2.2.2.2.2.2.2.2))], dec := fun r K => mSlice (r 0) fun x x1 x2 => mSlice (r 1) fun x3 x4 x5 => mInt .i64 (r 2) fun x6 => mPtr (r 7) fun x7 => mPtr (r 9) fun x8 => mSlice (r 12) fun x9 x10 x11 => K (x, x1, x2, x3, x4, x5, x6, x7, x8, x9, x10, x11) }
theorem glacierlaw4_WalSpans_p0_ok : glacierlaw4_WalSpans_p0.ok := by
  intro r K h
  unfold glacierlaw4_WalSpans_p0 at h
  obtain ⟨x, x1, x2, e0, h⟩ := mSlice_elim h
  obtain ⟨x3, x4, x5, e1, h⟩ := mSlice_elim h
  obtain ⟨x6, e2, h⟩ := mInt_elim h
  obtain ⟨x7, e3, h⟩ := mPtr_elim h
  obtain ⟨x8, e4, h⟩ := mPtr_elim h
  obtain ⟨x9, x10, x11, e5, h⟩ := mSlice_elim h
  exact ⟨(x, x1, x2, x3, x4, x5, x6, x7, x8, x9, x10, x11), regsOf_self (L := [(0, (.slice x x1 x2)), (1, (.slice x3 x4 x5)), (2, (.int .i64 x6)), (7, (.pointer x7)), (9, (.pointer x8)), (12, (.slice x9 x10 x11))]) (List.forall_mem_cons.2 ⟨e0, List.forall_mem_cons.2 ⟨e1, List.forall_mem_cons.2 ⟨e2, List.forall_mem_cons.2 ⟨e3, List.forall_mem_cons.2 ⟨e4, List.forall_mem_cons.2 ⟨e5, List.forall_mem_nil _⟩⟩⟩⟩⟩⟩), h⟩
theorem glacierlaw4_WalSpans_p0_re (s : (Option Addr) × Nat × Nat × (Option Addr) × Nat × Nat × Int × (Option Addr) × (Option Addr) × (Option Addr) × Nat × Nat) (r : Regs) (K : ((Option Addr) × Nat × Nat × (Option Addr) × Nat × Nat × Int × (Option Addr) × (Option Addr) × (Option Addr) × Nat × Nat) → Prop) (h : K s) : glacierlaw4_WalSpans_p0.dec (regsOf (glacierlaw4_WalSpans_p0.slots s) r) K := by
  obtain ⟨x12, x13, x14, x15, x16, x17, x18, x19, x20, x21, x22, x23⟩ := s
  exact cast (show K (x12, x13, x14, x15, x16, x17, x18, x19, x20, x21, x22, x23) = glacierlaw4_WalSpans_p0.dec (regsOf (glacierlaw4_WalSpans_p0.slots (x12, x13, x14, x15, x16, x17, x18, x19, x20, x21, x22, x23)) r) K by kernel_rfl) h

def glacierlaw4_WalSpans_p1 : Point ((Option Addr) × Nat × Nat × Int × (Option Addr) × (Option Addr) × (Option Addr) × Nat × Nat) := { slots := fun s => [(0, (.slice s.1 s.2.1 s.2.2.1)), (2, (.int .i64 s.2.2.2.1)), (7, (.pointer s.2.2.2.2.1)), (9, (.pointer s.2.2.2.2.2.1)), (12, (.slice s.2.2.2.2.2.2.1 s.2.2.2.2.2.2.2.1 s.2.2.2.2.2.2.2.2))], dec := fun r K => mSlice (r 0) fun x x1 x2 => mInt .i64 (r 2) fun x3 => mPtr (r 7) fun x4 => mPtr (r 9) fun x5 => mSlice (r 12) fun x6 x7 x8 => K (x, x1, x2, x3, x4, x5, x6, x7, x8) }
theorem glacierlaw4_WalSpans_p1_ok : glacierlaw4_WalSpans_p1.ok := by
  intro r K h
  unfold glacierlaw4_WalSpans_p1 at h
  obtain ⟨x, x1, x2, e0, h⟩ := mSlice_elim h
  obtain ⟨x3, e1, h⟩ := mInt_elim h
  obtain ⟨x4, e2, h⟩ := mPtr_elim h
  obtain ⟨x5, e3, h⟩ := mPtr_elim h
  obtain ⟨x6, x7, x8, e4, h⟩ := mSlice_elim h
  exact ⟨(x, x1, x2, x3, x4, x5, x6, x7, x8), regsOf_self (L := [(0, (.slice x x1 x2)), (2, (.int .i64 x3)), (7, (.pointer x4)), (9, (.pointer x5)), (12, (.slice x6 x7 x8))]) (List.forall_mem_cons.2 ⟨e0, List.forall_mem_cons.2 ⟨e1, List.forall_mem_cons.2 ⟨e2, List.forall_mem_cons.2 ⟨e3, List.forall_mem_cons.2 ⟨e4, List.forall_mem_nil _⟩⟩⟩⟩⟩), h⟩
theorem glacierlaw4_WalSpans_p1_re (s : (Option Addr) × Nat × Nat × Int × (Option Addr) × (Option Addr) × (Option Addr) × Nat × Nat) (r : Regs) (K : ((Option Addr) × Nat × Nat × Int × (Option Addr) × (Option Addr) × (Option Addr) × Nat × Nat) → Prop) (h : K s) : glacierlaw4_WalSpans_p1.dec (regsOf (glacierlaw4_WalSpans_p1.slots s) r) K := by
  obtain ⟨x9, x10, x11, x12, x13, x14, x15, x16, x17⟩ := s
  exact cast (show K (x9, x10, x11, x12, x13, x14, x15, x16, x17) = glacierlaw4_WalSpans_p1.dec (regsOf (glacierlaw4_WalSpans_p1.slots (x9, x10, x11, x12, x13, x14, x15, x16, x17)) r) K by kernel_rfl) h

def glacierlaw4_WalSpans_p2 : Point ((Option Addr) × Nat × Nat × Int × (Option Addr) × (Option Addr) × (Option Addr) × Nat × Nat) := { slots := fun s => [(0, (.slice s.1 s.2.1 s.2.2.1)), (2, (.int .i64 s.2.2.2.1)), (7, (.pointer s.2.2.2.2.1)), (9, (.pointer s.2.2.2.2.2.1)), (12, (.slice s.2.2.2.2.2.2.1 s.2.2.2.2.2.2.2.1 s.2.2.2.2.2.2.2.2))], dec := fun r K => mSlice (r 0) fun x x1 x2 => mInt .i64 (r 2) fun x3 => mPtr (r 7) fun x4 => mPtr (r 9) fun x5 => mSlice (r 12) fun x6 x7 x8 => K (x, x1, x2, x3, x4, x5, x6, x7, x8) }
theorem glacierlaw4_WalSpans_p2_ok : glacierlaw4_WalSpans_p2.ok := by
  intro r K h
  unfold glacierlaw4_WalSpans_p2 at h
  obtain ⟨x, x1, x2, e0, h⟩ := mSlice_elim h
  obtain ⟨x3, e1, h⟩ := mInt_elim h
  obtain ⟨x4, e2, h⟩ := mPtr_elim h
  obtain ⟨x5, e3, h⟩ := mPtr_elim h
  obtain ⟨x6, x7, x8, e4, h⟩ := mSlice_elim h
  exact ⟨(x, x1, x2, x3, x4, x5, x6, x7, x8), regsOf_self (L := [(0, (.slice x x1 x2)), (2, (.int .i64 x3)), (7, (.pointer x4)), (9, (.pointer x5)), (12, (.slice x6 x7 x8))]) (List.forall_mem_cons.2 ⟨e0, List.forall_mem_cons.2 ⟨e1, List.forall_mem_cons.2 ⟨e2, List.forall_mem_cons.2 ⟨e3, List.forall_mem_cons.2 ⟨e4, List.forall_mem_nil _⟩⟩⟩⟩⟩), h⟩
theorem glacierlaw4_WalSpans_p2_re (s : (Option Addr) × Nat × Nat × Int × (Option Addr) × (Option Addr) × (Option Addr) × Nat × Nat) (r : Regs) (K : ((Option Addr) × Nat × Nat × Int × (Option Addr) × (Option Addr) × (Option Addr) × Nat × Nat) → Prop) (h : K s) : glacierlaw4_WalSpans_p2.dec (regsOf (glacierlaw4_WalSpans_p2.slots s) r) K := by
  obtain ⟨x9, x10, x11, x12, x13, x14, x15, x16, x17⟩ := s
  exact cast (show K (x9, x10, x11, x12, x13, x14, x15, x16, x17) = glacierlaw4_WalSpans_p2.dec (regsOf (glacierlaw4_WalSpans_p2.slots (x9, x10, x11, x12, x13, x14, x15, x16, x17)) r) K by kernel_rfl) h

def glacierlaw4_WalSpans_p3 : Point ((Option Addr) × Nat × Nat × Int × (Option Addr) × (Option Addr) × Nat × Nat × Int) := { slots := fun s => [(0, (.slice s.1 s.2.1 s.2.2.1)), (2, (.int .i64 s.2.2.2.1)), (7, (.pointer s.2.2.2.2.1)), (12, (.slice s.2.2.2.2.2.1 s.2.2.2.2.2.2.1 s.2.2.2.2.2.2.2.1)), (14, (.int .i64 s.2.2.2.2.2.2.2.2))], dec := fun r K => mSlice (r 0) fun x x1 x2 => mInt .i64 (r 2) fun x3 => mPtr (r 7) fun x4 => mSlice (r 12) fun x5 x6 x7 => mInt .i64 (r 14) fun x8 => K (x, x1, x2, x3, x4, x5, x6, x7, x8) }
theorem glacierlaw4_WalSpans_p3_ok : glacierlaw4_WalSpans_p3.ok := by
  intro r K h
  unfold glacierlaw4_WalSpans_p3 at h
  obtain ⟨x, x1, x2, e0, h⟩ := mSlice_elim h
  obtain ⟨x3, e1, h⟩ := mInt_elim h
  obtain ⟨x4, e2, h⟩ := mPtr_elim h
  obtain ⟨x5, x6, x7, e3, h⟩ := mSlice_elim h
  obtain ⟨x8, e4, h⟩ := mInt_elim h
  exact ⟨(x, x1, x2, x3, x4, x5, x6, x7, x8), regsOf_self (L := [(0, (.slice x x1 x2)), (2, (.int .i64 x3)), (7, (.pointer x4)), (12, (.slice x5 x6 x7)), (14, (.int .i64 x8))]) (List.forall_mem_cons.2 ⟨e0, List.forall_mem_cons.2 ⟨e1, List.forall_mem_cons.2 ⟨e2, List.forall_mem_cons.2 ⟨e3, List.forall_mem_cons.2 ⟨e4, List.forall_mem_nil _⟩⟩⟩⟩⟩), h⟩
theorem glacierlaw4_WalSpans_p3_re (s : (Option Addr) × Nat × Nat × Int × (Option Addr) × (Option Addr) × Nat × Nat × Int) (r : Regs) (K : ((Option Addr) × Nat × Nat × Int × (Option Addr) × (Option Addr) × Nat × Nat × Int) → Prop) (h : K s) : glacierlaw4_WalSpans_p3.dec (regsOf (glacierlaw4_WalSpans_p3.slots s) r) K := by
  obtain ⟨x9, x10, x11, x12, x13, x14, x15, x16, x17⟩ := s
  exact cast (show K (x9, x10, x11, x12, x13, x14, x15, x16, x17) = glacierlaw4_WalSpans_p3.dec (regsOf (glacierlaw4_WalSpans_p3.slots (x9, x10, x11, x12, x13, x14, x15, x16, x17)) r) K by kernel_rfl) h

def glacierlaw4_WalSpans_p4 : Point ((Option Addr) × Nat × Nat × Int × (Option Addr) × Int) := { slots := fun s => [(0, (.slice s.1 s.2.1 s.2.2.1)), (2, (.int .i64 s.2.2.2.1)), (7, (.pointer s.2.2.2.2.1)), (14, (.int .i64 s.2.2.2.2.2))], dec := fun r K => mSlice (r 0) fun x x1 x2 => mInt .i64 (r 2) fun x3 => mPtr (r 7) fun x4 => mInt .i64 (r 14) fun x5 => K (x, x1, x2, x3, x4, x5) }
theorem glacierlaw4_WalSpans_p4_ok : glacierlaw4_WalSpans_p4.ok := by
  intro r K h
  unfold glacierlaw4_WalSpans_p4 at h
  obtain ⟨x, x1, x2, e0, h⟩ := mSlice_elim h
  obtain ⟨x3, e1, h⟩ := mInt_elim h
  obtain ⟨x4, e2, h⟩ := mPtr_elim h
  obtain ⟨x5, e3, h⟩ := mInt_elim h
  exact ⟨(x, x1, x2, x3, x4, x5), regsOf_self (L := [(0, (.slice x x1 x2)), (2, (.int .i64 x3)), (7, (.pointer x4)), (14, (.int .i64 x5))]) (List.forall_mem_cons.2 ⟨e0, List.forall_mem_cons.2 ⟨e1, List.forall_mem_cons.2 ⟨e2, List.forall_mem_cons.2 ⟨e3, List.forall_mem_nil _⟩⟩⟩⟩), h⟩
theorem glacierlaw4_WalSpans_p4_re (s : (Option Addr) × Nat × Nat × Int × (Option Addr) × Int) (r : Regs) (K : ((Option Addr) × Nat × Nat × Int × (Option Addr) × Int) → Prop) (h : K s) : glacierlaw4_WalSpans_p4.dec (regsOf (glacierlaw4_WalSpans_p4.slots s) r) K := by
  obtain ⟨x6, x7, x8, x9, x10, x11⟩ := s
  exact cast (show K (x6, x7, x8, x9, x10, x11) = glacierlaw4_WalSpans_p4.dec (regsOf (glacierlaw4_WalSpans_p4.slots (x6, x7, x8, x9, x10, x11)) r) K by kernel_rfl) h

def glacierlaw4_WalSpans_p5 : Point ((Option Addr) × Nat × Nat × (Option Addr) × Nat × Nat × Int × (Option Addr) × (Option Addr) × (Option Addr) × Nat × Nat × Int) := { slots := fun s => [(0, (.slice s.1 s.2.1 s.2.2.1)), (1, (.slice s.2.2.2.1 s.2.2.2.2.1 s.2.2.2.2.2.1)), (2, (.int .i64 s.2.2.2.2.2.2.1)), (7, (.pointer s.2.2.2.2.2.2.2.1)), (9, (.pointer s.2.2.2.2.2.2.2.2.1)), (12, (.slice s.2.2.2.2.2.2.2.2.2.1 s.2.2.2.2.2.2.2.2.2.2.1 s.2.2.2.2.2.2.2.2.2.2.2.1)), (13, (.int .i64 s.2.2.2.2.2.2.2.2.2.2.2.2))], dec := fun r K => mSlice (r 0) fun x x1 x2 => mSlice (r 1) fun x3 x4 x5 => mInt .i64 (r 2) fun x6 => mPtr (r 7) fun x7 => mPtr (r 9) fun x8 => mSlice (r 12) fun x9 x10 x11 => mInt .i64 (r 13) fun x12 => K (x, x1, x2, x3, x4, x5, x6, x7, x8, x9, x10, x11, x12) }
theorem glacierlaw4_WalSpans_p5_ok : glacierlaw4_WalSpans_p5.ok := by
  intro r K h
  unfold glacierlaw4_WalSpans_p5 at h
  obtain ⟨x, x1, x2, e0, h⟩ := mSlice_elim h
  obtain ⟨x3, x4, x5, e1, h⟩ := mSlice_elim h
  obtain ⟨x6, e2, h⟩ := mInt_elim h
  obtain ⟨x7, e3, h⟩ := mPtr_elim h
  obtain ⟨x8, e4, h⟩ := mPtr_elim h
  obtain ⟨x9, x10, x11, e5, h⟩ := mSlice_elim h
  obtain ⟨x12, e6, h⟩ := mInt_elim h
  exact ⟨(x, x1, x2, x3, x4, x5, x6, x7, x8, x9, x10, x11, x12), regsOf_self (L := [(0, (.slice x x1 x2)), (1, (.slice x3 x4 x5)), (2, (.int .i64 x6)), (7, (.pointer x7)), (9, (.pointer x8)), (12, (.slice x9 x10 x11)), (13, (.int .i64 x12))]) (List.forall_mem_cons.2 ⟨e0, List.forall_mem_cons.2 ⟨e1, List.forall_mem_cons.2 ⟨e2, List.forall_mem_cons.2 ⟨e3, List.forall_mem_cons.2 ⟨e4, List.forall_mem_cons.2 ⟨e5, List.forall_mem_cons.2 ⟨e6, List.forall_mem_nil _⟩⟩⟩⟩⟩⟩⟩), h⟩
theorem glacierlaw4_WalSpans_p5_re (s : (Option Addr) × Nat × Nat × (Option Addr) × Nat × Nat × Int × (Option Addr) × (Option Addr) × (Option Addr) × Nat × Nat × Int) (r : Regs) (K : ((Option Addr) × Nat × Nat × (Option Addr) × Nat × Nat × Int × (Option Addr) × (Option Addr) × (Option Addr) × Nat × Nat × Int) → Prop) (h : K s) : glacierlaw4_WalSpans_p5.dec (regsOf (glacierlaw4_WalSpans_p5.slots s) r) K := by
  obtain ⟨x13, x14, x15, x16, x17, x18, x19, x20, x21, x22, x23, x24, x25⟩ := s
  exact cast (show K (x13, x14, x15, x16, x17, x18, x19, x20, x21, x22, x23, x24, x25) = glacierlaw4_WalSpans_p5.dec (regsOf (glacierlaw4_WalSpans_p5.slots (x13, x14, x15, x16, x17, x18, x19, x20, x21, x22, x23, x24, x25)) r) K by kernel_rfl) h

set_option maxRecDepth 100000 in
theorem glacierlaw4_WalSpans_sound (l : Option Addr) (l_n : Nat) (l_c : Nat) (turns : Option Addr) (turns_n : Nat) (turns_c : Nat) (below : Int) (R : Value → World → Prop) (w : World) (h : glacierlaw4_WalSpans_b8 l l_n l_c turns turns_n turns_c below R w) :
    CallR Tryd.prog fn_glacierlaw4_WalSpans #[(.slice l l_n l_c), (.slice turns turns_n turns_c), (.int .i64 below)] w R := by
  refine CallR_intro (args := [(.slice l l_n l_c), (.slice turns turns_n turns_c), (.int .i64 below)]) Tryd.func6 rfl (Nat.le_of_ble_eq_true (by kernel_rfl)) ?_
  refine Wp_glue glacierlaw4_WalSpans_p0 (fun s w => glacierlaw4_WalSpans_b7 s.1 s.2.1 s.2.2.1 s.2.2.2.1 s.2.2.2.2.1 s.2.2.2.2.2.1 s.2.2.2.2.2.2.1 s.2.2.2.2.2.2.2.1 s.2.2.2.2.2.2.2.2.1 s.2.2.2.2.2.2.2.2.2.1 s.2.2.2.2.2.2.2.2.2.2.1 s.2.2.2.2.2.2.2.2.2.2.2 R w) [_, _, _, _, _, _, _, _] (Q0 := fun e _ r w => match e with | .normal => glacierlaw4_WalSpans_p0.dec r (fun s => glacierlaw4_WalSpans_b7 s.1 s.2.1 s.2.2.1 s.2.2.2.1 s.2.2.2.2.1 s.2.2.2.2.2.1 s.2.2.2.2.2.2.1 s.2.2.2.2.2.2.2.1 s.2.2.2.2.2.2.2.2.1 s.2.2.2.2.2.2.2.2.2.1 s.2.2.2.2.2.2.2.2.2.2.1 s.2.2.2.2.2.2.2.2.2.2.2 R w) | .exit _ => False | .ret => retQ Tryd.prog Tryd.f6.results R .ret [] r w | _ => False) h (by kernel_rfl) (fun s r w h => ?_) glacierlaw4_WalSpans_p0_ok (fun _ _ _ h => h) ?_
  · obtain ⟨l8, l_n1, l_c1, turns1, turns_n1, turns_c1, below1, d, g, in_, in_n, in_c⟩ := s
    have h : glacierlaw4_WalSpans_b7 l8 l_n1 l_c1 turns1 turns_n1 turns_c1 below1 d g in_ in_n in_c R w := h
    refine Wp_seq_via glacierlaw4_WalSpans_p1 (fun s w => glacierlaw4_WalSpans_b4 s.1 s.2.1 s.2.2.1 s.2.2.2.1 s.2.2.2.2.1 s.2.2.2.2.2.1 s.2.2.2.2.2.2.1 s.2.2.2.2.2.2.2.1 s.2.2.2.2.2.2.2.2 R w) (fun s r w h => ?_) (fun hN1 => ?_)
    · obtain ⟨l11, l_n4, l_c4, below4, d3, g3, in_3, in_n3, in_c3⟩ := s
      have h : glacierlaw4_WalSpans_b4 l11 l_n4 l_c4 below4 d3 g3 in_3 in_n3 in_c3 R w := h
      refine Wp_glue glacierlaw4_WalSpans_p2 (fun s w => glacierlaw4_WalSpans_b3 s.1 s.2.1 s.2.2.1 s.2.2.2.1 s.2.2.2.2.1 s.2.2.2.2.2.1 s.2.2.2.2.2.2.1 s.2.2.2.2.2.2.2.1 s.2.2.2.2.2.2.2.2 R w) [_, _] (Q0 := fun e _ r w => match e with | .normal => glacierlaw4_WalSpans_p2.dec r (fun s => glacierlaw4_WalSpans_b3 s.1 s.2.1 s.2.2.1 s.2.2.2.1 s.2.2.2.2.1 s.2.2.2.2.2.1 s.2.2.2.2.2.2.1 s.2.2.2.2.2.2.2.1 s.2.2.2.2.2.2.2.2 R w) | .exit _ => False | .ret => retQ Tryd.prog Tryd.f6.results R .ret [] r w | _ => False) h (by kernel_rfl) (fun s r w h => ?_) glacierlaw4_WalSpans_p2_ok (fun _ _ _ h => h) ?_
      · obtain ⟨l12, l_n5, l_c5, below5, d4, g4, in_4, in_n4, in_c4⟩ := s
        have h : glacierlaw4_WalSpans_b3 l12 l_n5 l_c5 below5 d4 g4 in_4 in_n4 in_c4 R w := h
        refine Wp_glue glacierlaw4_WalSpans_p3 (fun s w => glacierlaw4_WalSpans_b2 s.1 s.2.1 s.2.2.1 s.2.2.2.1 s.2.2.2.2.1 s.2.2.2.2.2.1 s.2.2.2.2.2.2.1 s.2.2.2.2.2.2.2.1 s.2.2.2.2.2.2.2.2 R w) [_, _] (Q0 := fun e _ r w => match e with | .normal => glacierlaw4_WalSpans_p3.dec r (fun s => glacierlaw4_WalSpans_b2 s.1 s.2.1 s.2.2.1 s.2.2.2.1 s.2.2.2.2.1 s.2.2.2.2.2.1 s.2.2.2.2.2.2.1 s.2.2.2.2.2.2.2.1 s.2.2.2.2.2.2.2.2 R w) | .exit _ => False | .ret => retQ Tryd.prog Tryd.f6.results R .ret [] r w | _ => False) h (by kernel_rfl) (fun s r w h => ?_) glacierlaw4_WalSpans_p3_ok (fun _ _ _ h => h) ?_
        · obtain ⟨l13, l_n6, l_c6, below6, d5, in_5, in_n5, in_c5, n⟩ := s
          have h : glacierlaw4_WalSpans_b2 l13 l_n6 l_c6 below6 d5 in_5 in_n5 in_c5 n R w := h
          refine Wp_seq_via glacierlaw4_WalSpans_p4 (fun s w => glacierlaw4_WalSpans_b0 s.1 s.2.1 s.2.2.1 s.2.2.2.1 s.2.2.2.2.1 s.2.2.2.2.2 R w) (fun s r w h => ?_) (fun hN2 => ?_)
          · obtain ⟨l15, l_n8, l_c8, below8, d7, n2⟩ := s
            have h : glacierlaw4_WalSpans_b0 l15 l_n8 l_c8 below8 d7 n2 R w := h
            refine Wp_leaf_end (Q0 := fun e _ r w => match e with | .normal => retQ Tryd.prog Tryd.f6.results R .normal [] r w | .exit _ => False | .ret => retQ Tryd.prog Tryd.f6.results R .ret [] r w | _ => False) h (by kernel_rfl) ?_
            intro e _ r w h
            cases e with
            | normal => exact h
            | exit i => exact h.elim
            | ret => exact h
            | goto i => exact h.elim
            | panic c => exact h.elim
            | outgrown => exact h.elim
          · refine Wp_block_via glacierlaw4_WalSpans_p4 (fun s w => glacierlaw4_WalSpans_b0 s.1 s.2.1 s.2.2.1 s.2.2.2.1 s.2.2.2.2.1 s.2.2.2.2.2 R w) hN2 (fun hX3 => ?_)
            refine Wp_loop (p := glacierlaw4_WalSpans_p3) glacierlaw4_WalSpans_p3_ok (fun s r w K0 h => ?_) h
            obtain ⟨l14, l_n7, l_c7, below7, d6, in_6, in_n6, in_c6, n1⟩ := s
            have h : glacierlaw4_WalSpans_b1 l14 l_n7 l_c7 below7 d6 in_6 in_n6 in_c6 n1 K0 R w := h
            have hK4 := fun (s : (Option Addr) × Nat × Nat × Int × (Option Addr) × (Option Addr) × Nat × Nat × Int) (r : Regs) (w : World) (h : K0 s w) => glacierlaw4_WalSpans_p3_re s r (fun s => K0 s w) h
            refine Wp_leaf_end (Q0 := fun e _ r w => match e with | .normal => glacierlaw4_WalSpans_p3.dec r (fun s => K0 s w) | .exit i => exitQ i 2 (glacierlaw4_WalSpans_p4.dec r (fun s => glacierlaw4_WalSpans_b0 s.1 s.2.1 s.2.2.1 s.2.2.2.1 s.2.2.2.2.1 s.2.2.2.2.2 R w)) (False) | .ret => retQ Tryd.prog Tryd.f6.results R .ret [] r w | _ => False) h (by kernel_rfl) ?_
            intro e _ r w h
            cases e with
            | normal =>
              obtain ⟨s, hs, h⟩ := glacierlaw4_WalSpans_p3_ok _ _ h
              rw [← hs]
              exact hK4 s r w h
            | exit i =>
              rcases exitQ_elim h with ⟨rfl, h⟩ | ⟨_, h⟩
              · obtain ⟨s, hs, h⟩ := glacierlaw4_WalSpans_p4_ok _ _ h
                rw [← hs]
                exact hX3 s r w h
              exact h.elim
            | ret => exact h
            | goto i => exact h.elim
            | panic c => exact h.elim
            | outgrown => exact h.elim
        · intro e _ r w hne h
          cases e with
          | normal => exact absurd rfl hne
          | exit i => exact h.elim
          | ret => exact h
          | goto i => exact h.elim
          | panic c => exact h.elim
          | outgrown => exact h.elim
      · intro e _ r w hne h
        cases e with
        | normal => exact absurd rfl hne
        | exit i => exact h.elim
        | ret => exact h
        | goto i => exact h.elim
        | panic c => exact h.elim
        | outgrown => exact h.elim
    · refine Wp_glue glacierlaw4_WalSpans_p5 (fun s w => glacierlaw4_WalSpans_b6 s.1 s.2.1 s.2.2.1 s.2.2.2.1 s.2.2.2.2.1 s.2.2.2.2.2.1 s.2.2.2.2.2.2.1 s.2.2.2.2.2.2.2.1 s.2.2.2.2.2.2.2.2.1 s.2.2.2.2.2.2.2.2.2.1 s.2.2.2.2.2.2.2.2.2.2.1 s.2.2.2.2.2.2.2.2.2.2.2.1 s.2.2.2.2.2.2.2.2.2.2.2.2 R w) [_] (Q0 := fun e _ r w => match e with | .normal => glacierlaw4_WalSpans_p5.dec r (fun s => glacierlaw4_WalSpans_b6 s.1 s.2.1 s.2.2.1 s.2.2.2.1 s.2.2.2.2.1 s.2.2.2.2.2.1 s.2.2.2.2.2.2.1 s.2.2.2.2.2.2.2.1 s.2.2.2.2.2.2.2.2.1 s.2.2.2.2.2.2.2.2.2.1 s.2.2.2.2.2.2.2.2.2.2.1 s.2.2.2.2.2.2.2.2.2.2.2.1 s.2.2.2.2.2.2.2.2.2.2.2.2 R w) | .exit _ => False | .ret => retQ Tryd.prog Tryd.f6.results R .ret [] r w | _ => False) h (by kernel_rfl) (fun s r w h => ?_) glacierlaw4_WalSpans_p5_ok (fun _ _ _ h => h) ?_
      · obtain ⟨l9, l_n2, l_c2, turns2, turns_n2, turns_c2, below2, d1, g1, in_1, in_n1, in_c1, i⟩ := s
        have h : glacierlaw4_WalSpans_b6 l9 l_n2 l_c2 turns2 turns_n2 turns_c2 below2 d1 g1 in_1 in_n1 in_c1 i R w := h
        refine Wp_block_via glacierlaw4_WalSpans_p1 (fun s w => glacierlaw4_WalSpans_b4 s.1 s.2.1 s.2.2.1 s.2.2.2.1 s.2.2.2.2.1 s.2.2.2.2.2.1 s.2.2.2.2.2.2.1 s.2.2.2.2.2.2.2.1 s.2.2.2.2.2.2.2.2 R w) hN1 (fun hX5 => ?_)
        refine Wp_loop (p := glacierlaw4_WalSpans_p5) glacierlaw4_WalSpans_p5_ok (fun s r w K0 h => ?_) h
        obtain ⟨l10, l_n3, l_c3, turns3, turns_n3, turns_c3, below3, d2, g2, in_2, in_n2, in_c2, i1⟩ := s
        have h : glacierlaw4_WalSpans_b5 l10 l_n3 l_c3 turns3 turns_n3 turns_c3 below3 d2 g2 in_2 in_n2 in_c2 i1 K0 R w := h
        have hK6 := fun (s : (Option Addr) × Nat × Nat × (Option Addr) × Nat × Nat × Int × (Option Addr) × (Option Addr) × (Option Addr) × Nat × Nat × Int) (r : Regs) (w : World) (h : K0 s w) => glacierlaw4_WalSpans_p5_re s r (fun s => K0 s w) h
        refine Wp_leaf_end (Q0 := fun e _ r w => match e with | .normal => glacierlaw4_WalSpans_p5.dec r (fun s => K0 s w) | .exit i => exitQ i 0 (glacierlaw4_WalSpans_p1.dec r (fun s => glacierlaw4_WalSpans_b4 s.1 s.2.1 s.2.2.1 s.2.2.2.1 s.2.2.2.2.1 s.2.2.2.2.2.1 s.2.2.2.2.2.2.1 s.2.2.2.2.2.2.2.1 s.2.2.2.2.2.2.2.2 R w)) (False) | .ret => retQ Tryd.prog Tryd.f6.results R .ret [] r w | _ => False) h (by kernel_rfl) ?_
        intro e _ r w h
        cases e with
        | normal =>
          obtain ⟨s, hs, h⟩ := glacierlaw4_WalSpans_p5_ok _ _ h
          rw [← hs]
          exact hK6 s r w h
        | exit i =>
          rcases exitQ_elim h with ⟨rfl, h⟩ | ⟨_, h⟩
          · obtain ⟨s, hs, h⟩ := glacierlaw4_WalSpans_p1_ok _ _ h
            rw [← hs]
            exact hX5 s r w h
          exact h.elim
        | ret => exact h
        | goto i => exact h.elim
        | panic c => exact h.elim
        | outgrown => exact h.elim
      · intro e _ r w hne h
        cases e with
        | normal => exact absurd rfl hne
        | exit i => exact h.elim
        | ret => exact h
        | goto i => exact h.elim
        | panic c => exact h.elim
        | outgrown => exact h.elim
  · intro e _ r w hne h
    cases e with
    | normal => exact absurd rfl hne
    | exit i => exact h.elim
    | ret => exact h
    | goto i => exact h.elim
    | panic c => exact h.elim
    | outgrown => exact h.elim

end Go.Proofs.YtnhjcjnjpciifaaDoor
