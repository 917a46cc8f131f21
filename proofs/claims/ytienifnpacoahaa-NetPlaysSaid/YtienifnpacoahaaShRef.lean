/- Printed by a program of this claim: the shallow readings of functions, and that they are sound. -/
import Derived.Test.YtienifnpacoahaaShNames
namespace Go.Proofs.Ytienifnpacoahaa
open Go.Sh

/- glacier/glacierref3.New -/
def glacierref3_New_b0 (nodes : Int) (bound : Int) (R : Value → World → Prop) (w : World) : Prop :=
  Br (decide (nodes < 1)) (
  R (.tuple #[(.pointer none), (.int .i64 1)]) w) (
  Br (decide (nodes > 16)) (
  R (.tuple #[(.pointer none), (.int .i64 1)]) w) (
  Br (decide (bound < 1)) (
  R (.tuple #[(.pointer none), (.int .i64 1)]) w) (
  Br (decide (bound > 65536)) (
  R (.tuple #[(.pointer none), (.int .i64 1)]) w) (
  AL w (.cells #[(.int .i64 nodes), (.int .i64 bound), (.int .i64 0), (.slice none 0 0)] 61) fun p w_ =>
  R (.tuple #[(.pointer (some p)), (.int .i64 0)]) w_))))

theorem glacierref3_New_sound (nodes : Int) (bound : Int) (R : Value → World → Prop) (w : World) (h : glacierref3_New_b0 nodes bound R w) :
    CallR Try.prog fn_glacierref3_New #[(.int .i64 nodes), (.int .i64 bound)] w R := by
  refine CallR_intro (args := [(.int .i64 nodes), (.int .i64 bound)]) Try.func14 rfl (Nat.le_of_ble_eq_true (by kernel_rfl)) ?_
  refine Wp_leaf_end (Q0 := fun e _ r w => match e with | .normal => retQ Try.prog Try.f14.results R .normal [] r w | .exit _ => False | .ret => retQ Try.prog Try.f14.results R .ret [] r w | _ => False) h (by kernel_rfl) ?_
  intro e _ r w h
  cases e with
  | normal => exact h
  | exit i => exact h.elim
  | ret => exact h
  | goto i => exact h.elim
  | panic c => exact h.elim
  | outgrown => exact h.elim

/- (*glacier/glacierref3.Net).Count -/
def glacierref3_Net_Count_b0 (k3 : Int) (R : Value → World → Prop) (w : World) : Prop :=
  R (.int .i64 k3) w

def glacierref3_Net_Count_b1 (n3 : Option Addr) (from_3 : Int) (to3 : Int) (k2 : Int) (i1 : Int) (K0 : ((Option Addr) × Int × Int × Int × Int) → World → Prop) (R : Value → World → Prop) (w : World) : Prop :=
  NN n3 fun p =>
  LDSl w (Addr.add p 3) fun _ v_n _ =>
  Br (decide (i1 < (v_n : Int))) (
  NN n3 fun p1 =>
  LDSl w (Addr.add p1 3) fun v1 v_n1 _ =>
  IX v1 v_n1 i1 3 fun a =>
  LDI .i64 w a fun v2 =>
  Br (v2 == from_3) (
  NN n3 fun p2 =>
  LDSl w (Addr.add p2 3) fun v3 v_n2 _ =>
  IX v3 v_n2 i1 3 fun a1 =>
  LDI .i64 w (Addr.add a1 1) fun v4 =>
  Br (v4 == to3) (
  K0 (n3, from_3, to3, IntKind.wrap .i64 (k2 + 1), IntKind.wrap .i64 (i1 + 1)) w) (
  K0 (n3, from_3, to3, k2, IntKind.wrap .i64 (i1 + 1)) w)) (
  K0 (n3, from_3, to3, k2, IntKind.wrap .i64 (i1 + 1)) w)) (
  glacierref3_Net_Count_b0 k2 R w)

def glacierref3_Net_Count_b2 (n2 : Option Addr) (from_2 : Int) (to2 : Int) (k1 : Int) (i : Int) (R : Value → World → Prop) (w : World) : Prop :=
  LoopS (σ := (Option Addr) × Int × Int × Int × Int) (fun s w K0 =>
  glacierref3_Net_Count_b1 s.1 s.2.1 s.2.2.1 s.2.2.2.1 s.2.2.2.2 K0 R w) (n2, from_2, to2, k1, i) w

def glacierref3_Net_Count_b3 (n1 : Option Addr) (from_1 : Int) (to1 : Int) (k : Int) (R : Value → World → Prop) (w : World) : Prop :=
  glacierref3_Net_Count_b2 n1 from_1 to1 k 0 R w

def glacierref3_Net_Count_b4 (n : Option Addr) (from_ : Int) (to : Int) (R : Value → World → Prop) (w : World) : Prop :=
  glacierref3_Net_Count_b3 n from_ to 0 R w

def glacierref3_Net_Count_p0 : Point ((Option Addr) × Int × Int × Int) := { slots := fun s => [(0, (.pointer s.1)), (1, (.int .i64 s.2.1)), (2, (.int .i64 s.2.2.1)), (7, (.int .i64 s.2.2.2))], dec := fun r K => mPtr (r 0) fun x => mInt .i64 (r 1) fun x1 => mInt .i64 (r 2) fun x2 => mInt .i64 (r 7) fun x3 => K (x, x1, x2, x3) }
theorem glacierref3_Net_Count_p0_ok : glacierref3_Net_Count_p0.ok := by
  intro r K h
  unfold glacierref3_Net_Count_p0 at h
  obtain ⟨x, e0, h⟩ := mPtr_elim h
  obtain ⟨x1, e1, h⟩ := mInt_elim h
  obtain ⟨x2, e2, h⟩ := mInt_elim h
  obtain ⟨x3, e3, h⟩ := mInt_elim h
  exact ⟨(x, x1, x2, x3), regsOf_self (L := [(0, (.pointer x)), (1, (.int .i64 x1)), (2, (.int .i64 x2)), (7, (.int .i64 x3))]) (List.forall_mem_cons.2 ⟨e0, List.forall_mem_cons.2 ⟨e1, List.forall_mem_cons.2 ⟨e2, List.forall_mem_cons.2 ⟨e3, List.forall_mem_nil _⟩⟩⟩⟩), h⟩
theorem glacierref3_Net_Count_p0_re (s : (Option Addr) × Int × Int × Int) (r : Regs) (K : ((Option Addr) × Int × Int × Int) → Prop) (h : K s) : glacierref3_Net_Count_p0.dec (regsOf (glacierref3_Net_Count_p0.slots s) r) K := by
  obtain ⟨x4, x5, x6, x7⟩ := s
  exact cast (show K (x4, x5, x6, x7) = glacierref3_Net_Count_p0.dec (regsOf (glacierref3_Net_Count_p0.slots (x4, x5, x6, x7)) r) K by kernel_rfl) h

def glacierref3_Net_Count_p1 : Point (Int) := { slots := fun s => [(7, (.int .i64 s))], dec := fun r K => mInt .i64 (r 7) fun x => K x }
theorem glacierref3_Net_Count_p1_ok : glacierref3_Net_Count_p1.ok := by
  intro r K h
  unfold glacierref3_Net_Count_p1 at h
  obtain ⟨x, e0, h⟩ := mInt_elim h
  exact ⟨x, regsOf_self (L := [(7, (.int .i64 x))]) (List.forall_mem_cons.2 ⟨e0, List.forall_mem_nil _⟩), h⟩
theorem glacierref3_Net_Count_p1_re (s : Int) (r : Regs) (K : Int → Prop) (h : K s) : glacierref3_Net_Count_p1.dec (regsOf (glacierref3_Net_Count_p1.slots s) r) K := by
  exact cast (show K s = glacierref3_Net_Count_p1.dec (regsOf (glacierref3_Net_Count_p1.slots s) r) K by kernel_rfl) h

def glacierref3_Net_Count_p2 : Point ((Option Addr) × Int × Int × Int × Int) := { slots := fun s => [(0, (.pointer s.1)), (1, (.int .i64 s.2.1)), (2, (.int .i64 s.2.2.1)), (7, (.int .i64 s.2.2.2.1)), (8, (.int .i64 s.2.2.2.2))], dec := fun r K => mPtr (r 0) fun x => mInt .i64 (r 1) fun x1 => mInt .i64 (r 2) fun x2 => mInt .i64 (r 7) fun x3 => mInt .i64 (r 8) fun x4 => K (x, x1, x2, x3, x4) }
theorem glacierref3_Net_Count_p2_ok : glacierref3_Net_Count_p2.ok := by
  intro r K h
  unfold glacierref3_Net_Count_p2 at h
  obtain ⟨x, e0, h⟩ := mPtr_elim h
  obtain ⟨x1, e1, h⟩ := mInt_elim h
  obtain ⟨x2, e2, h⟩ := mInt_elim h
  obtain ⟨x3, e3, h⟩ := mInt_elim h
  obtain ⟨x4, e4, h⟩ := mInt_elim h
  exact ⟨(x, x1, x2, x3, x4), regsOf_self (L := [(0, (.pointer x)), (1, (.int .i64 x1)), (2, (.int .i64 x2)), (7, (.int .i64 x3)), (8, (.int .i64 x4))]) (List.forall_mem_cons.2 ⟨e0, List.forall_mem_cons.2 ⟨e1, List.forall_mem_cons.2 ⟨e2, List.forall_mem_cons.2 ⟨e3, List.forall_mem_cons.2 ⟨e4, List.forall_mem_nil _⟩⟩⟩⟩⟩), h⟩
theorem glacierref3_Net_Count_p2_re (s : (Option Addr) × Int × Int × Int × Int) (r : Regs) (K : ((Option Addr) × Int × Int × Int × Int) → Prop) (h : K s) : glacierref3_Net_Count_p2.dec (regsOf (glacierref3_Net_Count_p2.slots s) r) K := by
  obtain ⟨x5, x6, x7, x8, x9⟩ := s
  exact cast (show K (x5, x6, x7, x8, x9) = glacierref3_Net_Count_p2.dec (regsOf (glacierref3_Net_Count_p2.slots (x5, x6, x7, x8, x9)) r) K by kernel_rfl) h

theorem glacierref3_Net_Count_sound (n : Option Addr) (from_ : Int) (to : Int) (R : Value → World → Prop) (w : World) (h : glacierref3_Net_Count_b4 n from_ to R w) :
    CallR Try.prog fn_glacierref3_Net_Count #[(.pointer n), (.int .i64 from_), (.int .i64 to)] w R := by
  refine CallR_intro (args := [(.pointer n), (.int .i64 from_), (.int .i64 to)]) Try.func29 rfl (Nat.le_of_ble_eq_true (by kernel_rfl)) ?_
  refine Wp_glue glacierref3_Net_Count_p0 (fun s w => glacierref3_Net_Count_b3 s.1 s.2.1 s.2.2.1 s.2.2.2 R w) [_, _] (Q0 := fun e _ r w => match e with | .normal => glacierref3_Net_Count_p0.dec r (fun s => glacierref3_Net_Count_b3 s.1 s.2.1 s.2.2.1 s.2.2.2 R w) | .exit _ => False | .ret => retQ Try.prog Try.f29.results R .ret [] r w | _ => False) h (by kernel_rfl) (fun s r w h => ?_) glacierref3_Net_Count_p0_ok (fun _ _ _ h => h) ?_
  · obtain ⟨n1, from_1, to1, k⟩ := s
    have h : glacierref3_Net_Count_b3 n1 from_1 to1 k R w := h
    refine Wp_seq_via glacierref3_Net_Count_p1 (fun s w => glacierref3_Net_Count_b0 s R w) (fun s r w h => ?_) (fun hN1 => ?_)
    · obtain ⟨k3, rfl⟩ : ∃ y, y = s := ⟨s, rfl⟩
      have h : glacierref3_Net_Count_b0 k3 R w := h
      refine Wp_leaf_end (Q0 := fun e _ r w => match e with | .normal => retQ Try.prog Try.f29.results R .normal [] r w | .exit _ => False | .ret => retQ Try.prog Try.f29.results R .ret [] r w | _ => False) h (by kernel_rfl) ?_
      intro e _ r w h
      cases e with
      | normal => exact h
      | exit i => exact h.elim
      | ret => exact h
      | goto i => exact h.elim
      | panic c => exact h.elim
      | outgrown => exact h.elim
    · refine Wp_glue glacierref3_Net_Count_p2 (fun s w => glacierref3_Net_Count_b2 s.1 s.2.1 s.2.2.1 s.2.2.2.1 s.2.2.2.2 R w) [_] (Q0 := fun e _ r w => match e with | .normal => glacierref3_Net_Count_p2.dec r (fun s => glacierref3_Net_Count_b2 s.1 s.2.1 s.2.2.1 s.2.2.2.1 s.2.2.2.2 R w) | .exit _ => False | .ret => retQ Try.prog Try.f29.results R .ret [] r w | _ => False) h (by kernel_rfl) (fun s r w h => ?_) glacierref3_Net_Count_p2_ok (fun _ _ _ h => h) ?_
      · obtain ⟨n2, from_2, to2, k1, i⟩ := s
        have h : glacierref3_Net_Count_b2 n2 from_2 to2 k1 i R w := h
        refine Wp_block_via glacierref3_Net_Count_p1 (fun s w => glacierref3_Net_Count_b0 s R w) hN1 (fun hX2 => ?_)
        refine Wp_loop (p := glacierref3_Net_Count_p2) glacierref3_Net_Count_p2_ok (fun s r w K0 h => ?_) h
        obtain ⟨n3, from_3, to3, k2, i1⟩ := s
        have h : glacierref3_Net_Count_b1 n3 from_3 to3 k2 i1 K0 R w := h
        have hK3 := fun (s : (Option Addr) × Int × Int × Int × Int) (r : Regs) (w : World) (h : K0 s w) => glacierref3_Net_Count_p2_re s r (fun s => K0 s w) h
        refine Wp_leaf_end (Q0 := fun e _ r w => match e with | .normal => glacierref3_Net_Count_p2.dec r (fun s => K0 s w) | .exit i => exitQ i 0 (glacierref3_Net_Count_p1.dec r (fun s => glacierref3_Net_Count_b0 s R w)) (False) | .ret => retQ Try.prog Try.f29.results R .ret [] r w | _ => False) h (by kernel_rfl) ?_
        intro e _ r w h
        cases e with
        | normal =>
          obtain ⟨s, hs, h⟩ := glacierref3_Net_Count_p2_ok _ _ h
          rw [← hs]
          exact hK3 s r w h
        | exit i =>
          rcases exitQ_elim h with ⟨rfl, h⟩ | ⟨_, h⟩
          · obtain ⟨s, hs, h⟩ := glacierref3_Net_Count_p1_ok _ _ h
            rw [← hs]
            exact hX2 s r w h
          exact h.elim
        | ret => exact h
        | goto i => exact h.elim
        | panic c => exact h.elim
        | outgrown => exact h.elim
      · intro e _ r w hne h
        cases e with
        | normal => exact absurd rfl hne
        | exit i => exact h.elim
        | ret => exact h
        | goto i => exact h.elim
        | panic c => exact h.elim
        | outgrown => exact h.elim
  · intro e _ r w hne h
    cases e with
    | normal => exact absurd rfl hne
    | exit i => exact h.elim
    | ret => exact h
    | goto i => exact h.elim
    | panic c => exact h.elim
    | outgrown => exact h.elim

/- (*glacier/glacierref3.Net).lay -/
def glacierref3_Net_lay_b0 (n : Option Addr) (m_From : Int) (m_To : Int) (m_Bytes : Option Addr) (m_Bytes_n : Nat) (m_Bytes_c : Nat) (R : Value → World → Prop) (w : World) : Prop :=
  AL w (.cells #[(.int .i64 m_From), (.int .i64 m_To), (.slice m_Bytes m_Bytes_n m_Bytes_c)] 31) fun m w_ =>
  LetW (World.drew w_) fun w_1 =>
  LDI .i64 w_1 m fun v =>
  Br (decide (v < 0)) (
  R (.bool false) w_1) (
  LDI .i64 w_1 m fun v1 =>
  NN n fun p =>
  LDI .i64 w_1 p fun v2 =>
  Br (decide (v1 ≥ v2)) (
  R (.bool false) w_1) (
  LDI .i64 w_1 (Addr.add m 1) fun v3 =>
  Br (decide (v3 < 0)) (
  R (.bool false) w_1) (
  LDI .i64 w_1 (Addr.add m 1) fun v4 =>
  NN n fun p1 =>
  LDI .i64 w_1 p1 fun v5 =>
  Br (decide (v4 ≥ v5)) (
  R (.bool false) w_1) (
  LDI .i64 w_1 m fun v6 =>
  LDI .i64 w_1 (Addr.add m 1) fun v7 =>
  NN n fun p2 =>
  LDI .i64 w_1 (Addr.add p2 1) fun v8 =>
  CallR Try.prog fn_glacierref3_Net_Count #[(.pointer n), (.int .i64 v6), (.int .i64 v7)] w_1 fun res w_2 =>
  mInt .i64 res fun v9 =>
  (World.cell? w_2 (Addr.add p2 1) = some (.int .i64 v8) ∧ 
  Br (decide (v9 ≥ v8)) (
  R (.bool false) w_2) (
  AL w_2 (.cells #[] 5) fun b w_3 =>
  LDSl w_3 (Addr.add m 2) fun v10 v_n v_c =>
  rRun Try.prog (Builtin.append_ #[22, 22] 22 #[(.slice (some b) 0 0), (.slice v10 v_n v_c)]) w_3 fun sr w_4 =>
  mSlice sr fun v11 v_n1 v_c1 =>
  ST w_4 (Addr.add m 2) (.slice v11 v_n1 v_c1) fun w_5 =>
  LetW (World.drew w_5) fun w_6 =>
  NN n fun p3 =>
  LDSl w_6 (Addr.add p3 3) fun v12 v_n2 v_c2 =>
  LDI .i64 w_6 m fun From =>
  LDI .i64 w_6 (Addr.add m 1) fun To =>
  LDSl w_6 (Addr.add m 2) fun Bytes Bytes_n Bytes_c =>
  AL w_6 (.cells #[(.int .i64 From), (.int .i64 To), (.slice Bytes Bytes_n Bytes_c)] 31) fun b1 w_7 =>
  (World.cell? w_7 (Addr.add p3 3) = some (.slice v12 v_n2 v_c2) ∧ 
  rRun Try.prog (Builtin.append_ #[59, 59] 59 #[(.slice v12 v_n2 v_c2), (.slice (some b1) 1 1)]) w_7 fun sr1 w_8 =>
  mSlice sr1 fun v13 v_n3 v_c3 =>
  NN n fun p4 =>
  ST w_8 (Addr.add p4 3) (.slice v13 v_n3 v_c3) fun w_9 =>
  R (.bool true) w_9)))))))

theorem glacierref3_Net_lay_sound (n : Option Addr) (m_From : Int) (m_To : Int) (m_Bytes : Option Addr) (m_Bytes_n : Nat) (m_Bytes_c : Nat) (R : Value → World → Prop) (w : World) (h : glacierref3_Net_lay_b0 n m_From m_To m_Bytes m_Bytes_n m_Bytes_c R w) :
    CallR Try.prog fn_glacierref3_Net_lay #[(.pointer n), (.agg #[(.int .i64 m_From), (.int .i64 m_To), (.slice m_Bytes m_Bytes_n m_Bytes_c)])] w R := by
  refine CallR_intro (args := [(.pointer n), (.agg #[(.int .i64 m_From), (.int .i64 m_To), (.slice m_Bytes m_Bytes_n m_Bytes_c)])]) Try.func33 rfl (Nat.le_of_ble_eq_true (by kernel_rfl)) ?_
  refine Wp_leaf_end (Q0 := fun e _ r w => match e with | .normal => retQ Try.prog Try.f33.results R .normal [] r w | .exit _ => False | .ret => retQ Try.prog Try.f33.results R .ret [] r w | _ => False) h (by kernel_rfl) ?_
  intro e _ r w h
  cases e with
  | normal => exact h
  | exit i => exact h.elim
  | ret => exact h
  | goto i => exact h.elim
  | panic c => exact h.elim
  | outgrown => exact h.elim

/- (*glacier/glacierref3.Net).Send -/
def glacierref3_Net_Send_b0 (k3 : Int) (R : Value → World → Prop) (w : World) : Prop :=
  R (.int .i64 k3) w

def glacierref3_Net_Send_b1 (n3 : Option Addr) (from_3 : Int) (b3 : Option Addr) (b_n3 : Nat) (b_c3 : Nat) (to3 : Option Addr) (to_n3 : Nat) (to_c3 : Nat) (k2 : Int) (i1 : Int) (K0 : ((Option Addr) × Int × (Option Addr) × Nat × Nat × (Option Addr) × Nat × Nat × Int × Int) → World → Prop) (R : Value → World → Prop) (w : World) : Prop :=
  Br (decide (i1 < (to_n3 : Int))) (
  IX to3 to_n3 i1 1 fun a =>
  LDI .i64 w a fun v =>
  CallR Try.prog fn_glacierref3_Net_lay #[(.pointer n3), (.agg #[(.int .i64 from_3), (.int .i64 v), (.slice b3 b_n3 b_c3)])] w fun res w_ =>
  mBool res fun v1 =>
  Br v1 (
  K0 (n3, from_3, b3, b_n3, b_c3, to3, to_n3, to_c3, IntKind.wrap .i64 (k2 + 1), IntKind.wrap .i64 (i1 + 1)) w_) (
  K0 (n3, from_3, b3, b_n3, b_c3, to3, to_n3, to_c3, k2, IntKind.wrap .i64 (i1 + 1)) w_)) (
  glacierref3_Net_Send_b0 k2 R w)

def glacierref3_Net_Send_b2 (n2 : Option Addr) (from_2 : Int) (b2 : Option Addr) (b_n2 : Nat) (b_c2 : Nat) (to2 : Option Addr) (to_n2 : Nat) (to_c2 : Nat) (k1 : Int) (i : Int) (R : Value → World → Prop) (w : World) : Prop :=
  LoopS (σ := (Option Addr) × Int × (Option Addr) × Nat × Nat × (Option Addr) × Nat × Nat × Int × Int) (fun s w K0 =>
  glacierref3_Net_Send_b1 s.1 s.2.1 s.2.2.1 s.2.2.2.1 s.2.2.2.2.1 s.2.2.2.2.2.1 s.2.2.2.2.2.2.1 s.2.2.2.2.2.2.2.1 s.2.2.2.2.2.2.2.2.1 s.2.2.2.2.2.2.2.2.2 K0 R w) (n2, from_2, b2, b_n2, b_c2, to2, to_n2, to_c2, k1, i) w

def glacierref3_Net_Send_b3 (n1 : Option Addr) (from_1 : Int) (b1 : Option Addr) (b_n1 : Nat) (b_c1 : Nat) (to1 : Option Addr) (to_n1 : Nat) (to_c1 : Nat) (k : Int) (R : Value → World → Prop) (w : World) : Prop :=
  glacierref3_Net_Send_b2 n1 from_1 b1 b_n1 b_c1 to1 to_n1 to_c1 k 0 R w

def glacierref3_Net_Send_b4 (n : Option Addr) (from_ : Int) (b : Option Addr) (b_n : Nat) (b_c : Nat) (to : Option Addr) (to_n : Nat) (to_c : Nat) (R : Value → World → Prop) (w : World) : Prop :=
  glacierref3_Net_Send_b3 n from_ b b_n b_c to to_n to_c 0 R w

def glacierref3_Net_Send_p0 : Point ((Option Addr) × Int × (Option Addr) × Nat × Nat × (Option Addr) × Nat × Nat × Int) := { slots := fun s => [(0, (.pointer s.1)), (1, (.int .i64 s.2.1)), (2, (.slice s.2.2.1 s.2.2.2.1 s.2.2.2.2.1)), (3, (.slice s.2.2.2.2.2.1 s.2.2.2.2.2.2.1 s.2.2.2.2.2.2.2.1)), (9, (.int .i64 s.2.2.2.2.2.2.2.2))], dec := fun r K => mPtr (r 0) fun x => mInt .i64 (r 1) fun x1 => mSlice (r 2) fun x2 x3 x4 => mSlice (r 3) fun x5 x6 x7 => mInt .i64 (r 9) fun x8 => K (x, x1, x2, x3, x4, x5, x6, x7, x8) }
theorem glacierref3_Net_Send_p0_ok : glacierref3_Net_Send_p0.ok := by
  intro r K h
  unfold glacierref3_Net_Send_p0 at h
  obtain ⟨x, e0, h⟩ := mPtr_elim h
  obtain ⟨x1, e1, h⟩ := mInt_elim h
  obtain ⟨x2, x3, x4, e2, h⟩ := mSlice_elim h
  obtain ⟨x5, x6, x7, e3, h⟩ := mSlice_elim h
  obtain ⟨x8, e4, h⟩ := mInt_elim h
  exact ⟨(x, x1, x2, x3, x4, x5, x6, x7, x8), regsOf_self (L := [(0, (.pointer x)), (1, (.int .i64 x1)), (2, (.slice x2 x3 x4)), (3, (.slice x5 x6 x7)), (9, (.int .i64 x8))]) (List.forall_mem_cons.2 ⟨e0, List.forall_mem_cons.2 ⟨e1, List.forall_mem_cons.2 ⟨e2, List.forall_mem_cons.2 ⟨e3, List.forall_mem_cons.2 ⟨e4, List.forall_mem_nil _⟩⟩⟩⟩⟩), h⟩
theorem glacierref3_Net_Send_p0_re (s : (Option Addr) × Int × (Option Addr) × Nat × Nat × (Option Addr) × Nat × Nat × Int) (r : Regs) (K : ((Option Addr) × Int × (Option Addr) × Nat × Nat × (Option Addr) × Nat × Nat × Int) → Prop) (h : K s) : glacierref3_Net_Send_p0.dec (regsOf (glacierref3_Net_Send_p0.slots s) r) K := by
  obtain ⟨x9, x10, x11, x12, x13, x14, x15, x16, x17⟩ := s
  exact cast (show K (x9, x10, x11, x12, x13, x14, x15, x16, x17) = glacierref3_Net_Send_p0.dec (regsOf (glacierref3_Net_Send_p0.slots (x9, x10, x11, x12, x13, x14, x15, x16, x17)) r) K by kernel_rfl) h

def glacierref3_Net_Send_p1 : Point (Int) := { slots := fun s => [(9, (.int .i64 s))], dec := fun r K => mInt .i64 (r 9) fun x => K x }
theorem glacierref3_Net_Send_p1_ok : glacierref3_Net_Send_p1.ok := by
  intro r K h
  unfold glacierref3_Net_Send_p1 at h
  obtain ⟨x, e0, h⟩ := mInt_elim h
  exact ⟨x, regsOf_self (L := [(9, (.int .i64 x))]) (List.forall_mem_cons.2 ⟨e0, List.forall_mem_nil _⟩), h⟩
theorem glacierref3_Net_Send_p1_re (s : Int) (r : Regs) (K : Int → Prop) (h : K s) : glacierref3_Net_Send_p1.dec (regsOf (glacierref3_Net_Send_p1.slots s) r) K := by
  exact cast (show K s = glacierref3_Net_Send_p1.dec (regsOf (glacierref3_Net_Send_p1.slots s) r) K by kernel_rfl) h

def glacierref3_Net_Send_p2 : Point ((Option Addr) × Int × (Option Addr) × Nat × Nat × (Option Addr) × Nat × Nat × Int × Int) := { slots := fun s => [(0, (.pointer s.1)), (1, (.int .i64 s.2.1)), (2, (.slice s.2.2.1 s.2.2.2.1 s.2.2.2.2.1)), (3, (.slice s.2.2.2.2.2.1 s.2.2.2.2.2.2.1 s.2.2.2.2.2.2.2.1)), (9, (.int .i64 s.2.2.2.2.2.2.2.2.1)), (10, (.int .i64 s.2.2.2.2.2.2.2.2.2))], dec := fun r K => mPtr (r 0) fun x => mInt .i64 (r 1) fun x1 => mSlice (r 2) fun x2 x3 x4 => mSlice (r 3) fun x5 x6 x7 => mInt .i64 (r 9) fun x8 => mInt .i64 (r 10) fun x9 => K (x, x1, x2, x3, x4, x5, x6, x7, x8, x9) }
theorem glacierref3_Net_Send_p2_ok : glacierref3_Net_Send_p2.ok := by
  intro r K h
  unfold glacierref3_Net_Send_p2 at h
  obtain ⟨x, e0, h⟩ := mPtr_elim h
  obtain ⟨x1, e1, h⟩ := mInt_elim h
  obtain ⟨x2, x3, x4, e2, h⟩ := mSlice_elim h
  obtain ⟨x5, x6, x7, e3, h⟩ := mSlice_elim h
  obtain ⟨x8, e4, h⟩ := mInt_elim h
  obtain ⟨x9, e5, h⟩ := mInt_elim h
  exact ⟨(x, x1, x2, x3, x4, x5, x6, x7, x8, x9), regsOf_self (L := [(0, (.pointer x)), (1, (.int .i64 x1)), (2, (.slice x2 x3 x4)), (3, (.slice x5 x6 x7)), (9, (.int .i64 x8)), (10, (.int .i64 x9))]) (List.forall_mem_cons.2 ⟨e0, List.forall_mem_cons.2 ⟨e1, List.forall_mem_cons.2 ⟨e2, List.forall_mem_cons.2 ⟨e3, List.forall_mem_cons.2 ⟨e4, List.forall_mem_cons.2 ⟨e5, List.forall_mem_nil _⟩⟩⟩⟩⟩⟩), h⟩
theorem glacierref3_Net_Send_p2_re (s : (Option Addr) × Int × (Option Addr) × Nat × Nat × (Option Addr) × Nat × Nat × Int × Int) (r : Regs) (K : ((Option Addr) × Int × (Option Addr) × Nat × Nat × (Option Addr) × Nat × Nat × Int × Int) → Prop) (h : K s) : glacierref3_Net_Send_p2.dec (regsOf (glacierref3_Net_Send_p2.slots s) r) K := by
  obtain ⟨x10, x11, x12, x13, x14, x15, x16, x17, x18, x19⟩ := s
  exact cast (show K (x10, x11, x12, x13, x14, x15, x16, x17, x18, x19) = glacierref3_Net_Send_p2.dec (regsOf (glacierref3_Net_Send_p2.slots (x10, x11, x12, x13, x14, x15, x16, x17, x18, x19)) r) K by kernel_rfl) h

theorem glacierref3_Net_Send_sound (n : Option Addr) (from_ : Int) (b : Option Addr) (b_n : Nat) (b_c : Nat) (to : Option Addr) (to_n : Nat) (to_c : Nat) (R : Value → World → Prop) (w : World) (h : glacierref3_Net_Send_b4 n from_ b b_n b_c to to_n to_c R w) :
    CallR Try.prog fn_glacierref3_Net_Send #[(.pointer n), (.int .i64 from_), (.slice b b_n b_c), (.slice to to_n to_c)] w R := by
  refine CallR_intro (args := [(.pointer n), (.int .i64 from_), (.slice b b_n b_c), (.slice to to_n to_c)]) Try.func21 rfl (Nat.le_of_ble_eq_true (by kernel_rfl)) ?_
  refine Wp_glue glacierref3_Net_Send_p0 (fun s w => glacierref3_Net_Send_b3 s.1 s.2.1 s.2.2.1 s.2.2.2.1 s.2.2.2.2.1 s.2.2.2.2.2.1 s.2.2.2.2.2.2.1 s.2.2.2.2.2.2.2.1 s.2.2.2.2.2.2.2.2 R w) [_, _] (Q0 := fun e _ r w => match e with | .normal => glacierref3_Net_Send_p0.dec r (fun s => glacierref3_Net_Send_b3 s.1 s.2.1 s.2.2.1 s.2.2.2.1 s.2.2.2.2.1 s.2.2.2.2.2.1 s.2.2.2.2.2.2.1 s.2.2.2.2.2.2.2.1 s.2.2.2.2.2.2.2.2 R w) | .exit _ => False | .ret => retQ Try.prog Try.f21.results R .ret [] r w | _ => False) h (by kernel_rfl) (fun s r w h => ?_) glacierref3_Net_Send_p0_ok (fun _ _ _ h => h) ?_
  · obtain ⟨n1, from_1, b1, b_n1, b_c1, to1, to_n1, to_c1, k⟩ := s
    have h : glacierref3_Net_Send_b3 n1 from_1 b1 b_n1 b_c1 to1 to_n1 to_c1 k R w := h
    refine Wp_seq_via glacierref3_Net_Send_p1 (fun s w => glacierref3_Net_Send_b0 s R w) (fun s r w h => ?_) (fun hN1 => ?_)
    · obtain ⟨k3, rfl⟩ : ∃ y, y = s := ⟨s, rfl⟩
      have h : glacierref3_Net_Send_b0 k3 R w := h
      refine Wp_leaf_end (Q0 := fun e _ r w => match e with | .normal => retQ Try.prog Try.f21.results R .normal [] r w | .exit _ => False | .ret => retQ Try.prog Try.f21.results R .ret [] r w | _ => False) h (by kernel_rfl) ?_
      intro e _ r w h
      cases e with
      | normal => exact h
      | exit i => exact h.elim
      | ret => exact h
      | goto i => exact h.elim
      | panic c => exact h.elim
      | outgrown => exact h.elim
    · refine Wp_glue glacierref3_Net_Send_p2 (fun s w => glacierref3_Net_Send_b2 s.1 s.2.1 s.2.2.1 s.2.2.2.1 s.2.2.2.2.1 s.2.2.2.2.2.1 s.2.2.2.2.2.2.1 s.2.2.2.2.2.2.2.1 s.2.2.2.2.2.2.2.2.1 s.2.2.2.2.2.2.2.2.2 R w) [_] (Q0 := fun e _ r w => match e with | .normal => glacierref3_Net_Send_p2.dec r (fun s => glacierref3_Net_Send_b2 s.1 s.2.1 s.2.2.1 s.2.2.2.1 s.2.2.2.2.1 s.2.2.2.2.2.1 s.2.2.2.2.2.2.1 s.2.2.2.2.2.2.2.1 s.2.2.2.2.2.2.2.2.1 s.2.2.2.2.2.2.2.2.2 R w) | .exit _ => False | .ret => retQ Try.prog Try.f21.results R .ret [] r w | _ => False) h (by kernel_rfl) (fun s r w h => ?_) glacierref3_Net_Send_p2_ok (fun _ _ _ h => h) ?_
      · obtain ⟨n2, from_2, b2, b_n2, b_c2, to2, to_n2, to_c2, k1, i⟩ := s
        have h : glacierref3_Net_Send_b2 n2 from_2 b2 b_n2 b_c2 to2 to_n2 to_c2 k1 i R w := h
        refine Wp_block_via glacierref3_Net_Send_p1 (fun s w => glacierref3_Net_Send_b0 s R w) hN1 (fun hX2 => ?_)
        refine Wp_loop (p := glacierref3_Net_Send_p2) glacierref3_Net_Send_p2_ok (fun s r w K0 h => ?_) h
        obtain ⟨n3, from_3, b3, b_n3, b_c3, to3, to_n3, to_c3, k2, i1⟩ := s
        have h : glacierref3_Net_Send_b1 n3 from_3 b3 b_n3 b_c3 to3 to_n3 to_c3 k2 i1 K0 R w := h
        have hK3 := fun (s : (Option Addr) × Int × (Option Addr) × Nat × Nat × (Option Addr) × Nat × Nat × Int × Int) (r : Regs) (w : World) (h : K0 s w) => glacierref3_Net_Send_p2_re s r (fun s => K0 s w) h
        refine Wp_leaf_end (Q0 := fun e _ r w => match e with | .normal => glacierref3_Net_Send_p2.dec r (fun s => K0 s w) | .exit i => exitQ i 0 (glacierref3_Net_Send_p1.dec r (fun s => glacierref3_Net_Send_b0 s R w)) (False) | .ret => retQ Try.prog Try.f21.results R .ret [] r w | _ => False) h (by kernel_rfl) ?_
        intro e _ r w h
        cases e with
        | normal =>
          obtain ⟨s, hs, h⟩ := glacierref3_Net_Send_p2_ok _ _ h
          rw [← hs]
          exact hK3 s r w h
        | exit i =>
          rcases exitQ_elim h with ⟨rfl, h⟩ | ⟨_, h⟩
          · obtain ⟨s, hs, h⟩ := glacierref3_Net_Send_p1_ok _ _ h
            rw [← hs]
            exact hX2 s r w h
          exact h.elim
        | ret => exact h
        | goto i => exact h.elim
        | panic c => exact h.elim
        | outgrown => exact h.elim
      · intro e _ r w hne h
        cases e with
        | normal => exact absurd rfl hne
        | exit i => exact h.elim
        | ret => exact h
        | goto i => exact h.elim
        | panic c => exact h.elim
        | outgrown => exact h.elim
  · intro e _ r w hne h
    cases e with
    | normal => exact absurd rfl hne
    | exit i => exact h.elim
    | ret => exact h
    | goto i => exact h.elim
    | panic c => exact h.elim
    | outgrown => exact h.elim

/- (*glacier/glacierref3.Net).meant -/
def glacierref3_Net_meant_b0 (R : Value → World → Prop) (w : World) : Prop :=
  R (.int .i64 (-1)) w

def glacierref3_Net_meant_b1 (n4 : Option Addr) (from_4 : Int) (to4 : Int) (pick4 : Int) (i1 : Int) (K0 : ((Option Addr) × Int × Int × Int × Int) → World → Prop) (R : Value → World → Prop) (w : World) : Prop :=
  NN n4 fun p =>
  LDSl w (Addr.add p 3) fun _ v_n _ =>
  Br (decide (i1 < (v_n : Int))) (
  NN n4 fun p1 =>
  LDSl w (Addr.add p1 3) fun v2 v_n1 _ =>
  IX v2 v_n1 i1 3 fun a =>
  LDI .i64 w a fun v3 =>
  Br (v3 == from_4) (
  NN n4 fun p2 =>
  LDSl w (Addr.add p2 3) fun v4 v_n2 _ =>
  IX v4 v_n2 i1 3 fun a1 =>
  LDI .i64 w (Addr.add a1 1) fun v5 =>
  Br (v5 == to4) (
  Br (pick4 == 0) (
  R (.int .i64 i1) w) (
  K0 (n4, from_4, to4, IntKind.wrap .i64 (pick4 - 1), IntKind.wrap .i64 (i1 + 1)) w)) (
  K0 (n4, from_4, to4, pick4, IntKind.wrap .i64 (i1 + 1)) w)) (
  K0 (n4, from_4, to4, pick4, IntKind.wrap .i64 (i1 + 1)) w)) (
  glacierref3_Net_meant_b0 R w)

def glacierref3_Net_meant_b2 (n3 : Option Addr) (from_3 : Int) (to3 : Int) (pick3 : Int) (i : Int) (R : Value → World → Prop) (w : World) : Prop :=
  LoopS (σ := (Option Addr) × Int × Int × Int × Int) (fun s w K0 =>
  glacierref3_Net_meant_b1 s.1 s.2.1 s.2.2.1 s.2.2.2.1 s.2.2.2.2 K0 R w) (n3, from_3, to3, pick3, i) w

def glacierref3_Net_meant_b3 (n2 : Option Addr) (from_2 : Int) (to2 : Int) (pick2 : Int) (R : Value → World → Prop) (w : World) : Prop :=
  glacierref3_Net_meant_b2 n2 from_2 to2 pick2 0 R w

def glacierref3_Net_meant_b4 (n1 : Option Addr) (from_1 : Int) (to1 : Int) (pick1 : Int) (c : Int) (R : Value → World → Prop) (w : World) : Prop :=
  Req (c ≠ 0) (
  glacierref3_Net_meant_b3 n1 from_1 to1 (Int.tmod pick1 c) R w)

def glacierref3_Net_meant_b5 (n : Option Addr) (from_ : Int) (to : Int) (pick : Int) (R : Value → World → Prop) (w : World) : Prop :=
  CallR Try.prog fn_glacierref3_Net_Count #[(.pointer n), (.int .i64 from_), (.int .i64 to)] w fun res w_ =>
  mInt .i64 res fun v =>
  Br (v == 0) (
  R (.int .i64 (-1)) w_) (
  Br (decide (pick < 0)) (
  glacierref3_Net_meant_b4 n from_ to 0 v R w_) (
  glacierref3_Net_meant_b4 n from_ to pick v R w_))

def glacierref3_Net_meant_p0 : Point ((Option Addr) × Int × Int × Int × Int) := { slots := fun s => [(0, (.pointer s.1)), (1, (.int .i64 s.2.1)), (2, (.int .i64 s.2.2.1)), (3, (.int .i64 s.2.2.2.1)), (9, (.int .i64 s.2.2.2.2))], dec := fun r K => mPtr (r 0) fun x => mInt .i64 (r 1) fun x1 => mInt .i64 (r 2) fun x2 => mInt .i64 (r 3) fun x3 => mInt .i64 (r 9) fun x4 => K (x, x1, x2, x3, x4) }
theorem glacierref3_Net_meant_p0_ok : glacierref3_Net_meant_p0.ok := by
  intro r K h
  unfold glacierref3_Net_meant_p0 at h
  obtain ⟨x, e0, h⟩ := mPtr_elim h
  obtain ⟨x1, e1, h⟩ := mInt_elim h
  obtain ⟨x2, e2, h⟩ := mInt_elim h
  obtain ⟨x3, e3, h⟩ := mInt_elim h
  obtain ⟨x4, e4, h⟩ := mInt_elim h
  exact ⟨(x, x1, x2, x3, x4), regsOf_self (L := [(0, (.pointer x)), (1, (.int .i64 x1)), (2, (.int .i64 x2)), (3, (.int .i64 x3)), (9, (.int .i64 x4))]) (List.forall_mem_cons.2 ⟨e0, List.forall_mem_cons.2 ⟨e1, List.forall_mem_cons.2 ⟨e2, List.forall_mem_cons.2 ⟨e3, List.forall_mem_cons.2 ⟨e4, List.forall_mem_nil _⟩⟩⟩⟩⟩), h⟩
theorem glacierref3_Net_meant_p0_re (s : (Option Addr) × Int × Int × Int × Int) (r : Regs) (K : ((Option Addr) × Int × Int × Int × Int) → Prop) (h : K s) : glacierref3_Net_meant_p0.dec (regsOf (glacierref3_Net_meant_p0.slots s) r) K := by
  obtain ⟨x5, x6, x7, x8, x9⟩ := s
  exact cast (show K (x5, x6, x7, x8, x9) = glacierref3_Net_meant_p0.dec (regsOf (glacierref3_Net_meant_p0.slots (x5, x6, x7, x8, x9)) r) K by kernel_rfl) h

def glacierref3_Net_meant_p1 : Point ((Option Addr) × Int × Int × Int) := { slots := fun s => [(0, (.pointer s.1)), (1, (.int .i64 s.2.1)), (2, (.int .i64 s.2.2.1)), (3, (.int .i64 s.2.2.2))], dec := fun r K => mPtr (r 0) fun x => mInt .i64 (r 1) fun x1 => mInt .i64 (r 2) fun x2 => mInt .i64 (r 3) fun x3 => K (x, x1, x2, x3) }
theorem glacierref3_Net_meant_p1_ok : glacierref3_Net_meant_p1.ok := by
  intro r K h
  unfold glacierref3_Net_meant_p1 at h
  obtain ⟨x, e0, h⟩ := mPtr_elim h
  obtain ⟨x1, e1, h⟩ := mInt_elim h
  obtain ⟨x2, e2, h⟩ := mInt_elim h
  obtain ⟨x3, e3, h⟩ := mInt_elim h
  exact ⟨(x, x1, x2, x3), regsOf_self (L := [(0, (.pointer x)), (1, (.int .i64 x1)), (2, (.int .i64 x2)), (3, (.int .i64 x3))]) (List.forall_mem_cons.2 ⟨e0, List.forall_mem_cons.2 ⟨e1, List.forall_mem_cons.2 ⟨e2, List.forall_mem_cons.2 ⟨e3, List.forall_mem_nil _⟩⟩⟩⟩), h⟩
theorem glacierref3_Net_meant_p1_re (s : (Option Addr) × Int × Int × Int) (r : Regs) (K : ((Option Addr) × Int × Int × Int) → Prop) (h : K s) : glacierref3_Net_meant_p1.dec (regsOf (glacierref3_Net_meant_p1.slots s) r) K := by
  obtain ⟨x4, x5, x6, x7⟩ := s
  exact cast (show K (x4, x5, x6, x7) = glacierref3_Net_meant_p1.dec (regsOf (glacierref3_Net_meant_p1.slots (x4, x5, x6, x7)) r) K by kernel_rfl) h

def glacierref3_Net_meant_p2 : Point (Unit) := { slots := fun _ => [], dec := fun _ K => K () }
theorem glacierref3_Net_meant_p2_ok : glacierref3_Net_meant_p2.ok := by
  intro r K h
  unfold glacierref3_Net_meant_p2 at h
  exact ⟨(), regsOf_self (L := []) (List.forall_mem_nil _), h⟩
theorem glacierref3_Net_meant_p2_re (s : Unit) (r : Regs) (K : Unit → Prop) (h : K s) : glacierref3_Net_meant_p2.dec (regsOf (glacierref3_Net_meant_p2.slots s) r) K := by
  exact cast (show K () = glacierref3_Net_meant_p2.dec (regsOf (glacierref3_Net_meant_p2.slots ()) r) K by kernel_rfl) h

def glacierref3_Net_meant_p3 : Point ((Option Addr) × Int × Int × Int × Int) := { slots := fun s => [(0, (.pointer s.1)), (1, (.int .i64 s.2.1)), (2, (.int .i64 s.2.2.1)), (3, (.int .i64 s.2.2.2.1)), (10, (.int .i64 s.2.2.2.2))], dec := fun r K => mPtr (r 0) fun x => mInt .i64 (r 1) fun x1 => mInt .i64 (r 2) fun x2 => mInt .i64 (r 3) fun x3 => mInt .i64 (r 10) fun x4 => K (x, x1, x2, x3, x4) }
theorem glacierref3_Net_meant_p3_ok : glacierref3_Net_meant_p3.ok := by
  intro r K h
  unfold glacierref3_Net_meant_p3 at h
  obtain ⟨x, e0, h⟩ := mPtr_elim h
  obtain ⟨x1, e1, h⟩ := mInt_elim h
  obtain ⟨x2, e2, h⟩ := mInt_elim h
  obtain ⟨x3, e3, h⟩ := mInt_elim h
  obtain ⟨x4, e4, h⟩ := mInt_elim h
  exact ⟨(x, x1, x2, x3, x4), regsOf_self (L := [(0, (.pointer x)), (1, (.int .i64 x1)), (2, (.int .i64 x2)), (3, (.int .i64 x3)), (10, (.int .i64 x4))]) (List.forall_mem_cons.2 ⟨e0, List.forall_mem_cons.2 ⟨e1, List.forall_mem_cons.2 ⟨e2, List.forall_mem_cons.2 ⟨e3, List.forall_mem_cons.2 ⟨e4, List.forall_mem_nil _⟩⟩⟩⟩⟩), h⟩
theorem glacierref3_Net_meant_p3_re (s : (Option Addr) × Int × Int × Int × Int) (r : Regs) (K : ((Option Addr) × Int × Int × Int × Int) → Prop) (h : K s) : glacierref3_Net_meant_p3.dec (regsOf (glacierref3_Net_meant_p3.slots s) r) K := by
  obtain ⟨x5, x6, x7, x8, x9⟩ := s
  exact cast (show K (x5, x6, x7, x8, x9) = glacierref3_Net_meant_p3.dec (regsOf (glacierref3_Net_meant_p3.slots (x5, x6, x7, x8, x9)) r) K by kernel_rfl) h

theorem glacierref3_Net_meant_sound (n : Option Addr) (from_ : Int) (to : Int) (pick : Int) (R : Value → World → Prop) (w : World) (h : glacierref3_Net_meant_b5 n from_ to pick R w) :
    CallR Try.prog fn_glacierref3_Net_meant #[(.pointer n), (.int .i64 from_), (.int .i64 to), (.int .i64 pick)] w R := by
  refine CallR_intro (args := [(.pointer n), (.int .i64 from_), (.int .i64 to), (.int .i64 pick)]) Try.func34 rfl (Nat.le_of_ble_eq_true (by kernel_rfl)) ?_
  refine Wp_glue glacierref3_Net_meant_p0 (fun s w => glacierref3_Net_meant_b4 s.1 s.2.1 s.2.2.1 s.2.2.2.1 s.2.2.2.2 R w) [_, _, _, _] (Q0 := fun e _ r w => match e with | .normal => glacierref3_Net_meant_p0.dec r (fun s => glacierref3_Net_meant_b4 s.1 s.2.1 s.2.2.1 s.2.2.2.1 s.2.2.2.2 R w) | .exit _ => False | .ret => retQ Try.prog Try.f34.results R .ret [] r w | _ => False) h (by kernel_rfl) (fun s r w h => ?_) glacierref3_Net_meant_p0_ok (fun _ _ _ h => h) ?_
  · obtain ⟨n1, from_1, to1, pick1, c⟩ := s
    have h : glacierref3_Net_meant_b4 n1 from_1 to1 pick1 c R w := h
    refine Wp_glue glacierref3_Net_meant_p1 (fun s w => glacierref3_Net_meant_b3 s.1 s.2.1 s.2.2.1 s.2.2.2 R w) [_] (Q0 := fun e _ r w => match e with | .normal => glacierref3_Net_meant_p1.dec r (fun s => glacierref3_Net_meant_b3 s.1 s.2.1 s.2.2.1 s.2.2.2 R w) | .exit _ => False | .ret => retQ Try.prog Try.f34.results R .ret [] r w | _ => False) h (by kernel_rfl) (fun s r w h => ?_) glacierref3_Net_meant_p1_ok (fun _ _ _ h => h) ?_
    · obtain ⟨n2, from_2, to2, pick2⟩ := s
      have h : glacierref3_Net_meant_b3 n2 from_2 to2 pick2 R w := h
      refine Wp_seq_via glacierref3_Net_meant_p2 (fun _ w => glacierref3_Net_meant_b0 R w) (fun s r w h => ?_) (fun hN1 => ?_)
      · cases s
        have h : glacierref3_Net_meant_b0 R w := h
        refine Wp_leaf_end (Q0 := fun e _ r w => match e with | .normal => retQ Try.prog Try.f34.results R .normal [] r w | .exit _ => False | .ret => retQ Try.prog Try.f34.results R .ret [] r w | _ => False) h (by kernel_rfl) ?_
        intro e _ r w h
        cases e with
        | normal => exact h
        | exit i => exact h.elim
        | ret => exact h
        | goto i => exact h.elim
        | panic c => exact h.elim
        | outgrown => exact h.elim
      · refine Wp_glue glacierref3_Net_meant_p3 (fun s w => glacierref3_Net_meant_b2 s.1 s.2.1 s.2.2.1 s.2.2.2.1 s.2.2.2.2 R w) [_] (Q0 := fun e _ r w => match e with | .normal => glacierref3_Net_meant_p3.dec r (fun s => glacierref3_Net_meant_b2 s.1 s.2.1 s.2.2.1 s.2.2.2.1 s.2.2.2.2 R w) | .exit _ => False | .ret => retQ Try.prog Try.f34.results R .ret [] r w | _ => False) h (by kernel_rfl) (fun s r w h => ?_) glacierref3_Net_meant_p3_ok (fun _ _ _ h => h) ?_
        · obtain ⟨n3, from_3, to3, pick3, i⟩ := s
          have h : glacierref3_Net_meant_b2 n3 from_3 to3 pick3 i R w := h
          refine Wp_block_via glacierref3_Net_meant_p2 (fun _ w => glacierref3_Net_meant_b0 R w) hN1 (fun hX2 => ?_)
          refine Wp_loop (p := glacierref3_Net_meant_p3) glacierref3_Net_meant_p3_ok (fun s r w K0 h => ?_) h
          obtain ⟨n4, from_4, to4, pick4, i1⟩ := s
          have h : glacierref3_Net_meant_b1 n4 from_4 to4 pick4 i1 K0 R w := h
          have hK3 := fun (s : (Option Addr) × Int × Int × Int × Int) (r : Regs) (w : World) (h : K0 s w) => glacierref3_Net_meant_p3_re s r (fun s => K0 s w) h
          refine Wp_leaf_end (Q0 := fun e _ r w => match e with | .normal => glacierref3_Net_meant_p3.dec r (fun s => K0 s w) | .exit i => exitQ i 0 (glacierref3_Net_meant_p2.dec r (fun _ => glacierref3_Net_meant_b0 R w)) (False) | .ret => retQ Try.prog Try.f34.results R .ret [] r w | _ => False) h (by kernel_rfl) ?_
          intro e _ r w h
          cases e with
          | normal =>
            obtain ⟨s, hs, h⟩ := glacierref3_Net_meant_p3_ok _ _ h
            rw [← hs]
            exact hK3 s r w h
          | exit i =>
            rcases exitQ_elim h with ⟨rfl, h⟩ | ⟨_, h⟩
            · obtain ⟨s, hs, h⟩ := glacierref3_Net_meant_p2_ok _ _ h
              rw [← hs]
              exact hX2 s r w h
            exact h.elim
          | ret => exact h
          | goto i => exact h.elim
          | panic c => exact h.elim
          | outgrown => exact h.elim
        · intro e _ r w hne h
          cases e with
          | normal => exact absurd rfl hne
          | exit i => exact h.elim
          | ret => exact h
          | goto i => exact h.elim
          | panic c => exact h.elim
          | outgrown => exact h.elim
    · intro e _ r w hne h
      cases e with
      | normal => exact absurd rfl hne
      | exit i => exact h.elim
      | ret => exact h
      | goto i => exact h.elim
      | panic c => exact h.elim
      | outgrown => exact h.elim
  · intro e _ r w hne h
    cases e with
    | normal => exact absurd rfl hne
    | exit i => exact h.elim
    | ret => exact h
    | goto i => exact h.elim
    | panic c => exact h.elim
    | outgrown => exact h.elim

/- (*glacier/glacierref3.Net).Deliver -/
def glacierref3_Net_Deliver_b0 (n : Option Addr) (from_ : Int) (to : Int) (pick : Int) (R : Value → World → Prop) (w : World) : Prop :=
  AL w (.cells #[(.int .i64 0), (.int .i64 0), (.slice none 0 0)] 31) fun p w_ =>
  CallR Try.prog fn_glacierref3_Net_meant #[(.pointer n), (.int .i64 from_), (.int .i64 to), (.int .i64 pick)] w_ fun res w_1 =>
  mInt .i64 res fun v =>
  Br (decide (v < 0)) (
  ST w_1 p (.int .i64 0) fun w_2 =>
  ST w_2 (Addr.add p 1) (.int .i64 0) fun w_3 =>
  ST w_3 (Addr.add p 2) (.slice none 0 0) fun w_4 =>
  LDI .i64 w_4 p fun From =>
  LDI .i64 w_4 (Addr.add p 1) fun To =>
  LDSl w_4 (Addr.add p 2) fun Bytes Bytes_n Bytes_c =>
  R (.tuple #[(.agg #[(.int .i64 From), (.int .i64 To), (.slice Bytes Bytes_n Bytes_c)]), (.bool false)]) w_4) (
  NN n fun p1 =>
  LDSl w_1 (Addr.add p1 3) fun v1 v_n _ =>
  IX v1 v_n v 3 fun a =>
  LDI .i64 w_1 a fun From1 =>
  LDI .i64 w_1 (Addr.add a 1) fun To1 =>
  LDSl w_1 (Addr.add a 2) fun Bytes1 Bytes_n1 Bytes_c1 =>
  AL w_1 (.cells #[(.int .i64 0), (.int .i64 0), (.slice none 0 0)] 31) fun m w_5 =>
  ST w_5 m (.int .i64 From1) fun w_6 =>
  ST w_6 (Addr.add m 1) (.int .i64 To1) fun w_7 =>
  ST w_7 (Addr.add m 2) (.slice Bytes1 Bytes_n1 Bytes_c1) fun w_8 =>
  LetW (World.drew w_8) fun w_9 =>
  NN n fun p2 =>
  LDSl w_9 (Addr.add p2 3) fun v2 v_n1 v_c1 =>
  rRun Try.prog (Instr.sliceAt 59 (.slice v2 v_n1 v_c1) none (some (.int .i64 v)) none) w_9 fun sr w_10 =>
  mSlice sr fun v3 v_n2 v_c2 =>
  (w_10 = w_9 ∧ 
  NN n fun p3 =>
  LDSl w_9 (Addr.add p3 3) fun v4 v_n3 v_c3 =>
  rRun Try.prog (Instr.sliceAt 59 (.slice v4 v_n3 v_c3) (some (.int .i64 (IntKind.wrap .i64 (v + 1)))) none none) w_9 fun sr1 w_11 =>
  mSlice sr1 fun v5 v_n4 v_c4 =>
  (w_11 = w_9 ∧ 
  AL w_9 (.cells #[] 31) fun b w_12 =>
  ((rRun Try.prog (Instr.sliceAt 59 (.slice v4 v_n3 v_c3) (some (.int .i64 (IntKind.wrap .i64 (v + 1)))) none none) w_12 fun sr2 w_13 =>
  mSlice sr2 fun v6 v_n5 v_c5 =>
  (w_13 = w_12 ∧ ((.slice v6 v_n5 v_c5) : Value) = (.slice v5 v_n4 v_c4))) ∧ 
  (World.cell? w_12 (Addr.add p3 3) = some (.slice v4 v_n3 v_c3) ∧ 
  ((rRun Try.prog (Instr.sliceAt 59 (.slice v2 v_n1 v_c1) none (some (.int .i64 v)) none) w_12 fun sr3 w_14 =>
  mSlice sr3 fun v7 v_n6 v_c6 =>
  (w_14 = w_12 ∧ ((.slice v7 v_n6 v_c6) : Value) = (.slice v3 v_n2 v_c2))) ∧ 
  (World.cell? w_12 (Addr.add p2 3) = some (.slice v2 v_n1 v_c1) ∧ 
  rRun Try.prog (Builtin.append_ #[59, 59] 59 #[(.slice (some b) 0 0), (.slice v3 v_n2 v_c2)]) w_12 fun sr4 w_15 =>
  mSlice sr4 fun v8 v_n7 v_c7 =>
  ((rRun Try.prog (Instr.sliceAt 59 (.slice v4 v_n3 v_c3) (some (.int .i64 (IntKind.wrap .i64 (v + 1)))) none none) w_15 fun sr5 w_16 =>
  mSlice sr5 fun v9 v_n8 v_c8 =>
  (w_16 = w_15 ∧ ((.slice v9 v_n8 v_c8) : Value) = (.slice v5 v_n4 v_c4))) ∧ 
  (World.cell? w_15 (Addr.add p3 3) = some (.slice v4 v_n3 v_c3) ∧ 
  rRun Try.prog (Builtin.append_ #[59, 59] 59 #[(.slice v8 v_n7 v_c7), (.slice v5 v_n4 v_c4)]) w_15 fun sr6 w_17 =>
  mSlice sr6 fun v10 v_n9 v_c9 =>
  NN n fun p4 =>
  ST w_17 (Addr.add p4 3) (.slice v10 v_n9 v_c9) fun w_18 =>
  LDI .i64 w_18 m fun From2 =>
  LDI .i64 w_18 (Addr.add m 1) fun To2 =>
  LDSl w_18 (Addr.add m 2) fun Bytes2 Bytes_n2 Bytes_c2 =>
  ST w_18 p (.int .i64 From2) fun w_19 =>
  ST w_19 (Addr.add p 1) (.int .i64 To2) fun w_20 =>
  ST w_20 (Addr.add p 2) (.slice Bytes2 Bytes_n2 Bytes_c2) fun w_21 =>
  LDI .i64 w_21 p fun From3 =>
  LDI .i64 w_21 (Addr.add p 1) fun To3 =>
  LDSl w_21 (Addr.add p 2) fun Bytes3 Bytes_n3 Bytes_c3 =>
  R (.tuple #[(.agg #[(.int .i64 From3), (.int .i64 To3), (.slice Bytes3 Bytes_n3 Bytes_c3)]), (.bool true)]) w_21)))))))))

theorem glacierref3_Net_Deliver_sound (n : Option Addr) (from_ : Int) (to : Int) (pick : Int) (R : Value → World → Prop) (w : World) (h : glacierref3_Net_Deliver_b0 n from_ to pick R w) :
    CallR Try.prog fn_glacierref3_Net_Deliver #[(.pointer n), (.int .i64 from_), (.int .i64 to), (.int .i64 pick)] w R := by
  refine CallR_intro (args := [(.pointer n), (.int .i64 from_), (.int .i64 to), (.int .i64 pick)]) Try.func22 rfl (Nat.le_of_ble_eq_true (by kernel_rfl)) ?_
  refine Wp_leaf_end (Q0 := fun e _ r w => match e with | .normal => retQ Try.prog Try.f22.results R .normal [] r w | .exit _ => False | .ret => retQ Try.prog Try.f22.results R .ret [] r w | _ => False) h (by kernel_rfl) ?_
  intro e _ r w h
  cases e with
  | normal => exact h
  | exit i => exact h.elim
  | ret => exact h
  | goto i => exact h.elim
  | panic c => exact h.elim
  | outgrown => exact h.elim

/- (*glacier/glacierref3.Net).Double -/
def glacierref3_Net_Double_b0 (n : Option Addr) (from_ : Int) (to : Int) (pick : Int) (R : Value → World → Prop) (w : World) : Prop :=
  CallR Try.prog fn_glacierref3_Net_meant #[(.pointer n), (.int .i64 from_), (.int .i64 to), (.int .i64 pick)] w fun res w_ =>
  mInt .i64 res fun v =>
  Br (decide (v ≥ 0)) (
  NN n fun p =>
  LDSl w_ (Addr.add p 3) fun v1 v_n _ =>
  IX v1 v_n v 3 fun a =>
  LDI .i64 w_ a fun From =>
  LDI .i64 w_ (Addr.add a 1) fun To =>
  LDSl w_ (Addr.add a 2) fun Bytes Bytes_n Bytes_c =>
  CallR Try.prog fn_glacierref3_Net_lay #[(.pointer n), (.agg #[(.int .i64 From), (.int .i64 To), (.slice Bytes Bytes_n Bytes_c)])] w_ fun res1 w_1 =>
  mBool res1 fun v2 =>
  R (.bool v2) w_1) (
  R (.bool false) w_)

theorem glacierref3_Net_Double_sound (n : Option Addr) (from_ : Int) (to : Int) (pick : Int) (R : Value → World → Prop) (w : World) (h : glacierref3_Net_Double_b0 n from_ to pick R w) :
    CallR Try.prog fn_glacierref3_Net_Double #[(.pointer n), (.int .i64 from_), (.int .i64 to), (.int .i64 pick)] w R := by
  refine CallR_intro (args := [(.pointer n), (.int .i64 from_), (.int .i64 to), (.int .i64 pick)]) Try.func24 rfl (Nat.le_of_ble_eq_true (by kernel_rfl)) ?_
  refine Wp_leaf_end (Q0 := fun e _ r w => match e with | .normal => retQ Try.prog Try.f24.results R .normal [] r w | .exit _ => False | .ret => retQ Try.prog Try.f24.results R .ret [] r w | _ => False) h (by kernel_rfl) ?_
  intro e _ r w h
  cases e with
  | normal => exact h
  | exit i => exact h.elim
  | ret => exact h
  | goto i => exact h.elim
  | panic c => exact h.elim
  | outgrown => exact h.elim

/- (*glacier/glacierref3.Net).Clear -/
def glacierref3_Net_Clear_b0 (n4 : Option Addr) (l3 : Option Addr) (l_n3 : Nat) (l_c3 : Nat) (R : Value → World → Prop) (w : World) : Prop :=
  NN n4 fun p4 =>
  ST w (Addr.add p4 3) (.slice l3 l_n3 l_c3) fun w_2 =>
  R (.tuple #[]) w_2

def glacierref3_Net_Clear_b1 (n3 : Option Addr) (node3 : Int) (l2 : Option Addr) (l_n2 : Nat) (l_c2 : Nat) (i1 : Int) (K0 : ((Option Addr) × Int × (Option Addr) × Nat × Nat × Int) → World → Prop) (R : Value → World → Prop) (w : World) : Prop :=
  NN n3 fun p =>
  LDSl w (Addr.add p 3) fun _ v_n _ =>
  Br (decide (i1 < (v_n : Int))) (
  NN n3 fun p1 =>
  LDSl w (Addr.add p1 3) fun v1 v_n1 _ =>
  IX v1 v_n1 i1 3 fun a =>
  LDI .i64 w a fun v2 =>
  Br (v2 != node3) (
  NN n3 fun p2 =>
  LDSl w (Addr.add p2 3) fun v3 v_n2 _ =>
  IX v3 v_n2 i1 3 fun a1 =>
  LDI .i64 w (Addr.add a1 1) fun v4 =>
  Br (v4 != node3) (
  NN n3 fun p3 =>
  LDSl w (Addr.add p3 3) fun v5 v_n3 _ =>
  IX v5 v_n3 i1 3 fun a2 =>
  LDI .i64 w a2 fun From =>
  LDI .i64 w (Addr.add a2 1) fun To =>
  LDSl w (Addr.add a2 2) fun Bytes Bytes_n Bytes_c =>
  AL w (.cells #[(.int .i64 From), (.int .i64 To), (.slice Bytes Bytes_n Bytes_c)] 31) fun b w_ =>
  rRun Try.prog (Builtin.append_ #[59, 59] 59 #[(.slice l2 l_n2 l_c2), (.slice (some b) 1 1)]) w_ fun sr w_1 =>
  mSlice sr fun v6 v_n4 v_c4 =>
  K0 (n3, node3, v6, v_n4, v_c4, IntKind.wrap .i64 (i1 + 1)) w_1) (
  K0 (n3, node3, l2, l_n2, l_c2, IntKind.wrap .i64 (i1 + 1)) w)) (
  K0 (n3, node3, l2, l_n2, l_c2, IntKind.wrap .i64 (i1 + 1)) w)) (
  glacierref3_Net_Clear_b0 n3 l2 l_n2 l_c2 R w)

def glacierref3_Net_Clear_b2 (n2 : Option Addr) (node2 : Int) (l1 : Option Addr) (l_n1 : Nat) (l_c1 : Nat) (i : Int) (R : Value → World → Prop) (w : World) : Prop :=
  LoopS (σ := (Option Addr) × Int × (Option Addr) × Nat × Nat × Int) (fun s w K0 =>
  glacierref3_Net_Clear_b1 s.1 s.2.1 s.2.2.1 s.2.2.2.1 s.2.2.2.2.1 s.2.2.2.2.2 K0 R w) (n2, node2, l1, l_n1, l_c1, i) w

def glacierref3_Net_Clear_b3 (n1 : Option Addr) (node1 : Int) (l : Option Addr) (l_n : Nat) (l_c : Nat) (R : Value → World → Prop) (w : World) : Prop :=
  glacierref3_Net_Clear_b2 n1 node1 l l_n l_c 0 R w

def glacierref3_Net_Clear_b4 (n : Option Addr) (node : Int) (R : Value → World → Prop) (w : World) : Prop :=
  glacierref3_Net_Clear_b3 n node none 0 0 R w

def glacierref3_Net_Clear_p0 : Point ((Option Addr) × Int × (Option Addr) × Nat × Nat) := { slots := fun s => [(0, (.pointer s.1)), (1, (.int .i64 s.2.1)), (4, (.slice s.2.2.1 s.2.2.2.1 s.2.2.2.2))], dec := fun r K => mPtr (r 0) fun x => mInt .i64 (r 1) fun x1 => mSlice (r 4) fun x2 x3 x4 => K (x, x1, x2, x3, x4) }
theorem glacierref3_Net_Clear_p0_ok : glacierref3_Net_Clear_p0.ok := by
  intro r K h
  unfold glacierref3_Net_Clear_p0 at h
  obtain ⟨x, e0, h⟩ := mPtr_elim h
  obtain ⟨x1, e1, h⟩ := mInt_elim h
  obtain ⟨x2, x3, x4, e2, h⟩ := mSlice_elim h
  exact ⟨(x, x1, x2, x3, x4), regsOf_self (L := [(0, (.pointer x)), (1, (.int .i64 x1)), (4, (.slice x2 x3 x4))]) (List.forall_mem_cons.2 ⟨e0, List.forall_mem_cons.2 ⟨e1, List.forall_mem_cons.2 ⟨e2, List.forall_mem_nil _⟩⟩⟩), h⟩
theorem glacierref3_Net_Clear_p0_re (s : (Option Addr) × Int × (Option Addr) × Nat × Nat) (r : Regs) (K : ((Option Addr) × Int × (Option Addr) × Nat × Nat) → Prop) (h : K s) : glacierref3_Net_Clear_p0.dec (regsOf (glacierref3_Net_Clear_p0.slots s) r) K := by
  obtain ⟨x5, x6, x7, x8, x9⟩ := s
  exact cast (show K (x5, x6, x7, x8, x9) = glacierref3_Net_Clear_p0.dec (regsOf (glacierref3_Net_Clear_p0.slots (x5, x6, x7, x8, x9)) r) K by kernel_rfl) h

def glacierref3_Net_Clear_p1 : Point ((Option Addr) × (Option Addr) × Nat × Nat) := { slots := fun s => [(0, (.pointer s.1)), (4, (.slice s.2.1 s.2.2.1 s.2.2.2))], dec := fun r K => mPtr (r 0) fun x => mSlice (r 4) fun x1 x2 x3 => K (x, x1, x2, x3) }
theorem glacierref3_Net_Clear_p1_ok : glacierref3_Net_Clear_p1.ok := by
  intro r K h
  unfold glacierref3_Net_Clear_p1 at h
  obtain ⟨x, e0, h⟩ := mPtr_elim h
  obtain ⟨x1, x2, x3, e1, h⟩ := mSlice_elim h
  exact ⟨(x, x1, x2, x3), regsOf_self (L := [(0, (.pointer x)), (4, (.slice x1 x2 x3))]) (List.forall_mem_cons.2 ⟨e0, List.forall_mem_cons.2 ⟨e1, List.forall_mem_nil _⟩⟩), h⟩
theorem glacierref3_Net_Clear_p1_re (s : (Option Addr) × (Option Addr) × Nat × Nat) (r : Regs) (K : ((Option Addr) × (Option Addr) × Nat × Nat) → Prop) (h : K s) : glacierref3_Net_Clear_p1.dec (regsOf (glacierref3_Net_Clear_p1.slots s) r) K := by
  obtain ⟨x4, x5, x6, x7⟩ := s
  exact cast (show K (x4, x5, x6, x7) = glacierref3_Net_Clear_p1.dec (regsOf (glacierref3_Net_Clear_p1.slots (x4, x5, x6, x7)) r) K by kernel_rfl) h

def glacierref3_Net_Clear_p2 : Point ((Option Addr) × Int × (Option Addr) × Nat × Nat × Int) := { slots := fun s => [(0, (.pointer s.1)), (1, (.int .i64 s.2.1)), (4, (.slice s.2.2.1 s.2.2.2.1 s.2.2.2.2.1)), (5, (.int .i64 s.2.2.2.2.2))], dec := fun r K => mPtr (r 0) fun x => mInt .i64 (r 1) fun x1 => mSlice (r 4) fun x2 x3 x4 => mInt .i64 (r 5) fun x5 => K (x, x1, x2, x3, x4, x5) }
theorem glacierref3_Net_Clear_p2_ok : glacierref3_Net_Clear_p2.ok := by
  intro r K h
  unfold glacierref3_Net_Clear_p2 at h
  obtain ⟨x, e0, h⟩ := mPtr_elim h
  obtain ⟨x1, e1, h⟩ := mInt_elim h
  obtain ⟨x2, x3, x4, e2, h⟩ := mSlice_elim h
  obtain ⟨x5, e3, h⟩ := mInt_elim h
  exact ⟨(x, x1, x2, x3, x4, x5), regsOf_self (L := [(0, (.pointer x)), (1, (.int .i64 x1)), (4, (.slice x2 x3 x4)), (5, (.int .i64 x5))]) (List.forall_mem_cons.2 ⟨e0, List.forall_mem_cons.2 ⟨e1, List.forall_mem_cons.2 ⟨e2, List.forall_mem_cons.2 ⟨e3, List.forall_mem_nil _⟩⟩⟩⟩), h⟩
theorem glacierref3_Net_Clear_p2_re (s : (Option Addr) × Int × (Option Addr) × Nat × Nat × Int) (r : Regs) (K : ((Option Addr) × Int × (Option Addr) × Nat × Nat × Int) → Prop) (h : K s) : glacierref3_Net_Clear_p2.dec (regsOf (glacierref3_Net_Clear_p2.slots s) r) K := by
  obtain ⟨x6, x7, x8, x9, x10, x11⟩ := s
  exact cast (show K (x6, x7, x8, x9, x10, x11) = glacierref3_Net_Clear_p2.dec (regsOf (glacierref3_Net_Clear_p2.slots (x6, x7, x8, x9, x10, x11)) r) K by kernel_rfl) h

theorem glacierref3_Net_Clear_sound (n : Option Addr) (node : Int) (R : Value → World → Prop) (w : World) (h : glacierref3_Net_Clear_b4 n node R w) :
    CallR Try.prog fn_glacierref3_Net_Clear #[(.pointer n), (.int .i64 node)] w R := by
  refine CallR_intro (args := [(.pointer n), (.int .i64 node)]) Try.func26 rfl (Nat.le_of_ble_eq_true (by kernel_rfl)) ?_
  refine Wp_glue glacierref3_Net_Clear_p0 (fun s w => glacierref3_Net_Clear_b3 s.1 s.2.1 s.2.2.1 s.2.2.2.1 s.2.2.2.2 R w) [_] (Q0 := fun e _ r w => match e with | .normal => glacierref3_Net_Clear_p0.dec r (fun s => glacierref3_Net_Clear_b3 s.1 s.2.1 s.2.2.1 s.2.2.2.1 s.2.2.2.2 R w) | .exit _ => False | .ret => retQ Try.prog Try.f26.results R .ret [] r w | _ => False) h (by kernel_rfl) (fun s r w h => ?_) glacierref3_Net_Clear_p0_ok (fun _ _ _ h => h) ?_
  · obtain ⟨n1, node1, l, l_n, l_c⟩ := s
    have h : glacierref3_Net_Clear_b3 n1 node1 l l_n l_c R w := h
    refine Wp_seq_via glacierref3_Net_Clear_p1 (fun s w => glacierref3_Net_Clear_b0 s.1 s.2.1 s.2.2.1 s.2.2.2 R w) (fun s r w h => ?_) (fun hN1 => ?_)
    · obtain ⟨n4, l3, l_n3, l_c3⟩ := s
      have h : glacierref3_Net_Clear_b0 n4 l3 l_n3 l_c3 R w := h
      refine Wp_leaf_end (Q0 := fun e _ r w => match e with | .normal => retQ Try.prog Try.f26.results R .normal [] r w | .exit _ => False | .ret => retQ Try.prog Try.f26.results R .ret [] r w | _ => False) h (by kernel_rfl) ?_
      intro e _ r w h
      cases e with
      | normal => exact h
      | exit i => exact h.elim
      | ret => exact h
      | goto i => exact h.elim
      | panic c => exact h.elim
      | outgrown => exact h.elim
    · refine Wp_glue glacierref3_Net_Clear_p2 (fun s w => glacierref3_Net_Clear_b2 s.1 s.2.1 s.2.2.1 s.2.2.2.1 s.2.2.2.2.1 s.2.2.2.2.2 R w) [_] (Q0 := fun e _ r w => match e with | .normal => glacierref3_Net_Clear_p2.dec r (fun s => glacierref3_Net_Clear_b2 s.1 s.2.1 s.2.2.1 s.2.2.2.1 s.2.2.2.2.1 s.2.2.2.2.2 R w) | .exit _ => False | .ret => retQ Try.prog Try.f26.results R .ret [] r w | _ => False) h (by kernel_rfl) (fun s r w h => ?_) glacierref3_Net_Clear_p2_ok (fun _ _ _ h => h) ?_
      · obtain ⟨n2, node2, l1, l_n1, l_c1, i⟩ := s
        have h : glacierref3_Net_Clear_b2 n2 node2 l1 l_n1 l_c1 i R w := h
        refine Wp_block_via glacierref3_Net_Clear_p1 (fun s w => glacierref3_Net_Clear_b0 s.1 s.2.1 s.2.2.1 s.2.2.2 R w) hN1 (fun hX2 => ?_)
        refine Wp_loop (p := glacierref3_Net_Clear_p2) glacierref3_Net_Clear_p2_ok (fun s r w K0 h => ?_) h
        obtain ⟨n3, node3, l2, l_n2, l_c2, i1⟩ := s
        have h : glacierref3_Net_Clear_b1 n3 node3 l2 l_n2 l_c2 i1 K0 R w := h
        have hK3 := fun (s : (Option Addr) × Int × (Option Addr) × Nat × Nat × Int) (r : Regs) (w : World) (h : K0 s w) => glacierref3_Net_Clear_p2_re s r (fun s => K0 s w) h
        refine Wp_leaf_end (Q0 := fun e _ r w => match e with | .normal => glacierref3_Net_Clear_p2.dec r (fun s => K0 s w) | .exit i => exitQ i 0 (glacierref3_Net_Clear_p1.dec r (fun s => glacierref3_Net_Clear_b0 s.1 s.2.1 s.2.2.1 s.2.2.2 R w)) (False) | .ret => retQ Try.prog Try.f26.results R .ret [] r w | _ => False) h (by kernel_rfl) ?_
        intro e _ r w h
        cases e with
        | normal =>
          obtain ⟨s, hs, h⟩ := glacierref3_Net_Clear_p2_ok _ _ h
          rw [← hs]
          exact hK3 s r w h
        | exit i =>
          rcases exitQ_elim h with ⟨rfl, h⟩ | ⟨_, h⟩
          · obtain ⟨s, hs, h⟩ := glacierref3_Net_Clear_p1_ok _ _ h
            rw [← hs]
            exact hX2 s r w h
          exact h.elim
        | ret => exact h
        | goto i => exact h.elim
        | panic c => exact h.elim
        | outgrown => exact h.elim
      · intro e _ r w hne h
        cases e with
        | normal => exact absurd rfl hne
        | exit i => exact h.elim
        | ret => exact h
        | goto i => exact h.elim
        | panic c => exact h.elim
        | outgrown => exact h.elim
  · intro e _ r w hne h
    cases e with
    | normal => exact absurd rfl hne
    | exit i => exact h.elim
    | ret => exact h
    | goto i => exact h.elim
    | panic c => exact h.elim
    | outgrown => exact h.elim

end Go.Proofs.Ytienifnpacoahaa
