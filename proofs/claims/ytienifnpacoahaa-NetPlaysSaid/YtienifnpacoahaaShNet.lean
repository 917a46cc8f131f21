/- Printed by a program of this claim: the shallow readings of functions, and that they are sound. -/
import Derived.Test.YtienifnpacoahaaShNames
namespace Go.Proofs.Ytienifnpacoahaa
open Go.Sh

/- slices.Clone[[]byte,byte] -/
def slices_Clone_s_byte_byte_b0 (s : Option Addr) (s_n : Nat) (s_c : Nat) (R : Value → World → Prop) (w : World) : Prop :=
  Br (Option.isNone s) (
  R (.slice none 0 0) w) (
  AL w (.cells #[] 5) fun b w_ =>
  rRun Try.prog (Builtin.append_ #[22, 22] 22 #[(.slice (some b) 0 0), (.slice s s_n s_c)]) w_ fun sr w_1 =>
  mSlice sr fun v v_n v_c =>
  R (.slice v v_n v_c) w_1)

theorem slices_Clone_s_byte_byte_sound (s : Option Addr) (s_n : Nat) (s_c : Nat) (R : Value → World → Prop) (w : World) (h : slices_Clone_s_byte_byte_b0 s s_n s_c R w) :
    CallR Try.prog fn_slices_Clone_s_byte_byte #[(.slice s s_n s_c)] w R := by
  refine CallR_intro (args := [(.slice s s_n s_c)]) Try.func18 rfl (Nat.le_of_ble_eq_true (by kernel_rfl)) ?_
  refine Wp_leaf_end (Q0 := fun e _ r w => match e with | .normal => retQ Try.prog Try.f18.results R .normal [] r w | .exit _ => False | .ret => retQ Try.prog Try.f18.results R .ret [] r w | _ => False) h (by kernel_rfl) ?_
  intro e _ r w h
  cases e with
  | normal => exact h
  | exit i => exact h.elim
  | ret => exact h
  | goto i => exact h.elim
  | panic c => exact h.elim
  | outgrown => exact h.elim

/- slices.Delete[[][]byte,[]byte] -/
def slices_Delete_s_s_byte_s_byte_b0 (s : Option Addr) (s_n : Nat) (s_c : Nat) (i : Int) (j : Int) (R : Value → World → Prop) (w : World) : Prop :=
  rRun Try.prog (Instr.sliceAt 53 (.slice s s_n s_c) (some (.int .i64 i)) (some (.int .i64 j)) (some (.int .i64 (s_n : Int)))) w fun sr w_ =>
  mSlice sr fun _ _ _ =>
  Br (i == j) (
  R (.slice s s_n s_c) w_) (
  LetW (World.drew w_) fun w_1 =>
  rRun Try.prog (Instr.sliceAt 53 (.slice s s_n s_c) none (some (.int .i64 i)) none) w_1 fun sr1 w_2 =>
  mSlice sr1 fun v1 v_n1 v_c1 =>
  (w_2 = w_1 ∧ 
  rRun Try.prog (Instr.sliceAt 53 (.slice s s_n s_c) (some (.int .i64 j)) none none) w_1 fun sr2 w_3 =>
  mSlice sr2 fun v2 v_n2 v_c2 =>
  (w_3 = w_1 ∧ 
  rRun Try.prog (Builtin.append_ #[53, 53] 53 #[(.slice v1 v_n1 v_c1), (.slice v2 v_n2 v_c2)]) w_1 fun sr3 w_4 =>
  mSlice sr3 fun v3 v_n3 v_c3 =>
  rRun Try.prog (Instr.sliceAt 53 (.slice v3 v_n3 v_c3) (some (.int .i64 (v_n3 : Int))) (some (.int .i64 (s_n : Int))) none) w_4 fun sr4 w_5 =>
  mSlice sr4 fun v4 v_n4 v_c4 =>
  rRun Try.prog (Builtin.clear_ #[53] 0 #[(.slice v4 v_n4 v_c4)]) w_5 fun sr5 w_6 =>
  mTup sr5 fun l =>
  mNil l (
  R (.slice v3 v_n3 v_c3) w_6))))

theorem slices_Delete_s_s_byte_s_byte_sound (s : Option Addr) (s_n : Nat) (s_c : Nat) (i : Int) (j : Int) (R : Value → World → Prop) (w : World) (h : slices_Delete_s_s_byte_s_byte_b0 s s_n s_c i j R w) :
    CallR Try.prog fn_slices_Delete_s_s_byte_s_byte #[(.slice s s_n s_c), (.int .i64 i), (.int .i64 j)] w R := by
  refine CallR_intro (args := [(.slice s s_n s_c), (.int .i64 i), (.int .i64 j)]) Try.func32 rfl (Nat.le_of_ble_eq_true (by kernel_rfl)) ?_
  refine Wp_leaf_end (Q0 := fun e _ r w => match e with | .normal => retQ Try.prog Try.f32.results R .normal [] r w | .exit _ => False | .ret => retQ Try.prog Try.f32.results R .ret [] r w | _ => False) h (by kernel_rfl) ?_
  intro e _ r w h
  cases e with
  | normal => exact h
  | exit i => exact h.elim
  | ret => exact h
  | goto i => exact h.elim
  | panic c => exact h.elim
  | outgrown => exact h.elim

/- glacier/net.New -/
def net_New_b0 (nodes : Int) (bound : Int) (R : Value → World → Prop) (w : World) : Prop :=
  Br (decide (nodes < 1)) (
  R (.tuple #[(.pointer none), (.int .i64 1)]) w) (
  Br (decide (nodes > 16)) (
  R (.tuple #[(.pointer none), (.int .i64 1)]) w) (
  Br (decide (bound < 1)) (
  R (.tuple #[(.pointer none), (.int .i64 1)]) w) (
  Br (decide (bound > 65536)) (
  R (.tuple #[(.pointer none), (.int .i64 1)]) w) (
  ALM w (.map #[] 0) fun m w_ =>
  AL w_ (.cells #[(.int .i64 nodes), (.int .i64 bound), (.int .i64 0), (.map (some m))] 49) fun p w_1 =>
  R (.tuple #[(.pointer (some p)), (.int .i64 0)]) w_1))))

theorem net_New_sound (nodes : Int) (bound : Int) (R : Value → World → Prop) (w : World) (h : net_New_b0 nodes bound R w) :
    CallR Try.prog fn_net_New #[(.int .i64 nodes), (.int .i64 bound)] w R := by
  refine CallR_intro (args := [(.int .i64 nodes), (.int .i64 bound)]) Try.func7 rfl (Nat.le_of_ble_eq_true (by kernel_rfl)) ?_
  refine Wp_leaf_end (Q0 := fun e _ r w => match e with | .normal => retQ Try.prog Try.f7.results R .normal [] r w | .exit _ => False | .ret => retQ Try.prog Try.f7.results R .ret [] r w | _ => False) h (by kernel_rfl) ?_
  intro e _ r w h
  cases e with
  | normal => exact h
  | exit i => exact h.elim
  | ret => exact h
  | goto i => exact h.elim
  | panic c => exact h.elim
  | outgrown => exact h.elim

/- (*glacier/net.Net).Send$1 -/
def net_Net_Send_1_b0 (k : Int) (cap : Addr) (R : Value → World → Prop) (w : World) : Prop :=
  Br (decide (k ≥ 0)) (
  LDP w cap fun v =>
  NN v fun p =>
  LDI .i64 w p fun v1 =>
  R (.bool (decide (k < v1))) w) (
  R (.bool false) w)

theorem net_Net_Send_1_sound (k : Int) (cap : Addr) (R : Value → World → Prop) (w : World) (h : net_Net_Send_1_b0 k cap R w) :
    CallR Try.prog fn_net_Net_Send_1 #[(.int .i64 k), (.pointer (some cap))] w R := by
  refine CallR_intro (args := [(.int .i64 k), (.pointer (some cap))]) Try.func17 rfl (Nat.le_of_ble_eq_true (by kernel_rfl)) ?_
  refine Wp_leaf_end (Q0 := fun e _ r w => match e with | .normal => retQ Try.prog Try.f17.results R .normal [] r w | .exit _ => False | .ret => retQ Try.prog Try.f17.results R .ret [] r w | _ => False) h (by kernel_rfl) ?_
  intro e _ r w h
  cases e with
  | normal => exact h
  | exit i => exact h.elim
  | ret => exact h
  | goto i => exact h.elim
  | panic c => exact h.elim
  | outgrown => exact h.elim

/- (*glacier/net.Net).Send -/
def net_Net_Send_b0 (laid3 : Int) (R : Value → World → Prop) (w : World) : Prop :=
  R (.int .i64 laid3) w

def net_Net_Send_b1 (from_3 : Int) (b3 : Option Addr) (b_n3 : Nat) (b_c3 : Nat) (n4 : Addr) (laid2 : Int) (node2 : Value) (t151 : Option Addr) (t15_n1 : Nat) (t15_c1 : Nat) (t161 : Int) (t171 : Int) (K0 : (Int × (Option Addr) × Nat × Nat × Addr × Int × Value × (Option Addr) × Nat × Nat × Int × Int) → World → Prop) (R : Value → World → Prop) (w : World) : Prop :=
  Br (decide (t171 < t161)) (
  IX t151 t15_n1 t171 1 fun a =>
  LDI .i64 w a fun v =>
  AL w (.cells #[(.int .i64 0), (.int .i64 0)] 52) fun p w_1 =>
  ST w_1 p (.int .i64 from_3) fun w_2 =>
  ST w_2 (Addr.add p 1) (.int .i64 v) fun w_3 =>
  LetW (World.drew w_3) fun w_4 =>
  CallV Try.prog node2 [(.int .i64 from_3)] w_4 fun res w_5 =>
  mBool res fun v1 =>
  Br v1 (
  CallV Try.prog node2 [(.int .i64 v)] w_5 fun res1 w_6 =>
  mBool res1 fun v2 =>
  Br v2 (
  LDP w_6 n4 fun v3 =>
  NN v3 fun p1 =>
  LDM w_6 (Addr.add p1 3) fun v4 =>
  LDI .i64 w_6 p fun from_4 =>
  LDI .i64 w_6 (Addr.add p 1) fun to2 =>
  rRun Try.prog (Instr.lookup 47 (.map v4) (.agg #[(.int .i64 from_4), (.int .i64 to2)]) false) w_6 fun vr w_7 =>
  mSlice vr fun _ v_n _ =>
  (w_7 = w_6 ∧ 
  (w_6 = w_6 ∧ 
  LDP w_6 n4 fun v6 =>
  NN v6 fun p2 =>
  LDI .i64 w_6 (Addr.add p2 1) fun v7 =>
  Br (decide ((v_n : Int) < v7)) (
  LetW (World.drew w_6) fun w_8 =>
  LDP w_8 n4 fun v8 =>
  NN v8 fun p3 =>
  LDM w_8 (Addr.add p3 3) fun v9 =>
  LDI .i64 w_8 p fun from_5 =>
  LDI .i64 w_8 (Addr.add p 1) fun to3 =>
  CallR Try.prog fn_slices_Clone_s_byte_byte #[(.slice b3 b_n3 b_c3)] w_8 fun res2 w_9 =>
  mSlice res2 fun v10 v_n1 v_c1 =>
  (World.cell? w_9 p = some (.int .i64 from_5) ∧ 
  (World.cell? w_9 (Addr.add p 1) = some (.int .i64 to3) ∧ 
  (World.cell? w_9 (Addr.add p3 3) = some (.map v9) ∧ 
  (World.cell? w_9 n4 = some (.pointer v8) ∧ 
  AL w_9 (.cells #[(.slice v10 v_n1 v_c1)] 22) fun b4 w_10 =>
  (World.cell? w_10 p = some (.int .i64 from_5) ∧ 
  (World.cell? w_10 (Addr.add p 1) = some (.int .i64 to3) ∧ 
  (World.cell? w_10 (Addr.add p3 3) = some (.map v9) ∧ 
  (World.cell? w_10 n4 = some (.pointer v8) ∧ 
  rRun Try.prog (Instr.mapEntry 47 (.map v9) (.agg #[(.int .i64 from_5), (.int .i64 to3)])) w_10 fun er w_11 =>
  mTup er fun l =>
  mNth l 0 fun x =>
  mSlice x fun v11 v_n2 v_c2 =>
  mTup er fun l1 =>
  mNth l1 1 fun x1 =>
  mInt .i64 x1 fun v12 =>
  rRun Try.prog (Builtin.append_ #[53, 53] 53 #[(.slice v11 v_n2 v_c2), (.slice (some b4) 1 1)]) w_11 fun sr w_12 =>
  mSlice sr fun v13 v_n3 v_c3 =>
  rRun Try.prog (Instr.entryStore 47 (.map v9) (.int .i64 v12) (.slice v13 v_n3 v_c3)) w_12 fun _ w_13 =>
  K0 (from_3, b3, b_n3, b_c3, n4, IntKind.wrap .i64 (laid2 + 1), node2, t151, t15_n1, t15_c1, t161, IntKind.wrap .i64 (t171 + 1)) w_13))))))))) (
  K0 (from_3, b3, b_n3, b_c3, n4, laid2, node2, t151, t15_n1, t15_c1, t161, IntKind.wrap .i64 (t171 + 1)) w_6)))) (
  K0 (from_3, b3, b_n3, b_c3, n4, laid2, node2, t151, t15_n1, t15_c1, t161, IntKind.wrap .i64 (t171 + 1)) w_6)) (
  K0 (from_3, b3, b_n3, b_c3, n4, laid2, node2, t151, t15_n1, t15_c1, t161, IntKind.wrap .i64 (t171 + 1)) w_5)) (
  net_Net_Send_b0 laid2 R w)

def net_Net_Send_b2 (from_2 : Int) (b2 : Option Addr) (b_n2 : Nat) (b_c2 : Nat) (n3 : Addr) (laid1 : Int) (node1 : Value) (t15 : Option Addr) (t15_n : Nat) (t15_c : Nat) (t16 : Int) (t17 : Int) (R : Value → World → Prop) (w : World) : Prop :=
  LoopS (σ := Int × (Option Addr) × Nat × Nat × Addr × Int × Value × (Option Addr) × Nat × Nat × Int × Int) (fun s w K0 =>
  net_Net_Send_b1 s.1 s.2.1 s.2.2.1 s.2.2.2.1 s.2.2.2.2.1 s.2.2.2.2.2.1 s.2.2.2.2.2.2.1 s.2.2.2.2.2.2.2.1 s.2.2.2.2.2.2.2.2.1 s.2.2.2.2.2.2.2.2.2.1 s.2.2.2.2.2.2.2.2.2.2.1 s.2.2.2.2.2.2.2.2.2.2.2 K0 R w) (from_2, b2, b_n2, b_c2, n3, laid1, node1, t15, t15_n, t15_c, t16, t17) w

def net_Net_Send_b3 (from_1 : Int) (b1 : Option Addr) (b_n1 : Nat) (b_c1 : Nat) (to1 : Option Addr) (to_n1 : Nat) (to_c1 : Nat) (n2 : Addr) (laid : Int) (node : Value) (R : Value → World → Prop) (w : World) : Prop :=
  net_Net_Send_b2 from_1 b1 b_n1 b_c1 n2 laid node to1 to_n1 to_c1 (to_n1 : Int) 0 R w

def net_Net_Send_b4 (n : Option Addr) (from_ : Int) (b : Option Addr) (b_n : Nat) (b_c : Nat) (to : Option Addr) (to_n : Nat) (to_c : Nat) (R : Value → World → Prop) (w : World) : Prop :=
  AL w (.cells #[(.pointer n)] 24) fun n1 w_ =>
  net_Net_Send_b3 from_ b b_n b_c to to_n to_c n1 0 (.func (.func fn_net_Net_Send_1) #[] #[(.pointer (some n1))]) R w_

def net_Net_Send_p0 : Point (Int × (Option Addr) × Nat × Nat × (Option Addr) × Nat × Nat × Addr × Int × Value) := { slots := fun s => [(1, (.int .i64 s.1)), (2, (.slice s.2.1 s.2.2.1 s.2.2.2.1)), (3, (.slice s.2.2.2.2.1 s.2.2.2.2.2.1 s.2.2.2.2.2.2.1)), (4, (.pointer (some s.2.2.2.2.2.2.2.1))), (9, (.int .i64 s.2.2.2.2.2.2.2.2.1)), (10, s.2.2.2.2.2.2.2.2.2)], dec := fun r K => mInt .i64 (r 1) fun x => mSlice (r 2) fun x1 x2 x3 => mSlice (r 3) fun x4 x5 x6 => mPA (r 4) fun x7 => mInt .i64 (r 9) fun x8 => K (x, x1, x2, x3, x4, x5, x6, x7, x8, (r 10)) }
theorem net_Net_Send_p0_ok : net_Net_Send_p0.ok := by
  intro r K h
  unfold net_Net_Send_p0 at h
  obtain ⟨x, e0, h⟩ := mInt_elim h
  obtain ⟨x1, x2, x3, e1, h⟩ := mSlice_elim h
  obtain ⟨x4, x5, x6, e2, h⟩ := mSlice_elim h
  obtain ⟨x7, e3, h⟩ := mPA_elim h
  obtain ⟨x8, e4, h⟩ := mInt_elim h
  exact ⟨(x, x1, x2, x3, x4, x5, x6, x7, x8, (r 10)), regsOf_self (L := [(1, (.int .i64 x)), (2, (.slice x1 x2 x3)), (3, (.slice x4 x5 x6)), (4, (.pointer (some x7))), (9, (.int .i64 x8)), (10, (r 10))]) (List.forall_mem_cons.2 ⟨e0, List.forall_mem_cons.2 ⟨e1, List.forall_mem_cons.2 ⟨e2, List.forall_mem_cons.2 ⟨e3, List.forall_mem_cons.2 ⟨e4, List.forall_mem_cons.2 ⟨rfl, List.forall_mem_nil _⟩⟩⟩⟩⟩⟩), h⟩
theorem net_Net_Send_p0_re (s : Int × (Option Addr) × Nat × Nat × (Option Addr) × Nat × Nat × Addr × Int × Value) (r : Regs) (K : (Int × (Option Addr) × Nat × Nat × (Option Addr) × Nat × Nat × Addr × Int × Value) → Prop) (h : K s) : net_Net_Send_p0.dec (regsOf (net_Net_Send_p0.slots s) r) K := by
  obtain ⟨x9, x10, x11, x12, x13, x14, x15, x16, x17, x18⟩ := s
  exact cast (show K (x9, x10, x11, x12, x13, x14, x15, x16, x17, x18) = net_Net_Send_p0.dec (regsOf (net_Net_Send_p0.slots (x9, x10, x11, x12, x13, x14, x15, x16, x17, x18)) r) K by kernel_rfl) h

def net_Net_Send_p1 : Point (Int) := { slots := fun s => [(9, (.int .i64 s))], dec := fun r K => mInt .i64 (r 9) fun x => K x }
theorem net_Net_Send_p1_ok : net_Net_Send_p1.ok := by
  intro r K h
  unfold net_Net_Send_p1 at h
  obtain ⟨x, e0, h⟩ := mInt_elim h
  exact ⟨x, regsOf_self (L := [(9, (.int .i64 x))]) (List.forall_mem_cons.2 ⟨e0, List.forall_mem_nil _⟩), h⟩
theorem net_Net_Send_p1_re (s : Int) (r : Regs) (K : Int → Prop) (h : K s) : net_Net_Send_p1.dec (regsOf (net_Net_Send_p1.slots s) r) K := by
  exact cast (show K s = net_Net_Send_p1.dec (regsOf (net_Net_Send_p1.slots s) r) K by kernel_rfl) h

def net_Net_Send_p2 : Point (Int × (Option Addr) × Nat × Nat × Addr × Int × Value × (Option Addr) × Nat × Nat × Int × Int) := { slots := fun s => [(1, (.int .i64 s.1)), (2, (.slice s.2.1 s.2.2.1 s.2.2.2.1)), (4, (.pointer (some s.2.2.2.2.1))), (9, (.int .i64 s.2.2.2.2.2.1)), (10, s.2.2.2.2.2.2.1), (15, (.slice s.2.2.2.2.2.2.2.1 s.2.2.2.2.2.2.2.2.1 s.2.2.2.2.2.2.2.2.2.1)), (16, (.int .i64 s.2.2.2.2.2.2.2.2.2.2.1)), (17, (.int .i64 s.2.2.2.2.2.2.2.2.2.2.2))], dec := fun r K => mInt .i64 (r 1) fun x => mSlice (r 2) fun x1 x2 x3 => mPA (r 4) fun x4 => mInt .i64 (r 9) fun x5 => mSlice (r 15) fun x6 x7 x8 => mInt .i64 (r 16) fun x9 => mInt .i64 (r 17) fun x10 => K (x, x1, x2, x3, x4, x5, (r 10), x6, x7, x8, x9, x10) }
theorem net_Net_Send_p2_ok : net_Net_Send_p2.ok := by
  intro r K h
  unfold net_Net_Send_p2 at h
  obtain ⟨x, e0, h⟩ := mInt_elim h
  obtain ⟨x1, x2, x3, e1, h⟩ := mSlice_elim h
  obtain ⟨x4, e2, h⟩ := mPA_elim h
  obtain ⟨x5, e3, h⟩ := mInt_elim h
  obtain ⟨x6, x7, x8, e5, h⟩ := mSlice_elim h
  obtain ⟨x9, e6, h⟩ := mInt_elim h
  obtain ⟨x10, e7, h⟩ := mInt_elim h
  exact ⟨(x, x1, x2, x3, x4, x5, (r 10), x6, x7, x8, x9, x10), regsOf_self (L := [(1, (.int .i64 x)), (2, (.slice x1 x2 x3)), (4, (.pointer (some x4))), (9, (.int .i64 x5)), (10, (r 10)), (15, (.slice x6 x7 x8)), (16, (.int .i64 x9)), (17, (.int .i64 x10))]) (List.forall_mem_cons.2 ⟨e0, List.forall_mem_cons.2 ⟨e1, List.forall_mem_cons.2 ⟨e2, List.forall_mem_cons.2 ⟨e3, List.forall_mem_cons.2 ⟨rfl, List.forall_mem_cons.2 ⟨e5, List.forall_mem_cons.2 ⟨e6, List.forall_mem_cons.2 ⟨e7, List.forall_mem_nil _⟩⟩⟩⟩⟩⟩⟩⟩), h⟩
theorem net_Net_Send_p2_re (s : Int × (Option Addr) × Nat × Nat × Addr × Int × Value × (Option Addr) × Nat × Nat × Int × Int) (r : Regs) (K : (Int × (Option Addr) × Nat × Nat × Addr × Int × Value × (Option Addr) × Nat × Nat × Int × Int) → Prop) (h : K s) : net_Net_Send_p2.dec (regsOf (net_Net_Send_p2.slots s) r) K := by
  obtain ⟨x11, x12, x13, x14, x15, x16, x17, x18, x19, x20, x21, x22⟩ := s
  exact cast (show K (x11, x12, x13, x14, x15, x16, x17, x18, x19, x20, x21, x22) = net_Net_Send_p2.dec (regsOf (net_Net_Send_p2.slots (x11, x12, x13, x14, x15, x16, x17, x18, x19, x20, x21, x22)) r) K by kernel_rfl) h

theorem net_Net_Send_sound (n : Option Addr) (from_ : Int) (b : Option Addr) (b_n : Nat) (b_c : Nat) (to : Option Addr) (to_n : Nat) (to_c : Nat) (R : Value → World → Prop) (w : World) (h : net_Net_Send_b4 n from_ b b_n b_c to to_n to_c R w) :
    CallR Try.prog fn_net_Net_Send #[(.pointer n), (.int .i64 from_), (.slice b b_n b_c), (.slice to to_n to_c)] w R := by
  refine CallR_intro (args := [(.pointer n), (.int .i64 from_), (.slice b b_n b_c), (.slice to to_n to_c)]) Try.func8 rfl (Nat.le_of_ble_eq_true (by kernel_rfl)) ?_
  refine Wp_glue net_Net_Send_p0 (fun s w => net_Net_Send_b3 s.1 s.2.1 s.2.2.1 s.2.2.2.1 s.2.2.2.2.1 s.2.2.2.2.2.1 s.2.2.2.2.2.2.1 s.2.2.2.2.2.2.2.1 s.2.2.2.2.2.2.2.2.1 s.2.2.2.2.2.2.2.2.2 R w) [_, _, _] (Q0 := fun e _ r w => match e with | .normal => net_Net_Send_p0.dec r (fun s => net_Net_Send_b3 s.1 s.2.1 s.2.2.1 s.2.2.2.1 s.2.2.2.2.1 s.2.2.2.2.2.1 s.2.2.2.2.2.2.1 s.2.2.2.2.2.2.2.1 s.2.2.2.2.2.2.2.2.1 s.2.2.2.2.2.2.2.2.2 R w) | .exit _ => False | .ret => retQ Try.prog Try.f8.results R .ret [] r w | _ => False) h (by kernel_rfl) (fun s r w h => ?_) net_Net_Send_p0_ok (fun _ _ _ h => h) ?_
  · obtain ⟨from_1, b1, b_n1, b_c1, to1, to_n1, to_c1, n2, laid, node⟩ := s
    have h : net_Net_Send_b3 from_1 b1 b_n1 b_c1 to1 to_n1 to_c1 n2 laid node R w := h
    refine Wp_seq_via net_Net_Send_p1 (fun s w => net_Net_Send_b0 s R w) (fun s r w h => ?_) (fun hN1 => ?_)
    · obtain ⟨laid3, rfl⟩ : ∃ y, y = s := ⟨s, rfl⟩
      have h : net_Net_Send_b0 laid3 R w := h
      refine Wp_leaf_end (Q0 := fun e _ r w => match e with | .normal => retQ Try.prog Try.f8.results R .normal [] r w | .exit _ => False | .ret => retQ Try.prog Try.f8.results R .ret [] r w | _ => False) h (by kernel_rfl) ?_
      intro e _ r w h
      cases e with
      | normal => exact h
      | exit i => exact h.elim
      | ret => exact h
      | goto i => exact h.elim
      | panic c => exact h.elim
      | outgrown => exact h.elim
    · refine Wp_glue net_Net_Send_p2 (fun s w => net_Net_Send_b2 s.1 s.2.1 s.2.2.1 s.2.2.2.1 s.2.2.2.2.1 s.2.2.2.2.2.1 s.2.2.2.2.2.2.1 s.2.2.2.2.2.2.2.1 s.2.2.2.2.2.2.2.2.1 s.2.2.2.2.2.2.2.2.2.1 s.2.2.2.2.2.2.2.2.2.2.1 s.2.2.2.2.2.2.2.2.2.2.2 R w) [_] (Q0 := fun e _ r w => match e with | .normal => net_Net_Send_p2.dec r (fun s => net_Net_Send_b2 s.1 s.2.1 s.2.2.1 s.2.2.2.1 s.2.2.2.2.1 s.2.2.2.2.2.1 s.2.2.2.2.2.2.1 s.2.2.2.2.2.2.2.1 s.2.2.2.2.2.2.2.2.1 s.2.2.2.2.2.2.2.2.2.1 s.2.2.2.2.2.2.2.2.2.2.1 s.2.2.2.2.2.2.2.2.2.2.2 R w) | .exit _ => False | .ret => retQ Try.prog Try.f8.results R .ret [] r w | _ => False) h (by kernel_rfl) (fun s r w h => ?_) net_Net_Send_p2_ok (fun _ _ _ h => h) ?_
      · obtain ⟨from_2, b2, b_n2, b_c2, n3, laid1, node1, t15, t15_n, t15_c, t16, t17⟩ := s
        have h : net_Net_Send_b2 from_2 b2 b_n2 b_c2 n3 laid1 node1 t15 t15_n t15_c t16 t17 R w := h
        refine Wp_block_via net_Net_Send_p1 (fun s w => net_Net_Send_b0 s R w) hN1 (fun hX2 => ?_)
        refine Wp_loop (p := net_Net_Send_p2) net_Net_Send_p2_ok (fun s r w K0 h => ?_) h
        obtain ⟨from_3, b3, b_n3, b_c3, n4, laid2, node2, t151, t15_n1, t15_c1, t161, t171⟩ := s
        have h : net_Net_Send_b1 from_3 b3 b_n3 b_c3 n4 laid2 node2 t151 t15_n1 t15_c1 t161 t171 K0 R w := h
        have hK3 := fun (s : Int × (Option Addr) × Nat × Nat × Addr × Int × Value × (Option Addr) × Nat × Nat × Int × Int) (r : Regs) (w : World) (h : K0 s w) => net_Net_Send_p2_re s r (fun s => K0 s w) h
        refine Wp_leaf_end (Q0 := fun e _ r w => match e with | .normal => net_Net_Send_p2.dec r (fun s => K0 s w) | .exit i => exitQ i 0 (net_Net_Send_p1.dec r (fun s => net_Net_Send_b0 s R w)) (False) | .ret => retQ Try.prog Try.f8.results R .ret [] r w | _ => False) h (by kernel_rfl) ?_
        intro e _ r w h
        cases e with
        | normal =>
          obtain ⟨s, hs, h⟩ := net_Net_Send_p2_ok _ _ h
          rw [← hs]
          exact hK3 s r w h
        | exit i =>
          rcases exitQ_elim h with ⟨rfl, h⟩ | ⟨_, h⟩
          · obtain ⟨s, hs, h⟩ := net_Net_Send_p1_ok _ _ h
            rw [← hs]
            exact hX2 s r w h
          exact h.elim
        | ret => exact h
        | goto i => exact h.elim
        | panic c => exact h.elim
        | outgrown => exact h.elim
      · intro e _ r w hne h
        cases e with
        | normal => exact absurd rfl hne
        | exit i => exact h.elim
        | ret => exact h
        | goto i => exact h.elim
        | panic c => exact h.elim
        | outgrown => exact h.elim
  · intro e _ r w hne h
    cases e with
    | normal => exact absurd rfl hne
    | exit i => exact h.elim
    | ret => exact h
    | goto i => exact h.elim
    | panic c => exact h.elim
    | outgrown => exact h.elim

/- (*glacier/net.Net).meant$1 -/
def net_Net_meant_1_b0 (cap : Addr) (cap1 : Addr) (cap2 : Addr) (cap3 : Addr) (R : Value → World → Prop) (w : World) : Prop :=
  AL w (.cells #[(.int .i64 0), (.int .i64 0)] 52) fun p w_ =>
  LDI .i64 w_ cap fun v =>
  LDI .i64 w_ cap1 fun v1 =>
  AL w_ (.cells #[(.int .i64 0), (.int .i64 0)] 52) fun p1 w_1 =>
  ST w_1 p1 (.int .i64 v) fun w_2 =>
  ST w_2 (Addr.add p1 1) (.int .i64 v1) fun w_3 =>
  LetW (World.drew w_3) fun w_4 =>
  LDP w_4 cap2 fun v2 =>
  NN v2 fun p2 =>
  LDM w_4 (Addr.add p2 3) fun v3 =>
  LDI .i64 w_4 p1 fun from_ =>
  LDI .i64 w_4 (Addr.add p1 1) fun to =>
  rRun Try.prog (Instr.lookup 47 (.map v3) (.agg #[(.int .i64 from_), (.int .i64 to)]) false) w_4 fun vr w_5 =>
  mSlice vr fun _ v_n _ =>
  (w_5 = w_4 ∧ 
  (w_4 = w_4 ∧ 
  Br ((v_n : Int) == 0) (
  LDI .i64 w_4 p1 fun from_1 =>
  LDI .i64 w_4 (Addr.add p1 1) fun to1 =>
  ST w_4 p (.int .i64 from_1) fun w_6 =>
  ST w_6 (Addr.add p 1) (.int .i64 to1) fun w_7 =>
  LDI .i64 w_7 p fun from_2 =>
  LDI .i64 w_7 (Addr.add p 1) fun to2 =>
  R (.tuple #[(.agg #[(.int .i64 from_2), (.int .i64 to2)]), (.int .i64 0), (.bool false)]) w_7) (
  LetW (World.drew w_4) fun w_8 =>
  LDI .i64 w_8 p1 fun from_3 =>
  LDI .i64 w_8 (Addr.add p1 1) fun to3 =>
  LDI .i64 w_8 cap3 fun v5 =>
  (w_8 = w_8 ∧ 
  LDP w_8 cap2 fun v6 =>
  NN v6 fun p3 =>
  LDM w_8 (Addr.add p3 3) fun v7 =>
  LDI .i64 w_8 p1 fun from_4 =>
  LDI .i64 w_8 (Addr.add p1 1) fun to4 =>
  rRun Try.prog (Instr.lookup 47 (.map v7) (.agg #[(.int .i64 from_4), (.int .i64 to4)]) false) w_8 fun vr1 w_9 =>
  mSlice vr1 fun v8 v_n1 v_c1 =>
  (w_9 = w_8 ∧ 
  (w_8 = w_8 ∧ 
  Req ((v_n1 : Int) ≠ 0) (
  ST w_8 p (.int .i64 from_3) fun w_10 =>
  ST w_10 (Addr.add p 1) (.int .i64 to3) fun w_11 =>
  (((w_11 = w_11 ∧ ((.int .i64 (v_n1 : Int)) : Value) = (.int .i64 (v_n1 : Int)))) ∧ 
  ((rRun Try.prog (Instr.lookup 47 (.map v7) (.agg #[(.int .i64 from_4), (.int .i64 to4)]) false) w_11 fun vr2 w_12 =>
  mSlice vr2 fun v9 v_n2 v_c2 =>
  (w_12 = w_11 ∧ ((.slice v9 v_n2 v_c2) : Value) = (.slice v8 v_n1 v_c1))) ∧ 
  (World.cell? w_11 p1 = some (.int .i64 from_4) ∧ 
  (World.cell? w_11 (Addr.add p1 1) = some (.int .i64 to4) ∧ 
  (World.cell? w_11 (Addr.add p3 3) = some (.map v7) ∧ 
  (World.cell? w_11 cap2 = some (.pointer v6) ∧ 
  (((w_11 = w_11 ∧ ((.int .i64 (if 0 > v5 then 0 else v5)) : Value) = (.int .i64 (if 0 > v5 then 0 else v5)))) ∧ 
  (World.cell? w_11 cap3 = some (.int .i64 v5) ∧ 
  LDI .i64 w_11 p fun from_5 =>
  LDI .i64 w_11 (Addr.add p 1) fun to5 =>
  R (.tuple #[(.agg #[(.int .i64 from_5), (.int .i64 to5)]), (.int .i64 (Int.tmod (if 0 > v5 then 0 else v5) (v_n1 : Int))), (.bool true)]) w_11)))))))))))))))

theorem net_Net_meant_1_sound (cap : Addr) (cap1 : Addr) (cap2 : Addr) (cap3 : Addr) (R : Value → World → Prop) (w : World) (h : net_Net_meant_1_b0 cap cap1 cap2 cap3 R w) :
    CallR Try.prog fn_net_Net_meant_1 #[(.pointer (some cap)), (.pointer (some cap1)), (.pointer (some cap2)), (.pointer (some cap3))] w R := by
  refine CallR_intro (args := [(.pointer (some cap)), (.pointer (some cap1)), (.pointer (some cap2)), (.pointer (some cap3))]) Try.func31 rfl (Nat.le_of_ble_eq_true (by kernel_rfl)) ?_
  refine Wp_leaf_end (Q0 := fun e _ r w => match e with | .normal => retQ Try.prog Try.f31.results R .normal [] r w | .exit _ => False | .ret => retQ Try.prog Try.f31.results R .ret [] r w | _ => False) h (by kernel_rfl) ?_
  intro e _ r w h
  cases e with
  | normal => exact h
  | exit i => exact h.elim
  | ret => exact h
  | goto i => exact h.elim
  | panic c => exact h.elim
  | outgrown => exact h.elim

/- (*glacier/net.Net).meant -/
def net_Net_meant_b0 (n : Option Addr) (from_ : Int) (to : Int) (pick : Int) (R : Value → World → Prop) (w : World) : Prop :=
  AL w (.cells #[(.pointer n)] 24) fun n1 w_ =>
  AL w_ (.cells #[(.int .i64 from_)] 3) fun from_1 w_1 =>
  AL w_1 (.cells #[(.int .i64 to)] 3) fun to1 w_2 =>
  AL w_2 (.cells #[(.int .i64 pick)] 3) fun pick1 w_3 =>
  R (.func (.func fn_net_Net_meant_1) #[] #[(.pointer (some from_1)), (.pointer (some to1)), (.pointer (some n1)), (.pointer (some pick1))]) w_3

theorem net_Net_meant_sound (n : Option Addr) (from_ : Int) (to : Int) (pick : Int) (R : Value → World → Prop) (w : World) (h : net_Net_meant_b0 n from_ to pick R w) :
    CallR Try.prog fn_net_Net_meant #[(.pointer n), (.int .i64 from_), (.int .i64 to), (.int .i64 pick)] w R := by
  refine CallR_intro (args := [(.pointer n), (.int .i64 from_), (.int .i64 to), (.int .i64 pick)]) Try.func19 rfl (Nat.le_of_ble_eq_true (by kernel_rfl)) ?_
  refine Wp_leaf_end (Q0 := fun e _ r w => match e with | .normal => retQ Try.prog Try.f19.results R .normal [] r w | .exit _ => False | .ret => retQ Try.prog Try.f19.results R .ret [] r w | _ => False) h (by kernel_rfl) ?_
  intro e _ r w h
  cases e with
  | normal => exact h
  | exit i => exact h.elim
  | ret => exact h
  | goto i => exact h.elim
  | panic c => exact h.elim
  | outgrown => exact h.elim

/- (*glacier/net.Net).out -/
def net_Net_out_b0 (n : Option Addr) (p_from : Int) (p_to : Int) (i : Int) (R : Value → World → Prop) (w : World) : Prop :=
  AL w (.cells #[(.int .i64 p_from), (.int .i64 p_to)] 52) fun p w_ =>
  LetW (World.drew w_) fun w_1 =>
  NN n fun p1 =>
  LDM w_1 (Addr.add p1 3) fun v =>
  LDI .i64 w_1 p fun from_ =>
  LDI .i64 w_1 (Addr.add p 1) fun to =>
  rRun Try.prog (Instr.lookup 47 (.map v) (.agg #[(.int .i64 from_), (.int .i64 to)]) false) w_1 fun vr w_2 =>
  mSlice vr fun v1 v_n _ =>
  (w_2 = w_1 ∧ 
  IX v1 v_n i 1 fun a =>
  LDSl w_1 a fun v2 v_n1 v_c1 =>
  LetW (World.drew w_1) fun w_3 =>
  NN n fun p2 =>
  LDM w_3 (Addr.add p2 3) fun v3 =>
  LDI .i64 w_3 p fun from_1 =>
  LDI .i64 w_3 (Addr.add p 1) fun to1 =>
  NN n fun p3 =>
  LDM w_3 (Addr.add p3 3) fun v4 =>
  LDI .i64 w_3 p fun from_2 =>
  LDI .i64 w_3 (Addr.add p 1) fun to2 =>
  rRun Try.prog (Instr.lookup 47 (.map v4) (.agg #[(.int .i64 from_2), (.int .i64 to2)]) false) w_3 fun vr1 w_4 =>
  mSlice vr1 fun v5 v_n2 v_c2 =>
  (w_4 = w_3 ∧ 
  CallR Try.prog fn_slices_Delete_s_s_byte_s_byte #[(.slice v5 v_n2 v_c2), (.int .i64 i), (.int .i64 (IntKind.wrap .i64 (i + 1)))] w_3 fun res w_5 =>
  mSlice res fun v6 v_n3 v_c3 =>
  (World.cell? w_5 p = some (.int .i64 from_1) ∧ 
  (World.cell? w_5 (Addr.add p 1) = some (.int .i64 to1) ∧ 
  (World.cell? w_5 (Addr.add p2 3) = some (.map v3) ∧ 
  rRun Try.prog (Instr.mapUpdate 47 (.map v3) (.agg #[(.int .i64 from_1), (.int .i64 to1)]) (.slice v6 v_n3 v_c3)) w_5 fun _ w_6 =>
  LetW (World.drew w_6) fun w_7 =>
  NN n fun p4 =>
  LDM w_7 (Addr.add p4 3) fun v7 =>
  LDI .i64 w_7 p fun from_3 =>
  LDI .i64 w_7 (Addr.add p 1) fun to3 =>
  rRun Try.prog (Instr.lookup 47 (.map v7) (.agg #[(.int .i64 from_3), (.int .i64 to3)]) false) w_7 fun vr2 w_8 =>
  mSlice vr2 fun _ v_n4 _ =>
  (w_8 = w_7 ∧ 
  (w_7 = w_7 ∧ 
  Br ((v_n4 : Int) == 0) (
  LetW (World.drew w_7) fun w_9 =>
  NN n fun p5 =>
  LDM w_9 (Addr.add p5 3) fun v9 =>
  LDI .i64 w_9 p fun from_4 =>
  LDI .i64 w_9 (Addr.add p 1) fun to4 =>
  rRun Try.prog (Builtin.delete_ #[47, 52] 0 #[(.map v9), (.agg #[(.int .i64 from_4), (.int .i64 to4)])]) w_9 fun sr w_10 =>
  mTup sr fun l =>
  mNil l (
  R (.slice v2 v_n1 v_c1) w_10)) (
  R (.slice v2 v_n1 v_c1) w_7))))))))

theorem net_Net_out_sound (n : Option Addr) (p_from : Int) (p_to : Int) (i : Int) (R : Value → World → Prop) (w : World) (h : net_Net_out_b0 n p_from p_to i R w) :
    CallR Try.prog fn_net_Net_out #[(.pointer n), (.agg #[(.int .i64 p_from), (.int .i64 p_to)]), (.int .i64 i)] w R := by
  refine CallR_intro (args := [(.pointer n), (.agg #[(.int .i64 p_from), (.int .i64 p_to)]), (.int .i64 i)]) Try.func20 rfl (Nat.le_of_ble_eq_true (by kernel_rfl)) ?_
  refine Wp_leaf_end (Q0 := fun e _ r w => match e with | .normal => retQ Try.prog Try.f20.results R .normal [] r w | .exit _ => False | .ret => retQ Try.prog Try.f20.results R .ret [] r w | _ => False) h (by kernel_rfl) ?_
  intro e _ r w h
  cases e with
  | normal => exact h
  | exit i => exact h.elim
  | ret => exact h
  | goto i => exact h.elim
  | panic c => exact h.elim
  | outgrown => exact h.elim

/- (*glacier/net.Net).Deliver -/
def net_Net_Deliver_b0 (n : Option Addr) (from_ : Int) (to : Int) (pick : Int) (R : Value → World → Prop) (w : World) : Prop :=
  AL w (.cells #[(.int .i64 0), (.int .i64 0), (.slice none 0 0)] 31) fun p w_ =>
  CallR Try.prog fn_net_Net_meant #[(.pointer n), (.int .i64 from_), (.int .i64 to), (.int .i64 pick)] w_ fun res w_1 =>
  CallV Try.prog res [] w_1 fun res1 w_2 =>
  mTup res1 fun l =>
  mCons l fun v l1 =>
  mAgg v fun v_l =>
  mCons v_l fun v_from l2 =>
  mInt .i64 v_from fun v_from1 =>
  mCons l2 fun v_to l3 =>
  mInt .i64 v_to fun v_to1 =>
  mNil l3 (
  mCons l1 fun v1 l4 =>
  mInt .i64 v1 fun v2 =>
  mCons l4 fun v3 l5 =>
  mBool v3 fun v4 =>
  mNil l5 (
  AL w_2 (.cells #[(.int .i64 0), (.int .i64 0)] 52) fun p1 w_3 =>
  ST w_3 p1 (.int .i64 v_from1) fun w_4 =>
  ST w_4 (Addr.add p1 1) (.int .i64 v_to1) fun w_5 =>
  Br (!v4) (
  ST w_5 p (.int .i64 0) fun w_6 =>
  ST w_6 (Addr.add p 1) (.int .i64 0) fun w_7 =>
  ST w_7 (Addr.add p 2) (.slice none 0 0) fun w_8 =>
  LDI .i64 w_8 p fun From =>
  LDI .i64 w_8 (Addr.add p 1) fun To =>
  LDSl w_8 (Addr.add p 2) fun Bytes Bytes_n Bytes_c =>
  R (.tuple #[(.agg #[(.int .i64 From), (.int .i64 To), (.slice Bytes Bytes_n Bytes_c)]), (.bool false)]) w_8) (
  LDI .i64 w_5 p1 fun from_1 =>
  LDI .i64 w_5 (Addr.add p1 1) fun to1 =>
  CallR Try.prog fn_net_Net_out #[(.pointer n), (.agg #[(.int .i64 from_1), (.int .i64 to1)]), (.int .i64 v2)] w_5 fun res2 w_9 =>
  mSlice res2 fun v5 v_n v_c =>
  ST w_9 p (.int .i64 from_) fun w_10 =>
  ST w_10 (Addr.add p 1) (.int .i64 to) fun w_11 =>
  ST w_11 (Addr.add p 2) (.slice v5 v_n v_c) fun w_12 =>
  LDI .i64 w_12 p fun From1 =>
  LDI .i64 w_12 (Addr.add p 1) fun To1 =>
  LDSl w_12 (Addr.add p 2) fun Bytes1 Bytes_n1 Bytes_c1 =>
  R (.tuple #[(.agg #[(.int .i64 From1), (.int .i64 To1), (.slice Bytes1 Bytes_n1 Bytes_c1)]), (.bool true)]) w_12)))

theorem net_Net_Deliver_sound (n : Option Addr) (from_ : Int) (to : Int) (pick : Int) (R : Value → World → Prop) (w : World) (h : net_Net_Deliver_b0 n from_ to pick R w) :
    CallR Try.prog fn_net_Net_Deliver #[(.pointer n), (.int .i64 from_), (.int .i64 to), (.int .i64 pick)] w R := by
  refine CallR_intro (args := [(.pointer n), (.int .i64 from_), (.int .i64 to), (.int .i64 pick)]) Try.func10 rfl (Nat.le_of_ble_eq_true (by kernel_rfl)) ?_
  refine Wp_leaf_end (Q0 := fun e _ r w => match e with | .normal => retQ Try.prog Try.f10.results R .normal [] r w | .exit _ => False | .ret => retQ Try.prog Try.f10.results R .ret [] r w | _ => False) h (by kernel_rfl) ?_
  intro e _ r w h
  cases e with
  | normal => exact h
  | exit i => exact h.elim
  | ret => exact h
  | goto i => exact h.elim
  | panic c => exact h.elim
  | outgrown => exact h.elim

/- (*glacier/net.Net).Drop -/
def net_Net_Drop_b0 (n : Option Addr) (from_ : Int) (to : Int) (pick : Int) (R : Value → World → Prop) (w : World) : Prop :=
  CallR Try.prog fn_net_Net_Deliver #[(.pointer n), (.int .i64 from_), (.int .i64 to), (.int .i64 pick)] w fun res w_ =>
  mTup res fun l =>
  mCons l fun v l1 =>
  mAgg v fun v_l =>
  mCons v_l fun v_From l2 =>
  mInt .i64 v_From fun v_From1 =>
  mCons l2 fun v_To l3 =>
  mInt .i64 v_To fun v_To1 =>
  mCons l3 fun v_Bytes l4 =>
  mSlice v_Bytes fun v_Bytes1 v_Bytes_n v_Bytes_c =>
  mNil l4 (
  mCons l1 fun v1 l5 =>
  mBool v1 fun v2 =>
  mNil l5 (
  AL w_ (.cells #[(.int .i64 0), (.int .i64 0), (.slice none 0 0)] 31) fun p w_1 =>
  ST w_1 p (.int .i64 v_From1) fun w_2 =>
  ST w_2 (Addr.add p 1) (.int .i64 v_To1) fun w_3 =>
  ST w_3 (Addr.add p 2) (.slice v_Bytes1 v_Bytes_n v_Bytes_c) fun w_4 =>
  R (.bool v2) w_4))

theorem net_Net_Drop_sound (n : Option Addr) (from_ : Int) (to : Int) (pick : Int) (R : Value → World → Prop) (w : World) (h : net_Net_Drop_b0 n from_ to pick R w) :
    CallR Try.prog fn_net_Net_Drop #[(.pointer n), (.int .i64 from_), (.int .i64 to), (.int .i64 pick)] w R := by
  refine CallR_intro (args := [(.pointer n), (.int .i64 from_), (.int .i64 to), (.int .i64 pick)]) Try.func12 rfl (Nat.le_of_ble_eq_true (by kernel_rfl)) ?_
  refine Wp_leaf_end (Q0 := fun e _ r w => match e with | .normal => retQ Try.prog Try.f12.results R .normal [] r w | .exit _ => False | .ret => retQ Try.prog Try.f12.results R .ret [] r w | _ => False) h (by kernel_rfl) ?_
  intro e _ r w h
  cases e with
  | normal => exact h
  | exit i => exact h.elim
  | ret => exact h
  | goto i => exact h.elim
  | panic c => exact h.elim
  | outgrown => exact h.elim

/- (*glacier/net.Net).Double -/
def net_Net_Double_b0 (n : Option Addr) (from_ : Int) (to : Int) (pick : Int) (R : Value → World → Prop) (w : World) : Prop :=
  CallR Try.prog fn_net_Net_meant #[(.pointer n), (.int .i64 from_), (.int .i64 to), (.int .i64 pick)] w fun res w_ =>
  CallV Try.prog res [] w_ fun res1 w_1 =>
  mTup res1 fun l =>
  mCons l fun v l1 =>
  mAgg v fun v_l =>
  mCons v_l fun v_from l2 =>
  mInt .i64 v_from fun v_from1 =>
  mCons l2 fun v_to l3 =>
  mInt .i64 v_to fun v_to1 =>
  mNil l3 (
  mCons l1 fun v1 l4 =>
  mInt .i64 v1 fun v2 =>
  mCons l4 fun v3 l5 =>
  mBool v3 fun v4 =>
  mNil l5 (
  AL w_1 (.cells #[(.int .i64 0), (.int .i64 0)] 52) fun p w_2 =>
  ST w_2 p (.int .i64 v_from1) fun w_3 =>
  ST w_3 (Addr.add p 1) (.int .i64 v_to1) fun w_4 =>
  LetW (World.drew w_4) fun w_5 =>
  (w_5 = w_5 ∧ 
  Br (!v4) (
  R (.bool false) w_5) (
  NN n fun p1 =>
  LDM w_5 (Addr.add p1 3) fun v5 =>
  LDI .i64 w_5 p fun from_1 =>
  LDI .i64 w_5 (Addr.add p 1) fun to1 =>
  rRun Try.prog (Instr.lookup 47 (.map v5) (.agg #[(.int .i64 from_1), (.int .i64 to1)]) false) w_5 fun vr w_6 =>
  mSlice vr fun _ v_n _ =>
  (w_6 = w_5 ∧ 
  (w_5 = w_5 ∧ 
  NN n fun p2 =>
  LDI .i64 w_5 (Addr.add p2 1) fun v7 =>
  Br ((v_n : Int) == v7) (
  R (.bool false) w_5) (
  LetW (World.drew w_5) fun w_7 =>
  NN n fun p3 =>
  LDM w_7 (Addr.add p3 3) fun v8 =>
  LDI .i64 w_7 p fun from_2 =>
  LDI .i64 w_7 (Addr.add p 1) fun to2 =>
  NN n fun p4 =>
  LDM w_7 (Addr.add p4 3) fun v9 =>
  LDI .i64 w_7 p fun from_3 =>
  LDI .i64 w_7 (Addr.add p 1) fun to3 =>
  rRun Try.prog (Instr.lookup 47 (.map v9) (.agg #[(.int .i64 from_3), (.int .i64 to3)]) false) w_7 fun vr1 w_8 =>
  mSlice vr1 fun v10 v_n1 _ =>
  (w_8 = w_7 ∧ 
  IX v10 v_n1 v2 1 fun a =>
  LDSl w_7 a fun v11 v_n2 v_c2 =>
  CallR Try.prog fn_slices_Clone_s_byte_byte #[(.slice v11 v_n2 v_c2)] w_7 fun res2 w_9 =>
  mSlice res2 fun v12 v_n3 v_c3 =>
  (World.cell? w_9 p = some (.int .i64 from_2) ∧ 
  (World.cell? w_9 (Addr.add p 1) = some (.int .i64 to2) ∧ 
  (World.cell? w_9 (Addr.add p3 3) = some (.map v8) ∧ 
  AL w_9 (.cells #[(.slice v12 v_n3 v_c3)] 22) fun b w_10 =>
  (World.cell? w_10 p = some (.int .i64 from_2) ∧ 
  (World.cell? w_10 (Addr.add p 1) = some (.int .i64 to2) ∧ 
  (World.cell? w_10 (Addr.add p3 3) = some (.map v8) ∧ 
  rRun Try.prog (Instr.mapEntry 47 (.map v8) (.agg #[(.int .i64 from_2), (.int .i64 to2)])) w_10 fun er w_11 =>
  mTup er fun l6 =>
  mNth l6 0 fun x =>
  mSlice x fun v13 v_n4 v_c4 =>
  mTup er fun l7 =>
  mNth l7 1 fun x1 =>
  mInt .i64 x1 fun v14 =>
  rRun Try.prog (Builtin.append_ #[53, 53] 53 #[(.slice v13 v_n4 v_c4), (.slice (some b) 1 1)]) w_11 fun sr w_12 =>
  mSlice sr fun v15 v_n5 v_c5 =>
  rRun Try.prog (Instr.entryStore 47 (.map v8) (.int .i64 v14) (.slice v15 v_n5 v_c5)) w_12 fun _ w_13 =>
  R (.bool true) w_13))))))))))))))

theorem net_Net_Double_sound (n : Option Addr) (from_ : Int) (to : Int) (pick : Int) (R : Value → World → Prop) (w : World) (h : net_Net_Double_b0 n from_ to pick R w) :
    CallR Try.prog fn_net_Net_Double #[(.pointer n), (.int .i64 from_), (.int .i64 to), (.int .i64 pick)] w R := by
  refine CallR_intro (args := [(.pointer n), (.int .i64 from_), (.int .i64 to), (.int .i64 pick)]) Try.func9 rfl (Nat.le_of_ble_eq_true (by kernel_rfl)) ?_
  refine Wp_leaf_end (Q0 := fun e _ r w => match e with | .normal => retQ Try.prog Try.f9.results R .normal [] r w | .exit _ => False | .ret => retQ Try.prog Try.f9.results R .ret [] r w | _ => False) h (by kernel_rfl) ?_
  intro e _ r w h
  cases e with
  | normal => exact h
  | exit i => exact h.elim
  | ret => exact h
  | goto i => exact h.elim
  | panic c => exact h.elim
  | outgrown => exact h.elim

/- (*glacier/net.Net).All -/
def net_Net_All_b0 (all3 : Int) (R : Value → World → Prop) (w : World) : Prop :=
  R (.int .i64 all3) w

def net_Net_All_b1 (all2 : Int) (t101 : Value) (K0 : (Int × Value) → World → Prop) (R : Value → World → Prop) (w : World) : Prop :=
  rRun Try.prog (Instr.next t101 false 0) w fun vr w_1 =>
  mTup vr fun l =>
  mNth l 0 fun x =>
  mBool x fun v1 =>
  Br v1 (
  rRun Try.prog (Instr.entry t101) w_1 fun vr1 w_2 =>
  mTup vr1 fun l1 =>
  mNth l1 1 fun x1 =>
  mSlice x1 fun _ v_n _ =>
  K0 (IntKind.wrap .i64 (all2 + (v_n : Int)), t101) w_2) (
  net_Net_All_b0 all2 R w_1)

def net_Net_All_b2 (all1 : Int) (t10 : Value) (R : Value → World → Prop) (w : World) : Prop :=
  LoopS (σ := Int × Value) (fun s w K0 =>
  net_Net_All_b1 s.1 s.2 K0 R w) (all1, t10) w

def net_Net_All_b3 (n1 : Option Addr) (all : Int) (R : Value → World → Prop) (w : World) : Prop :=
  NN n1 fun p =>
  LDM w (Addr.add p 3) fun v =>
  rRun Try.prog (Instr.range 47 (.map v)) w fun itr w_ =>
  net_Net_All_b2 all itr R w_

def net_Net_All_b4 (n : Option Addr) (R : Value → World → Prop) (w : World) : Prop :=
  net_Net_All_b3 n 0 R w

def net_Net_All_p0 : Point ((Option Addr) × Int) := { slots := fun s => [(0, (.pointer s.1)), (3, (.int .i64 s.2))], dec := fun r K => mPtr (r 0) fun x => mInt .i64 (r 3) fun x1 => K (x, x1) }
theorem net_Net_All_p0_ok : net_Net_All_p0.ok := by
  intro r K h
  unfold net_Net_All_p0 at h
  obtain ⟨x, e0, h⟩ := mPtr_elim h
  obtain ⟨x1, e1, h⟩ := mInt_elim h
  exact ⟨(x, x1), regsOf_self (L := [(0, (.pointer x)), (3, (.int .i64 x1))]) (List.forall_mem_cons.2 ⟨e0, List.forall_mem_cons.2 ⟨e1, List.forall_mem_nil _⟩⟩), h⟩
theorem net_Net_All_p0_re (s : (Option Addr) × Int) (r : Regs) (K : ((Option Addr) × Int) → Prop) (h : K s) : net_Net_All_p0.dec (regsOf (net_Net_All_p0.slots s) r) K := by
  obtain ⟨x2, x3⟩ := s
  exact cast (show K (x2, x3) = net_Net_All_p0.dec (regsOf (net_Net_All_p0.slots (x2, x3)) r) K by kernel_rfl) h

def net_Net_All_p1 : Point (Int) := { slots := fun s => [(3, (.int .i64 s))], dec := fun r K => mInt .i64 (r 3) fun x => K x }
theorem net_Net_All_p1_ok : net_Net_All_p1.ok := by
  intro r K h
  unfold net_Net_All_p1 at h
  obtain ⟨x, e0, h⟩ := mInt_elim h
  exact ⟨x, regsOf_self (L := [(3, (.int .i64 x))]) (List.forall_mem_cons.2 ⟨e0, List.forall_mem_nil _⟩), h⟩
theorem net_Net_All_p1_re (s : Int) (r : Regs) (K : Int → Prop) (h : K s) : net_Net_All_p1.dec (regsOf (net_Net_All_p1.slots s) r) K := by
  exact cast (show K s = net_Net_All_p1.dec (regsOf (net_Net_All_p1.slots s) r) K by kernel_rfl) h

def net_Net_All_p2 : Point (Int × Value) := { slots := fun s => [(3, (.int .i64 s.1)), (10, s.2)], dec := fun r K => mInt .i64 (r 3) fun x => K (x, (r 10)) }
theorem net_Net_All_p2_ok : net_Net_All_p2.ok := by
  intro r K h
  unfold net_Net_All_p2 at h
  obtain ⟨x, e0, h⟩ := mInt_elim h
  exact ⟨(x, (r 10)), regsOf_self (L := [(3, (.int .i64 x)), (10, (r 10))]) (List.forall_mem_cons.2 ⟨e0, List.forall_mem_cons.2 ⟨rfl, List.forall_mem_nil _⟩⟩), h⟩
theorem net_Net_All_p2_re (s : Int × Value) (r : Regs) (K : (Int × Value) → Prop) (h : K s) : net_Net_All_p2.dec (regsOf (net_Net_All_p2.slots s) r) K := by
  obtain ⟨x1, x2⟩ := s
  exact cast (show K (x1, x2) = net_Net_All_p2.dec (regsOf (net_Net_All_p2.slots (x1, x2)) r) K by kernel_rfl) h

theorem net_Net_All_sound (n : Option Addr) (R : Value → World → Prop) (w : World) (h : net_Net_All_b4 n R w) :
    CallR Try.prog fn_net_Net_All #[(.pointer n)] w R := by
  refine CallR_intro (args := [(.pointer n)]) Try.func13 rfl (Nat.le_of_ble_eq_true (by kernel_rfl)) ?_
  refine Wp_glue net_Net_All_p0 (fun s w => net_Net_All_b3 s.1 s.2 R w) [_, _] (Q0 := fun e _ r w => match e with | .normal => net_Net_All_p0.dec r (fun s => net_Net_All_b3 s.1 s.2 R w) | .exit _ => False | .ret => retQ Try.prog Try.f13.results R .ret [] r w | _ => False) h (by kernel_rfl) (fun s r w h => ?_) net_Net_All_p0_ok (fun _ _ _ h => h) ?_
  · obtain ⟨n1, all⟩ := s
    have h : net_Net_All_b3 n1 all R w := h
    refine Wp_seq_via net_Net_All_p1 (fun s w => net_Net_All_b0 s R w) (fun s r w h => ?_) (fun hN1 => ?_)
    · obtain ⟨all3, rfl⟩ : ∃ y, y = s := ⟨s, rfl⟩
      have h : net_Net_All_b0 all3 R w := h
      refine Wp_leaf_end (Q0 := fun e _ r w => match e with | .normal => retQ Try.prog Try.f13.results R .normal [] r w | .exit _ => False | .ret => retQ Try.prog Try.f13.results R .ret [] r w | _ => False) h (by kernel_rfl) ?_
      intro e _ r w h
      cases e with
      | normal => exact h
      | exit i => exact h.elim
      | ret => exact h
      | goto i => exact h.elim
      | panic c => exact h.elim
      | outgrown => exact h.elim
    · refine Wp_glue net_Net_All_p2 (fun s w => net_Net_All_b2 s.1 s.2 R w) [_] (Q0 := fun e _ r w => match e with | .normal => net_Net_All_p2.dec r (fun s => net_Net_All_b2 s.1 s.2 R w) | .exit _ => False | .ret => retQ Try.prog Try.f13.results R .ret [] r w | _ => False) h (by kernel_rfl) (fun s r w h => ?_) net_Net_All_p2_ok (fun _ _ _ h => h) ?_
      · obtain ⟨all1, t10⟩ := s
        have h : net_Net_All_b2 all1 t10 R w := h
        refine Wp_block_via net_Net_All_p1 (fun s w => net_Net_All_b0 s R w) hN1 (fun hX2 => ?_)
        refine Wp_loop (p := net_Net_All_p2) net_Net_All_p2_ok (fun s r w K0 h => ?_) h
        obtain ⟨all2, t101⟩ := s
        have h : net_Net_All_b1 all2 t101 K0 R w := h
        have hK3 := fun (s : Int × Value) (r : Regs) (w : World) (h : K0 s w) => net_Net_All_p2_re s r (fun s => K0 s w) h
        refine Wp_leaf_end (Q0 := fun e _ r w => match e with | .normal => net_Net_All_p2.dec r (fun s => K0 s w) | .exit i => exitQ i 0 (net_Net_All_p1.dec r (fun s => net_Net_All_b0 s R w)) (False) | .ret => retQ Try.prog Try.f13.results R .ret [] r w | _ => False) h (by kernel_rfl) ?_
        intro e _ r w h
        cases e with
        | normal =>
          obtain ⟨s, hs, h⟩ := net_Net_All_p2_ok _ _ h
          rw [← hs]
          exact hK3 s r w h
        | exit i =>
          rcases exitQ_elim h with ⟨rfl, h⟩ | ⟨_, h⟩
          · obtain ⟨s, hs, h⟩ := net_Net_All_p1_ok _ _ h
            rw [← hs]
            exact hX2 s r w h
          exact h.elim
        | ret => exact h
        | goto i => exact h.elim
        | panic c => exact h.elim
        | outgrown => exact h.elim
      · intro e _ r w hne h
        cases e with
        | normal => exact absurd rfl hne
        | exit i => exact h.elim
        | ret => exact h
        | goto i => exact h.elim
        | panic c => exact h.elim
        | outgrown => exact h.elim
  · intro e _ r w hne h
    cases e with
    | normal => exact absurd rfl hne
    | exit i => exact h.elim
    | ret => exact h
    | goto i => exact h.elim
    | panic c => exact h.elim
    | outgrown => exact h.elim

/- (*glacier/net.Net).Tick -/
def net_Net_Tick_b0 (n : Option Addr) (R : Value → World → Prop) (w : World) : Prop :=
  NN n fun p =>
  LDI .i64 w (Addr.add p 2) fun v =>
  NN n fun p1 =>
  ST w (Addr.add p1 2) (.int .i64 (IntKind.wrap .i64 (v + 1))) fun w_ =>
  NN n fun p2 =>
  LDI .i64 w_ (Addr.add p2 2) fun v1 =>
  R (.int .i64 v1) w_

theorem net_Net_Tick_sound (n : Option Addr) (R : Value → World → Prop) (w : World) (h : net_Net_Tick_b0 n R w) :
    CallR Try.prog fn_net_Net_Tick #[(.pointer n)] w R := by
  refine CallR_intro (args := [(.pointer n)]) Try.func27 rfl (Nat.le_of_ble_eq_true (by kernel_rfl)) ?_
  refine Wp_leaf_end (Q0 := fun e _ r w => match e with | .normal => retQ Try.prog Try.f27.results R .normal [] r w | .exit _ => False | .ret => retQ Try.prog Try.f27.results R .ret [] r w | _ => False) h (by kernel_rfl) ?_
  intro e _ r w h
  cases e with
  | normal => exact h
  | exit i => exact h.elim
  | ret => exact h
  | goto i => exact h.elim
  | panic c => exact h.elim
  | outgrown => exact h.elim

/- (*glacier/net.Net).Now -/
def net_Net_Now_b0 (n : Option Addr) (R : Value → World → Prop) (w : World) : Prop :=
  NN n fun p =>
  LDI .i64 w (Addr.add p 2) fun v =>
  R (.int .i64 v) w

theorem net_Net_Now_sound (n : Option Addr) (R : Value → World → Prop) (w : World) (h : net_Net_Now_b0 n R w) :
    CallR Try.prog fn_net_Net_Now #[(.pointer n)] w R := by
  refine CallR_intro (args := [(.pointer n)]) Try.func30 rfl (Nat.le_of_ble_eq_true (by kernel_rfl)) ?_
  refine Wp_leaf_end (Q0 := fun e _ r w => match e with | .normal => retQ Try.prog Try.f30.results R .normal [] r w | .exit _ => False | .ret => retQ Try.prog Try.f30.results R .ret [] r w | _ => False) h (by kernel_rfl) ?_
  intro e _ r w h
  cases e with
  | normal => exact h
  | exit i => exact h.elim
  | ret => exact h
  | goto i => exact h.elim
  | panic c => exact h.elim
  | outgrown => exact h.elim

/- (*glacier/net.Net).Clear -/
def net_Net_Clear_b0 (R : Value → World → Prop) (w : World) : Prop :=
  R (.tuple #[]) w

def net_Net_Clear_b1 (n2 : Option Addr) (node2 : Int) (t91 : Value) (K0 : ((Option Addr) × Int × Value) → World → Prop) (R : Value → World → Prop) (w : World) : Prop :=
  rRun Try.prog (Instr.next t91 false 0) w fun vr w_1 =>
  mTup vr fun l =>
  mNth l 0 fun x =>
  mBool x fun v1 =>
  Br v1 (
  rRun Try.prog (Instr.entry t91) w_1 fun vr1 w_2 =>
  mTup vr1 fun l1 =>
  mNth l1 0 fun x1 =>
  mAgg x1 fun v_l =>
  mCons v_l fun v_from l2 =>
  mInt .i64 v_from fun v_from1 =>
  mCons l2 fun v_to l3 =>
  mInt .i64 v_to fun v_to1 =>
  mNil l3 (
  AL w_2 (.cells #[(.int .i64 0), (.int .i64 0)] 52) fun p1 w_3 =>
  ST w_3 p1 (.int .i64 v_from1) fun w_4 =>
  ST w_4 (Addr.add p1 1) (.int .i64 v_to1) fun w_5 =>
  LDI .i64 w_5 p1 fun v2 =>
  Br (v2 == node2) (
  LetW (World.drew w_5) fun w_6 =>
  NN n2 fun p2 =>
  LDM w_6 (Addr.add p2 3) fun v3 =>
  LDI .i64 w_6 p1 fun from_ =>
  LDI .i64 w_6 (Addr.add p1 1) fun to =>
  rRun Try.prog (Builtin.delete_ #[47, 52] 0 #[(.map v3), (.agg #[(.int .i64 from_), (.int .i64 to)])]) w_6 fun sr w_7 =>
  mTup sr fun l4 =>
  mNil l4 (
  K0 (n2, node2, t91) w_7)) (
  LDI .i64 w_5 (Addr.add p1 1) fun v4 =>
  Br (v4 == node2) (
  LetW (World.drew w_5) fun w_8 =>
  NN n2 fun p3 =>
  LDM w_8 (Addr.add p3 3) fun v5 =>
  LDI .i64 w_8 p1 fun from_1 =>
  LDI .i64 w_8 (Addr.add p1 1) fun to1 =>
  rRun Try.prog (Builtin.delete_ #[47, 52] 0 #[(.map v5), (.agg #[(.int .i64 from_1), (.int .i64 to1)])]) w_8 fun sr1 w_9 =>
  mTup sr1 fun l5 =>
  mNil l5 (
  K0 (n2, node2, t91) w_9)) (
  K0 (n2, node2, t91) w_5)))) (
  net_Net_Clear_b0 R w_1)

def net_Net_Clear_b2 (n1 : Option Addr) (node1 : Int) (t9 : Value) (R : Value → World → Prop) (w : World) : Prop :=
  LoopS (σ := (Option Addr) × Int × Value) (fun s w K0 =>
  net_Net_Clear_b1 s.1 s.2.1 s.2.2 K0 R w) (n1, node1, t9) w

def net_Net_Clear_b3 (n : Option Addr) (node : Int) (R : Value → World → Prop) (w : World) : Prop :=
  NN n fun p =>
  LDM w (Addr.add p 3) fun v =>
  rRun Try.prog (Instr.range 47 (.map v)) w fun itr w_ =>
  net_Net_Clear_b2 n node itr R w_

def net_Net_Clear_p0 : Point ((Option Addr) × Int × Value) := { slots := fun s => [(0, (.pointer s.1)), (1, (.int .i64 s.2.1)), (9, s.2.2)], dec := fun r K => mPtr (r 0) fun x => mInt .i64 (r 1) fun x1 => K (x, x1, (r 9)) }
theorem net_Net_Clear_p0_ok : net_Net_Clear_p0.ok := by
  intro r K h
  unfold net_Net_Clear_p0 at h
  obtain ⟨x, e0, h⟩ := mPtr_elim h
  obtain ⟨x1, e1, h⟩ := mInt_elim h
  exact ⟨(x, x1, (r 9)), regsOf_self (L := [(0, (.pointer x)), (1, (.int .i64 x1)), (9, (r 9))]) (List.forall_mem_cons.2 ⟨e0, List.forall_mem_cons.2 ⟨e1, List.forall_mem_cons.2 ⟨rfl, List.forall_mem_nil _⟩⟩⟩), h⟩
theorem net_Net_Clear_p0_re (s : (Option Addr) × Int × Value) (r : Regs) (K : ((Option Addr) × Int × Value) → Prop) (h : K s) : net_Net_Clear_p0.dec (regsOf (net_Net_Clear_p0.slots s) r) K := by
  obtain ⟨x2, x3, x4⟩ := s
  exact cast (show K (x2, x3, x4) = net_Net_Clear_p0.dec (regsOf (net_Net_Clear_p0.slots (x2, x3, x4)) r) K by kernel_rfl) h

def net_Net_Clear_p1 : Point (Unit) := { slots := fun _ => [], dec := fun _ K => K () }
theorem net_Net_Clear_p1_ok : net_Net_Clear_p1.ok := by
  intro r K h
  unfold net_Net_Clear_p1 at h
  exact ⟨(), regsOf_self (L := []) (List.forall_mem_nil _), h⟩
theorem net_Net_Clear_p1_re (s : Unit) (r : Regs) (K : Unit → Prop) (h : K s) : net_Net_Clear_p1.dec (regsOf (net_Net_Clear_p1.slots s) r) K := by
  exact cast (show K () = net_Net_Clear_p1.dec (regsOf (net_Net_Clear_p1.slots ()) r) K by kernel_rfl) h

theorem net_Net_Clear_sound (n : Option Addr) (node : Int) (R : Value → World → Prop) (w : World) (h : net_Net_Clear_b3 n node R w) :
    CallR Try.prog fn_net_Net_Clear #[(.pointer n), (.int .i64 node)] w R := by
  refine CallR_intro (args := [(.pointer n), (.int .i64 node)]) Try.func25 rfl (Nat.le_of_ble_eq_true (by kernel_rfl)) ?_
  have hEnd : ∀ (s : Unit) (r : Regs) (w : World), net_Net_Clear_b0 R w → retQ Try.prog Try.f25.results R .normal [] (regsOf (net_Net_Clear_p1.slots s) r) w := by
    intro s r w h
    cases s
    have h : net_Net_Clear_b0 R w := h
    exact cast (show (net_Net_Clear_b0 R w) = retQ Try.prog Try.f25.results R .normal [] (regsOf (net_Net_Clear_p1.slots ()) r) w by kernel_rfl) h
  refine Wp_glue net_Net_Clear_p0 (fun s w => net_Net_Clear_b2 s.1 s.2.1 s.2.2 R w) [_] (Q0 := fun e _ r w => match e with | .normal => net_Net_Clear_p0.dec r (fun s => net_Net_Clear_b2 s.1 s.2.1 s.2.2 R w) | .exit _ => False | .ret => retQ Try.prog Try.f25.results R .ret [] r w | _ => False) h (by kernel_rfl) (fun s r w h => ?_) net_Net_Clear_p0_ok (fun _ _ _ h => h) ?_
  · obtain ⟨n1, node1, t9⟩ := s
    have h : net_Net_Clear_b2 n1 node1 t9 R w := h
    refine Wp_block_via net_Net_Clear_p1 (fun _ w => net_Net_Clear_b0 R w) hEnd (fun hX1 => ?_)
    refine Wp_loop (p := net_Net_Clear_p0) net_Net_Clear_p0_ok (fun s r w K0 h => ?_) h
    obtain ⟨n2, node2, t91⟩ := s
    have h : net_Net_Clear_b1 n2 node2 t91 K0 R w := h
    have hK2 := fun (s : (Option Addr) × Int × Value) (r : Regs) (w : World) (h : K0 s w) => net_Net_Clear_p0_re s r (fun s => K0 s w) h
    refine Wp_leaf_end (Q0 := fun e _ r w => match e with | .normal => net_Net_Clear_p0.dec r (fun s => K0 s w) | .exit i => exitQ i 0 (net_Net_Clear_p1.dec r (fun _ => net_Net_Clear_b0 R w)) (False) | .ret => retQ Try.prog Try.f25.results R .ret [] r w | _ => False) h (by kernel_rfl) ?_
    intro e _ r w h
    cases e with
    | normal =>
      obtain ⟨s, hs, h⟩ := net_Net_Clear_p0_ok _ _ h
      rw [← hs]
      exact hK2 s r w h
    | exit i =>
      rcases exitQ_elim h with ⟨rfl, h⟩ | ⟨_, h⟩
      · obtain ⟨s, hs, h⟩ := net_Net_Clear_p1_ok _ _ h
        rw [← hs]
        exact hX1 s r w h
      exact h.elim
    | ret => exact h
    | goto i => exact h.elim
    | panic c => exact h.elim
    | outgrown => exact h.elim
  · intro e _ r w hne h
    cases e with
    | normal => exact absurd rfl hne
    | exit i => exact h.elim
    | ret => exact h
    | goto i => exact h.elim
    | panic c => exact h.elim
    | outgrown => exact h.elim

end Go.Proofs.Ytienifnpacoahaa
