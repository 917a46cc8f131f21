/- Printed by a program of this claim: the shallow readings of functions, and that they are sound. -/
import Derived.Test.YtienifnpacoahaaShNames
namespace Go.Proofs.Ytienifnpacoahaa
open Go.Sh

/- glacier/glacierlaw3.NetOwn -/
def glacierlaw3_NetOwn_b0 (b12 : Option Addr) (b_n10 : Nat) (b_c10 : Nat) (n9 : Option Addr) (k5 : Int) (K0 : ((Option Addr) × Nat × Nat × (Option Addr) × Int) → World → Prop) (w : World) : Prop :=
  K0 (b12, b_n10, b_c10, n9, IntKind.wrap .i64 (k5 + 1)) w

def glacierlaw3_NetOwn_b1 (b11 : Option Addr) (b_n9 : Nat) (b_c9 : Nat) (n8 : Option Addr) (k4 : Int) (m2 : Addr) (i3 : Int) (K0 : ((Option Addr) × Nat × Nat × (Option Addr) × Int) → World → Prop) (K1 : ((Option Addr) × Nat × Nat × (Option Addr) × Int × Addr × Int) → World → Prop) (w : World) : Prop :=
  LDSl w (Addr.add m2 2) fun _ v_n2 _ =>
  Br (decide (i3 < (v_n2 : Int))) (
  LetW (World.drew w) fun w_15 =>
  LDSl w_15 (Addr.add m2 2) fun v16 v_n3 _ =>
  LDSl w_15 (Addr.add m2 2) fun v17 v_n4 _ =>
  IX v17 v_n4 i3 1 fun a2 =>
  LDI .u8 w_15 a2 fun v18 =>
  IX v16 v_n3 i3 1 fun a3 =>
  ST w_15 a3 (.int .u8 (IntKind.wrap .u8 (v18 + 1))) fun w_16 =>
  K1 (b11, b_n9, b_c9, n8, k4, m2, IntKind.wrap .i64 (i3 + 1)) w_16) (
  glacierlaw3_NetOwn_b0 b11 b_n9 b_c9 n8 k4 K0 w)

def glacierlaw3_NetOwn_b2 (b10 : Option Addr) (b_n8 : Nat) (b_c8 : Nat) (n7 : Option Addr) (k3 : Int) (m1 : Addr) (i2 : Int) (K0 : ((Option Addr) × Nat × Nat × (Option Addr) × Int) → World → Prop) (w : World) : Prop :=
  LoopS (σ := (Option Addr) × Nat × Nat × (Option Addr) × Int × Addr × Int) (fun s w K1 =>
  glacierlaw3_NetOwn_b1 s.1 s.2.1 s.2.2.1 s.2.2.2.1 s.2.2.2.2.1 s.2.2.2.2.2.1 s.2.2.2.2.2.2 K0 K1 w) (b10, b_n8, b_c8, n7, k3, m1, i2) w

def glacierlaw3_NetOwn_b3 (b9 : Option Addr) (b_n7 : Nat) (b_c7 : Nat) (n6 : Option Addr) (k2 : Int) (K0 : ((Option Addr) × Nat × Nat × (Option Addr) × Int) → World → Prop) (R : Value → World → Prop) (w : World) : Prop :=
  CallR Try.prog fn_net_Net_Deliver #[(.pointer n6), (.int .i64 0), (.int .i64 1), (.int .i64 0)] w fun res4 w_8 =>
  mTup res4 fun l3 =>
  mCons l3 fun v9 l4 =>
  mAgg v9 fun v_l =>
  mCons v_l fun v_From l5 =>
  mInt .i64 v_From fun v_From1 =>
  mCons l5 fun v_To l6 =>
  mInt .i64 v_To fun v_To1 =>
  mCons l6 fun v_Bytes l7 =>
  mSlice v_Bytes fun v_Bytes1 v_Bytes_n v_Bytes_c =>
  mNil l7 (
  mCons l4 fun v10 l8 =>
  mBool v10 fun v11 =>
  mNil l8 (
  AL w_8 (.cells #[(.int .i64 0), (.int .i64 0), (.slice none 0 0)] 31) fun m w_9 =>
  ST w_9 m (.int .i64 v_From1) fun w_10 =>
  ST w_10 (Addr.add m 1) (.int .i64 v_To1) fun w_11 =>
  ST w_11 (Addr.add m 2) (.slice v_Bytes1 v_Bytes_n v_Bytes_c) fun w_12 =>
  Br (!v11) (
  R (.bool false) w_12) (
  LDSl w_12 (Addr.add m 2) fun v12 v_n1 v_c1 =>
  rRun Try.prog (convert 22 9 (.slice v12 v_n1 v_c1)) w_12 fun sr1 w_13 =>
  mStr sr1 fun v13 =>
  rRun Try.prog (convert 22 9 (.slice b9 b_n7 b_c7)) w_13 fun sr2 w_14 =>
  mStr sr2 fun v14 =>
  Br (!(ByteArray.toList v13 == ByteArray.toList v14)) (
  R (.bool false) w_14) (
  glacierlaw3_NetOwn_b2 b9 b_n7 b_c7 n6 k2 m 0 K0 w_14))))

def glacierlaw3_NetOwn_b4 (R : Value → World → Prop) (w : World) : Prop :=
  R (.bool true) w

def glacierlaw3_NetOwn_b5 (b8 : Option Addr) (b_n6 : Nat) (b_c6 : Nat) (n5 : Option Addr) (k1 : Int) (K0 : ((Option Addr) × Nat × Nat × (Option Addr) × Int) → World → Prop) (R : Value → World → Prop) (w : World) : Prop :=
  Br (decide (k1 < 3)) (
  glacierlaw3_NetOwn_b3 b8 b_n6 b_c6 n5 k1 K0 R w) (
  glacierlaw3_NetOwn_b4 R w)

def glacierlaw3_NetOwn_b6 (b7 : Option Addr) (b_n5 : Nat) (b_c5 : Nat) (n4 : Option Addr) (k : Int) (R : Value → World → Prop) (w : World) : Prop :=
  LoopS (σ := (Option Addr) × Nat × Nat × (Option Addr) × Int) (fun s w K0 =>
  glacierlaw3_NetOwn_b5 s.1 s.2.1 s.2.2.1 s.2.2.2.1 s.2.2.2.2 K0 R w) (b7, b_n5, b_c5, n4, k) w

def glacierlaw3_NetOwn_b7 (b6 : Option Addr) (b_n4 : Nat) (b_c4 : Nat) (n3 : Option Addr) (R : Value → World → Prop) (w : World) : Prop :=
  glacierlaw3_NetOwn_b6 b6 b_n4 b_c4 n3 0 R w

def glacierlaw3_NetOwn_b8 (b5 : Option Addr) (b_n3 : Nat) (b_c3 : Nat) (n2 : Option Addr) (mine2 : Option Addr) (mine_n2 : Nat) (mine_c2 : Nat) (i1 : Int) (K0 : ((Option Addr) × Nat × Nat × (Option Addr) × (Option Addr) × Nat × Nat × Int) → World → Prop) (R : Value → World → Prop) (w : World) : Prop :=
  Br (decide (i1 < (mine_n2 : Int))) (
  IX mine2 mine_n2 i1 1 fun a =>
  LDI .u8 w a fun v8 =>
  IX mine2 mine_n2 i1 1 fun a1 =>
  ST w a1 (.int .u8 (IntKind.wrap .u8 (v8 + 1))) fun w_7 =>
  K0 (b5, b_n3, b_c3, n2, mine2, mine_n2, mine_c2, IntKind.wrap .i64 (i1 + 1)) w_7) (
  glacierlaw3_NetOwn_b7 b5 b_n3 b_c3 n2 R w)

def glacierlaw3_NetOwn_b9 (b4 : Option Addr) (b_n2 : Nat) (b_c2 : Nat) (n1 : Option Addr) (mine1 : Option Addr) (mine_n1 : Nat) (mine_c1 : Nat) (i : Int) (R : Value → World → Prop) (w : World) : Prop :=
  LoopS (σ := (Option Addr) × Nat × Nat × (Option Addr) × (Option Addr) × Nat × Nat × Int) (fun s w K0 =>
  glacierlaw3_NetOwn_b8 s.1 s.2.1 s.2.2.1 s.2.2.2.1 s.2.2.2.2.1 s.2.2.2.2.2.1 s.2.2.2.2.2.2.1 s.2.2.2.2.2.2.2 K0 R w) (b4, b_n2, b_c2, n1, mine1, mine_n1, mine_c1, i) w

def glacierlaw3_NetOwn_b10 (b3 : Option Addr) (b_n1 : Nat) (b_c1 : Nat) (n : Option Addr) (mine : Option Addr) (mine_n : Nat) (mine_c : Nat) (R : Value → World → Prop) (w : World) : Prop :=
  glacierlaw3_NetOwn_b9 b3 b_n1 b_c1 n mine mine_n mine_c 0 R w

def glacierlaw3_NetOwn_b11 (b : Option Addr) (b_n : Nat) (b_c : Nat) (R : Value → World → Prop) (w : World) : Prop :=
  CallR Try.prog fn_glacierlaw3_known #[] w fun res w_ =>
  mBool res fun v =>
  Br (!v) (
  R (.bool false) w_) (
  Br (decide ((b_n : Int) > 1000)) (
  R (.bool true) w_) (
  Br ((b_n : Int) == 0) (
  R (.bool true) w_) (
  CallR Try.prog fn_net_New #[(.int .i64 2), (.int .i64 9)] w_ fun res1 w_1 =>
  mTup res1 fun l =>
  mCons l fun v1 l1 =>
  mPtr v1 fun v2 =>
  mCons l1 fun v3 l2 =>
  mInt .i64 v3 fun v4 =>
  mNil l2 (
  Br (v4 != 0) (
  R (.bool false) w_1) (
  Br (Option.isNone v2) (
  R (.bool false) w_1) (
  AL w_1 (.cells #[] 5) fun b1 w_2 =>
  rRun Try.prog (Builtin.append_ #[22, 22] 22 #[(.slice (some b1) 0 0), (.slice b b_n b_c)]) w_2 fun sr w_3 =>
  mSlice sr fun v5 v_n v_c =>
  AL w_3 (.cells #[(.int .i64 1), (.int .i64 1)] 3) fun b2 w_4 =>
  CallR Try.prog fn_net_Net_Send #[(.pointer v2), (.int .i64 0), (.slice v5 v_n v_c), (.slice (some b2) 2 2)] w_4 fun res2 w_5 =>
  mInt .i64 res2 fun _ =>
  CallR Try.prog fn_net_Net_Double #[(.pointer v2), (.int .i64 0), (.int .i64 1), (.int .i64 0)] w_5 fun res3 w_6 =>
  mBool res3 fun _ =>
  glacierlaw3_NetOwn_b10 b b_n b_c v2 v5 v_n v_c R w_6))))))

def glacierlaw3_NetOwn_p0 : Point ((Option Addr) × Nat × Nat × (Option Addr) × (Option Addr) × Nat × Nat) := { slots := fun s => [(0, (.slice s.1 s.2.1 s.2.2.1)), (3, (.pointer s.2.2.2.1)), (5, (.slice s.2.2.2.2.1 s.2.2.2.2.2.1 s.2.2.2.2.2.2))], dec := fun r K => mSlice (r 0) fun x x1 x2 => mPtr (r 3) fun x3 => mSlice (r 5) fun x4 x5 x6 => K (x, x1, x2, x3, x4, x5, x6) }
theorem glacierlaw3_NetOwn_p0_ok : glacierlaw3_NetOwn_p0.ok := by
  intro r K h
  unfold glacierlaw3_NetOwn_p0 at h
  obtain ⟨x, x1, x2, e0, h⟩ := mSlice_elim h
  obtain ⟨x3, e1, h⟩ := mPtr_elim h
  obtain ⟨x4, x5, x6, e2, h⟩ := mSlice_elim h
  exact ⟨(x, x1, x2, x3, x4, x5, x6), regsOf_self (L := [(0, (.slice x x1 x2)), (3, (.pointer x3)), (5, (.slice x4 x5 x6))]) (List.forall_mem_cons.2 ⟨e0, List.forall_mem_cons.2 ⟨e1, List.forall_mem_cons.2 ⟨e2, List.forall_mem_nil _⟩⟩⟩), h⟩
theorem glacierlaw3_NetOwn_p0_re (s : (Option Addr) × Nat × Nat × (Option Addr) × (Option Addr) × Nat × Nat) (r : Regs) (K : ((Option Addr) × Nat × Nat × (Option Addr) × (Option Addr) × Nat × Nat) → Prop) (h : K s) : glacierlaw3_NetOwn_p0.dec (regsOf (glacierlaw3_NetOwn_p0.slots s) r) K := by
  obtain ⟨x7, x8, x9, x10, x11, x12, x13⟩ := s
  exact cast (show K (x7, x8, x9, x10, x11, x12, x13) = glacierlaw3_NetOwn_p0.dec (regsOf (glacierlaw3_NetOwn_p0.slots (x7, x8, x9, x10, x11, x12, x13)) r) K by kernel_rfl) h

def glacierlaw3_NetOwn_p1 : Point ((Option Addr) × Nat × Nat × (Option Addr)) := { slots := fun s => [(0, (.slice s.1 s.2.1 s.2.2.1)), (3, (.pointer s.2.2.2))], dec := fun r K => mSlice (r 0) fun x x1 x2 => mPtr (r 3) fun x3 => K (x, x1, x2, x3) }
theorem glacierlaw3_NetOwn_p1_ok : glacierlaw3_NetOwn_p1.ok := by
  intro r K h
  unfold glacierlaw3_NetOwn_p1 at h
  obtain ⟨x, x1, x2, e0, h⟩ := mSlice_elim h
  obtain ⟨x3, e1, h⟩ := mPtr_elim h
  exact ⟨(x, x1, x2, x3), regsOf_self (L := [(0, (.slice x x1 x2)), (3, (.pointer x3))]) (List.forall_mem_cons.2 ⟨e0, List.forall_mem_cons.2 ⟨e1, List.forall_mem_nil _⟩⟩), h⟩
theorem glacierlaw3_NetOwn_p1_re (s : (Option Addr) × Nat × Nat × (Option Addr)) (r : Regs) (K : ((Option Addr) × Nat × Nat × (Option Addr)) → Prop) (h : K s) : glacierlaw3_NetOwn_p1.dec (regsOf (glacierlaw3_NetOwn_p1.slots s) r) K := by
  obtain ⟨x4, x5, x6, x7⟩ := s
  exact cast (show K (x4, x5, x6, x7) = glacierlaw3_NetOwn_p1.dec (regsOf (glacierlaw3_NetOwn_p1.slots (x4, x5, x6, x7)) r) K by kernel_rfl) h

def glacierlaw3_NetOwn_p2 : Point (Unit) := { slots := fun _ => [], dec := fun _ K => K () }
theorem glacierlaw3_NetOwn_p2_ok : glacierlaw3_NetOwn_p2.ok := by
  intro r K h
  unfold glacierlaw3_NetOwn_p2 at h
  exact ⟨(), regsOf_self (L := []) (List.forall_mem_nil _), h⟩
theorem glacierlaw3_NetOwn_p2_re (s : Unit) (r : Regs) (K : Unit → Prop) (h : K s) : glacierlaw3_NetOwn_p2.dec (regsOf (glacierlaw3_NetOwn_p2.slots s) r) K := by
  exact cast (show K () = glacierlaw3_NetOwn_p2.dec (regsOf (glacierlaw3_NetOwn_p2.slots ()) r) K by kernel_rfl) h

def glacierlaw3_NetOwn_p3 : Point ((Option Addr) × Nat × Nat × (Option Addr) × Int) := { slots := fun s => [(0, (.slice s.1 s.2.1 s.2.2.1)), (3, (.pointer s.2.2.2.1)), (7, (.int .i64 s.2.2.2.2))], dec := fun r K => mSlice (r 0) fun x x1 x2 => mPtr (r 3) fun x3 => mInt .i64 (r 7) fun x4 => K (x, x1, x2, x3, x4) }
theorem glacierlaw3_NetOwn_p3_ok : glacierlaw3_NetOwn_p3.ok := by
  intro r K h
  unfold glacierlaw3_NetOwn_p3 at h
  obtain ⟨x, x1, x2, e0, h⟩ := mSlice_elim h
  obtain ⟨x3, e1, h⟩ := mPtr_elim h
  obtain ⟨x4, e2, h⟩ := mInt_elim h
  exact ⟨(x, x1, x2, x3, x4), regsOf_self (L := [(0, (.slice x x1 x2)), (3, (.pointer x3)), (7, (.int .i64 x4))]) (List.forall_mem_cons.2 ⟨e0, List.forall_mem_cons.2 ⟨e1, List.forall_mem_cons.2 ⟨e2, List.forall_mem_nil _⟩⟩⟩), h⟩
theorem glacierlaw3_NetOwn_p3_re (s : (Option Addr) × Nat × Nat × (Option Addr) × Int) (r : Regs) (K : ((Option Addr) × Nat × Nat × (Option Addr) × Int) → Prop) (h : K s) : glacierlaw3_NetOwn_p3.dec (regsOf (glacierlaw3_NetOwn_p3.slots s) r) K := by
  obtain ⟨x5, x6, x7, x8, x9⟩ := s
  exact cast (show K (x5, x6, x7, x8, x9) = glacierlaw3_NetOwn_p3.dec (regsOf (glacierlaw3_NetOwn_p3.slots (x5, x6, x7, x8, x9)) r) K by kernel_rfl) h

def glacierlaw3_NetOwn_p4 : Point ((Option Addr) × Nat × Nat × (Option Addr) × Int) := { slots := fun s => [(0, (.slice s.1 s.2.1 s.2.2.1)), (3, (.pointer s.2.2.2.1)), (7, (.int .i64 s.2.2.2.2))], dec := fun r K => mSlice (r 0) fun x x1 x2 => mPtr (r 3) fun x3 => mInt .i64 (r 7) fun x4 => K (x, x1, x2, x3, x4) }
theorem glacierlaw3_NetOwn_p4_ok : glacierlaw3_NetOwn_p4.ok := by
  intro r K h
  unfold glacierlaw3_NetOwn_p4 at h
  obtain ⟨x, x1, x2, e0, h⟩ := mSlice_elim h
  obtain ⟨x3, e1, h⟩ := mPtr_elim h
  obtain ⟨x4, e2, h⟩ := mInt_elim h
  exact ⟨(x, x1, x2, x3, x4), regsOf_self (L := [(0, (.slice x x1 x2)), (3, (.pointer x3)), (7, (.int .i64 x4))]) (List.forall_mem_cons.2 ⟨e0, List.forall_mem_cons.2 ⟨e1, List.forall_mem_cons.2 ⟨e2, List.forall_mem_nil _⟩⟩⟩), h⟩
theorem glacierlaw3_NetOwn_p4_re (s : (Option Addr) × Nat × Nat × (Option Addr) × Int) (r : Regs) (K : ((Option Addr) × Nat × Nat × (Option Addr) × Int) → Prop) (h : K s) : glacierlaw3_NetOwn_p4.dec (regsOf (glacierlaw3_NetOwn_p4.slots s) r) K := by
  obtain ⟨x5, x6, x7, x8, x9⟩ := s
  exact cast (show K (x5, x6, x7, x8, x9) = glacierlaw3_NetOwn_p4.dec (regsOf (glacierlaw3_NetOwn_p4.slots (x5, x6, x7, x8, x9)) r) K by kernel_rfl) h

def glacierlaw3_NetOwn_p5 : Point ((Option Addr) × Nat × Nat × (Option Addr) × Int) := { slots := fun s => [(0, (.slice s.1 s.2.1 s.2.2.1)), (3, (.pointer s.2.2.2.1)), (7, (.int .i64 s.2.2.2.2))], dec := fun r K => mSlice (r 0) fun x x1 x2 => mPtr (r 3) fun x3 => mInt .i64 (r 7) fun x4 => K (x, x1, x2, x3, x4) }
theorem glacierlaw3_NetOwn_p5_ok : glacierlaw3_NetOwn_p5.ok := by
  intro r K h
  unfold glacierlaw3_NetOwn_p5 at h
  obtain ⟨x, x1, x2, e0, h⟩ := mSlice_elim h
  obtain ⟨x3, e1, h⟩ := mPtr_elim h
  obtain ⟨x4, e2, h⟩ := mInt_elim h
  exact ⟨(x, x1, x2, x3, x4), regsOf_self (L := [(0, (.slice x x1 x2)), (3, (.pointer x3)), (7, (.int .i64 x4))]) (List.forall_mem_cons.2 ⟨e0, List.forall_mem_cons.2 ⟨e1, List.forall_mem_cons.2 ⟨e2, List.forall_mem_nil _⟩⟩⟩), h⟩
theorem glacierlaw3_NetOwn_p5_re (s : (Option Addr) × Nat × Nat × (Option Addr) × Int) (r : Regs) (K : ((Option Addr) × Nat × Nat × (Option Addr) × Int) → Prop) (h : K s) : glacierlaw3_NetOwn_p5.dec (regsOf (glacierlaw3_NetOwn_p5.slots s) r) K := by
  obtain ⟨x5, x6, x7, x8, x9⟩ := s
  exact cast (show K (x5, x6, x7, x8, x9) = glacierlaw3_NetOwn_p5.dec (regsOf (glacierlaw3_NetOwn_p5.slots (x5, x6, x7, x8, x9)) r) K by kernel_rfl) h

def glacierlaw3_NetOwn_p6 : Point ((Option Addr) × Nat × Nat × (Option Addr) × Int × Addr × Int) := { slots := fun s => [(0, (.slice s.1 s.2.1 s.2.2.1)), (3, (.pointer s.2.2.2.1)), (7, (.int .i64 s.2.2.2.2.1)), (8, (.pointer (some s.2.2.2.2.2.1))), (10, (.int .i64 s.2.2.2.2.2.2))], dec := fun r K => mSlice (r 0) fun x x1 x2 => mPtr (r 3) fun x3 => mInt .i64 (r 7) fun x4 => mPA (r 8) fun x5 => mInt .i64 (r 10) fun x6 => K (x, x1, x2, x3, x4, x5, x6) }
theorem glacierlaw3_NetOwn_p6_ok : glacierlaw3_NetOwn_p6.ok := by
  intro r K h
  unfold glacierlaw3_NetOwn_p6 at h
  obtain ⟨x, x1, x2, e0, h⟩ := mSlice_elim h
  obtain ⟨x3, e1, h⟩ := mPtr_elim h
  obtain ⟨x4, e2, h⟩ := mInt_elim h
  obtain ⟨x5, e3, h⟩ := mPA_elim h
  obtain ⟨x6, e4, h⟩ := mInt_elim h
  exact ⟨(x, x1, x2, x3, x4, x5, x6), regsOf_self (L := [(0, (.slice x x1 x2)), (3, (.pointer x3)), (7, (.int .i64 x4)), (8, (.pointer (some x5))), (10, (.int .i64 x6))]) (List.forall_mem_cons.2 ⟨e0, List.forall_mem_cons.2 ⟨e1, List.forall_mem_cons.2 ⟨e2, List.forall_mem_cons.2 ⟨e3, List.forall_mem_cons.2 ⟨e4, List.forall_mem_nil _⟩⟩⟩⟩⟩), h⟩
theorem glacierlaw3_NetOwn_p6_re (s : (Option Addr) × Nat × Nat × (Option Addr) × Int × Addr × Int) (r : Regs) (K : ((Option Addr) × Nat × Nat × (Option Addr) × Int × Addr × Int) → Prop) (h : K s) : glacierlaw3_NetOwn_p6.dec (regsOf (glacierlaw3_NetOwn_p6.slots s) r) K := by
  obtain ⟨x7, x8, x9, x10, x11, x12, x13⟩ := s
  exact cast (show K (x7, x8, x9, x10, x11, x12, x13) = glacierlaw3_NetOwn_p6.dec (regsOf (glacierlaw3_NetOwn_p6.slots (x7, x8, x9, x10, x11, x12, x13)) r) K by kernel_rfl) h

def glacierlaw3_NetOwn_p7 : Point ((Option Addr) × Nat × Nat × (Option Addr) × (Option Addr) × Nat × Nat × Int) := { slots := fun s => [(0, (.slice s.1 s.2.1 s.2.2.1)), (3, (.pointer s.2.2.2.1)), (5, (.slice s.2.2.2.2.1 s.2.2.2.2.2.1 s.2.2.2.2.2.2.1)), (6, (.int .i64 s.2.2.2.2.2.2.2))], dec := fun r K => mSlice (r 0) fun x x1 x2 => mPtr (r 3) fun x3 => mSlice (r 5) fun x4 x5 x6 => mInt .i64 (r 6) fun x7 => K (x, x1, x2, x3, x4, x5, x6, x7) }
theorem glacierlaw3_NetOwn_p7_ok : glacierlaw3_NetOwn_p7.ok := by
  intro r K h
  unfold glacierlaw3_NetOwn_p7 at h
  obtain ⟨x, x1, x2, e0, h⟩ := mSlice_elim h
  obtain ⟨x3, e1, h⟩ := mPtr_elim h
  obtain ⟨x4, x5, x6, e2, h⟩ := mSlice_elim h
  obtain ⟨x7, e3, h⟩ := mInt_elim h
  exact ⟨(x, x1, x2, x3, x4, x5, x6, x7), regsOf_self (L := [(0, (.slice x x1 x2)), (3, (.pointer x3)), (5, (.slice x4 x5 x6)), (6, (.int .i64 x7))]) (List.forall_mem_cons.2 ⟨e0, List.forall_mem_cons.2 ⟨e1, List.forall_mem_cons.2 ⟨e2, List.forall_mem_cons.2 ⟨e3, List.forall_mem_nil _⟩⟩⟩⟩), h⟩
theorem glacierlaw3_NetOwn_p7_re (s : (Option Addr) × Nat × Nat × (Option Addr) × (Option Addr) × Nat × Nat × Int) (r : Regs) (K : ((Option Addr) × Nat × Nat × (Option Addr) × (Option Addr) × Nat × Nat × Int) → Prop) (h : K s) : glacierlaw3_NetOwn_p7.dec (regsOf (glacierlaw3_NetOwn_p7.slots s) r) K := by
  obtain ⟨x8, x9, x10, x11, x12, x13, x14, x15⟩ := s
  exact cast (show K (x8, x9, x10, x11, x12, x13, x14, x15) = glacierlaw3_NetOwn_p7.dec (regsOf (glacierlaw3_NetOwn_p7.slots (x8, x9, x10, x11, x12, x13, x14, x15)) r) K by kernel_rfl) h

theorem glacierlaw3_NetOwn_sound (b : Option Addr) (b_n : Nat) (b_c : Nat) (R : Value → World → Prop) (w : World) (h : glacierlaw3_NetOwn_b11 b b_n b_c R w) :
    CallR Try.prog fn_glacierlaw3_NetOwn #[(.slice b b_n b_c)] w R := by
  refine CallR_intro (args := [(.slice b b_n b_c)]) Try.func3 rfl (Nat.le_of_ble_eq_true (by kernel_rfl)) ?_
  refine Wp_glue glacierlaw3_NetOwn_p0 (fun s w => glacierlaw3_NetOwn_b10 s.1 s.2.1 s.2.2.1 s.2.2.2.1 s.2.2.2.2.1 s.2.2.2.2.2.1 s.2.2.2.2.2.2 R w) [_, _, _, _, _, _, _, _] (Q0 := fun e _ r w => match e with | .normal => glacierlaw3_NetOwn_p0.dec r (fun s => glacierlaw3_NetOwn_b10 s.1 s.2.1 s.2.2.1 s.2.2.2.1 s.2.2.2.2.1 s.2.2.2.2.2.1 s.2.2.2.2.2.2 R w) | .exit _ => False | .ret => retQ Try.prog Try.f3.results R .ret [] r w | _ => False) h (by kernel_rfl) (fun s r w h => ?_) glacierlaw3_NetOwn_p0_ok (fun _ _ _ h => h) ?_
  · obtain ⟨b3, b_n1, b_c1, n, mine, mine_n, mine_c⟩ := s
    have h : glacierlaw3_NetOwn_b10 b3 b_n1 b_c1 n mine mine_n mine_c R w := h
    refine Wp_seq_via glacierlaw3_NetOwn_p1 (fun s w => glacierlaw3_NetOwn_b7 s.1 s.2.1 s.2.2.1 s.2.2.2 R w) (fun s r w h => ?_) (fun hN1 => ?_)
    · obtain ⟨b6, b_n4, b_c4, n3⟩ := s
      have h : glacierlaw3_NetOwn_b7 b6 b_n4 b_c4 n3 R w := h
      refine Wp_seq_via glacierlaw3_NetOwn_p2 (fun _ w => glacierlaw3_NetOwn_b4 R w) (fun s r w h => ?_) (fun hN2 => ?_)
      · cases s
        have h : glacierlaw3_NetOwn_b4 R w := h
        refine Wp_leaf_end (Q0 := fun e _ r w => match e with | .normal => retQ Try.prog Try.f3.results R .normal [] r w | .exit _ => False | .ret => retQ Try.prog Try.f3.results R .ret [] r w | _ => False) h (by kernel_rfl) ?_
        intro e _ r w h
        cases e with
        | normal => exact h
        | exit i => exact h.elim
        | ret => exact h
        | goto i => exact h.elim
        | panic c => exact h.elim
        | outgrown => exact h.elim
      · refine Wp_glue glacierlaw3_NetOwn_p3 (fun s w => glacierlaw3_NetOwn_b6 s.1 s.2.1 s.2.2.1 s.2.2.2.1 s.2.2.2.2 R w) [_] (Q0 := fun e _ r w => match e with | .normal => glacierlaw3_NetOwn_p3.dec r (fun s => glacierlaw3_NetOwn_b6 s.1 s.2.1 s.2.2.1 s.2.2.2.1 s.2.2.2.2 R w) | .exit _ => False | .ret => retQ Try.prog Try.f3.results R .ret [] r w | _ => False) h (by kernel_rfl) (fun s r w h => ?_) glacierlaw3_NetOwn_p3_ok (fun _ _ _ h => h) ?_
        · obtain ⟨b7, b_n5, b_c5, n4, k⟩ := s
          have h : glacierlaw3_NetOwn_b6 b7 b_n5 b_c5 n4 k R w := h
          refine Wp_block_via glacierlaw3_NetOwn_p2 (fun _ w => glacierlaw3_NetOwn_b4 R w) hN2 (fun hX3 => ?_)
          refine Wp_loop (p := glacierlaw3_NetOwn_p3) glacierlaw3_NetOwn_p3_ok (fun s r w K0 h => ?_) h
          obtain ⟨b8, b_n6, b_c6, n5, k1⟩ := s
          have h : glacierlaw3_NetOwn_b5 b8 b_n6 b_c6 n5 k1 K0 R w := h
          have hK4 := fun (s : (Option Addr) × Nat × Nat × (Option Addr) × Int) (r : Regs) (w : World) (h : K0 s w) => glacierlaw3_NetOwn_p3_re s r (fun s => K0 s w) h
          refine Wp_glue glacierlaw3_NetOwn_p4 (fun s w => glacierlaw3_NetOwn_b3 s.1 s.2.1 s.2.2.1 s.2.2.2.1 s.2.2.2.2 K0 R w) [_] (Q0 := fun e _ r w => match e with | .normal => glacierlaw3_NetOwn_p4.dec r (fun s => glacierlaw3_NetOwn_b3 s.1 s.2.1 s.2.2.1 s.2.2.2.1 s.2.2.2.2 K0 R w) | .exit i => exitQ i 2 (glacierlaw3_NetOwn_p2.dec r (fun _ => glacierlaw3_NetOwn_b4 R w)) (False) | .ret => retQ Try.prog Try.f3.results R .ret [] r w | _ => False) h (by kernel_rfl) (fun s r w h => ?_) glacierlaw3_NetOwn_p4_ok (fun _ _ _ h => h) ?_
          · obtain ⟨b9, b_n7, b_c7, n6, k2⟩ := s
            have h : glacierlaw3_NetOwn_b3 b9 b_n7 b_c7 n6 k2 K0 R w := h
            refine Wp_seq_via glacierlaw3_NetOwn_p5 (fun s w => glacierlaw3_NetOwn_b0 s.1 s.2.1 s.2.2.1 s.2.2.2.1 s.2.2.2.2 K0 w) (fun s r w h => ?_) (fun hN5 => ?_)
            · obtain ⟨b12, b_n10, b_c10, n9, k5⟩ := s
              have h : glacierlaw3_NetOwn_b0 b12 b_n10 b_c10 n9 k5 K0 w := h
              refine Wp_leaf_end (Q0 := fun e _ r w => match e with | .normal => glacierlaw3_NetOwn_p3.dec r (fun s => K0 s w) | .exit i => exitQ i 2 (glacierlaw3_NetOwn_p2.dec r (fun _ => glacierlaw3_NetOwn_b4 R w)) (False) | .ret => retQ Try.prog Try.f3.results R .ret [] r w | _ => False) h (by kernel_rfl) ?_
              intro e _ r w h
              cases e with
              | normal =>
                obtain ⟨s, hs, h⟩ := glacierlaw3_NetOwn_p3_ok _ _ h
                rw [← hs]
                exact hK4 s r w h
              | exit i =>
                rcases exitQ_elim h with ⟨rfl, h⟩ | ⟨_, h⟩
                · obtain ⟨s, hs, h⟩ := glacierlaw3_NetOwn_p2_ok _ _ h
                  rw [← hs]
                  exact hX3 s r w h
                exact h.elim
              | ret => exact h
              | goto i => exact h.elim
              | panic c => exact h.elim
              | outgrown => exact h.elim
            · refine Wp_block_via glacierlaw3_NetOwn_p5 (fun s w => glacierlaw3_NetOwn_b0 s.1 s.2.1 s.2.2.1 s.2.2.2.1 s.2.2.2.2 K0 w) hN5 (fun hX6 => ?_)
              refine Wp_glue glacierlaw3_NetOwn_p6 (fun s w => glacierlaw3_NetOwn_b2 s.1 s.2.1 s.2.2.1 s.2.2.2.1 s.2.2.2.2.1 s.2.2.2.2.2.1 s.2.2.2.2.2.2 K0 w) [_, _, _] (Q0 := fun e _ r w => match e with | .normal => glacierlaw3_NetOwn_p6.dec r (fun s => glacierlaw3_NetOwn_b2 s.1 s.2.1 s.2.2.1 s.2.2.2.1 s.2.2.2.2.1 s.2.2.2.2.2.1 s.2.2.2.2.2.2 K0 w) | .exit i => exitQ i 2 (glacierlaw3_NetOwn_p2.dec r (fun _ => glacierlaw3_NetOwn_b4 R w)) (exitQ i 3 (glacierlaw3_NetOwn_p5.dec r (fun s => glacierlaw3_NetOwn_b0 s.1 s.2.1 s.2.2.1 s.2.2.2.1 s.2.2.2.2 K0 w)) (False)) | .ret => retQ Try.prog Try.f3.results R .ret [] r w | _ => False) h (by kernel_rfl) (fun s r w h => ?_) glacierlaw3_NetOwn_p6_ok (fun _ _ _ h => h) ?_
              · obtain ⟨b10, b_n8, b_c8, n7, k3, m1, i2⟩ := s
                have h : glacierlaw3_NetOwn_b2 b10 b_n8 b_c8 n7 k3 m1 i2 K0 w := h
                refine Wp_block_via glacierlaw3_NetOwn_p5 (fun s w => glacierlaw3_NetOwn_b0 s.1 s.2.1 s.2.2.1 s.2.2.2.1 s.2.2.2.2 K0 w) hN5 (fun hX7 => ?_)
                refine Wp_loop (p := glacierlaw3_NetOwn_p6) glacierlaw3_NetOwn_p6_ok (fun s r w K1 h => ?_) h
                obtain ⟨b11, b_n9, b_c9, n8, k4, m2, i3⟩ := s
                have h : glacierlaw3_NetOwn_b1 b11 b_n9 b_c9 n8 k4 m2 i3 K0 K1 w := h
                have hK8 := fun (s : (Option Addr) × Nat × Nat × (Option Addr) × Int × Addr × Int) (r : Regs) (w : World) (h : K1 s w) => glacierlaw3_NetOwn_p6_re s r (fun s => K1 s w) h
                refine Wp_leaf_end (Q0 := fun e _ r w => match e with | .normal => glacierlaw3_NetOwn_p6.dec r (fun s => K1 s w) | .exit i => exitQ i 2 (glacierlaw3_NetOwn_p2.dec r (fun _ => glacierlaw3_NetOwn_b4 R w)) (exitQ i 3 (glacierlaw3_NetOwn_p5.dec r (fun s => glacierlaw3_NetOwn_b0 s.1 s.2.1 s.2.2.1 s.2.2.2.1 s.2.2.2.2 K0 w)) (exitQ i 4 (glacierlaw3_NetOwn_p5.dec r (fun s => glacierlaw3_NetOwn_b0 s.1 s.2.1 s.2.2.1 s.2.2.2.1 s.2.2.2.2 K0 w)) (False))) | .ret => retQ Try.prog Try.f3.results R .ret [] r w | _ => False) h (by kernel_rfl) ?_
                intro e _ r w h
                cases e with
                | normal =>
                  obtain ⟨s, hs, h⟩ := glacierlaw3_NetOwn_p6_ok _ _ h
                  rw [← hs]
                  exact hK8 s r w h
                | exit i =>
                  rcases exitQ_elim h with ⟨rfl, h⟩ | ⟨_, h⟩
                  · obtain ⟨s, hs, h⟩ := glacierlaw3_NetOwn_p2_ok _ _ h
                    rw [← hs]
                    exact (fun s r w h => blockQ_other (id := 4) (j := 2) (by decide) ((fun s r w h => blockQ_other (id := 3) (j := 2) (by decide) (hX3 s r w h)) s r w h)) s r w h
                  rcases exitQ_elim h with ⟨rfl, h⟩ | ⟨_, h⟩
                  · obtain ⟨s, hs, h⟩ := glacierlaw3_NetOwn_p5_ok _ _ h
                    rw [← hs]
                    exact (fun s r w h => blockQ_other (id := 4) (j := 3) (by decide) (hX6 s r w h)) s r w h
                  rcases exitQ_elim h with ⟨rfl, h⟩ | ⟨_, h⟩
                  · obtain ⟨s, hs, h⟩ := glacierlaw3_NetOwn_p5_ok _ _ h
                    rw [← hs]
                    exact hX7 s r w h
                  exact h.elim
                | ret => exact h
                | goto i => exact h.elim
                | panic c => exact h.elim
                | outgrown => exact h.elim
              · intro e _ r w hne h
                cases e with
                | normal => exact absurd rfl hne
                | exit i =>
                  rcases exitQ_elim h with ⟨rfl, h⟩ | ⟨_, h⟩
                  · obtain ⟨s, hs, h⟩ := glacierlaw3_NetOwn_p2_ok _ _ h
                    rw [← hs]
                    exact (fun s r w h => blockQ_other (id := 3) (j := 2) (by decide) (hX3 s r w h)) s r w h
                  rcases exitQ_elim h with ⟨rfl, h⟩ | ⟨_, h⟩
                  · obtain ⟨s, hs, h⟩ := glacierlaw3_NetOwn_p5_ok _ _ h
                    rw [← hs]
                    exact hX6 s r w h
                  exact h.elim
                | ret => exact h
                | goto i => exact h.elim
                | panic c => exact h.elim
                | outgrown => exact h.elim
          · intro e _ r w hne h
            cases e with
            | normal => exact absurd rfl hne
            | exit i =>
              rcases exitQ_elim h with ⟨rfl, h⟩ | ⟨_, h⟩
              · obtain ⟨s, hs, h⟩ := glacierlaw3_NetOwn_p2_ok _ _ h
                rw [← hs]
                exact hX3 s r w h
              exact h.elim
            | ret => exact h
            | goto i => exact h.elim
            | panic c => exact h.elim
            | outgrown => exact h.elim
        · intro e _ r w hne h
          cases e with
          | normal => exact absurd rfl hne
          | exit i => exact h.elim
          | ret => exact h
          | goto i => exact h.elim
          | panic c => exact h.elim
          | outgrown => exact h.elim
    · refine Wp_glue glacierlaw3_NetOwn_p7 (fun s w => glacierlaw3_NetOwn_b9 s.1 s.2.1 s.2.2.1 s.2.2.2.1 s.2.2.2.2.1 s.2.2.2.2.2.1 s.2.2.2.2.2.2.1 s.2.2.2.2.2.2.2 R w) [_] (Q0 := fun e _ r w => match e with | .normal => glacierlaw3_NetOwn_p7.dec r (fun s => glacierlaw3_NetOwn_b9 s.1 s.2.1 s.2.2.1 s.2.2.2.1 s.2.2.2.2.1 s.2.2.2.2.2.1 s.2.2.2.2.2.2.1 s.2.2.2.2.2.2.2 R w) | .exit _ => False | .ret => retQ Try.prog Try.f3.results R .ret [] r w | _ => False) h (by kernel_rfl) (fun s r w h => ?_) glacierlaw3_NetOwn_p7_ok (fun _ _ _ h => h) ?_
      · obtain ⟨b4, b_n2, b_c2, n1, mine1, mine_n1, mine_c1, i⟩ := s
        have h : glacierlaw3_NetOwn_b9 b4 b_n2 b_c2 n1 mine1 mine_n1 mine_c1 i R w := h
        refine Wp_block_via glacierlaw3_NetOwn_p1 (fun s w => glacierlaw3_NetOwn_b7 s.1 s.2.1 s.2.2.1 s.2.2.2 R w) hN1 (fun hX9 => ?_)
        refine Wp_loop (p := glacierlaw3_NetOwn_p7) glacierlaw3_NetOwn_p7_ok (fun s r w K0 h => ?_) h
        obtain ⟨b5, b_n3, b_c3, n2, mine2, mine_n2, mine_c2, i1⟩ := s
        have h : glacierlaw3_NetOwn_b8 b5 b_n3 b_c3 n2 mine2 mine_n2 mine_c2 i1 K0 R w := h
        have hK10 := fun (s : (Option Addr) × Nat × Nat × (Option Addr) × (Option Addr) × Nat × Nat × Int) (r : Regs) (w : World) (h : K0 s w) => glacierlaw3_NetOwn_p7_re s r (fun s => K0 s w) h
        refine Wp_leaf_end (Q0 := fun e _ r w => match e with | .normal => glacierlaw3_NetOwn_p7.dec r (fun s => K0 s w) | .exit i => exitQ i 0 (glacierlaw3_NetOwn_p1.dec r (fun s => glacierlaw3_NetOwn_b7 s.1 s.2.1 s.2.2.1 s.2.2.2 R w)) (False) | .ret => retQ Try.prog Try.f3.results R .ret [] r w | _ => False) h (by kernel_rfl) ?_
        intro e _ r w h
        cases e with
        | normal =>
          obtain ⟨s, hs, h⟩ := glacierlaw3_NetOwn_p7_ok _ _ h
          rw [← hs]
          exact hK10 s r w h
        | exit i =>
          rcases exitQ_elim h with ⟨rfl, h⟩ | ⟨_, h⟩
          · obtain ⟨s, hs, h⟩ := glacierlaw3_NetOwn_p1_ok _ _ h
            rw [← hs]
            exact hX9 s r w h
          exact h.elim
        | ret => exact h
        | goto i => exact h.elim
        | panic c => exact h.elim
        | outgrown => exact h.elim
      · intro e _ r w hne h
        cases e with
        | normal => exact absurd rfl hne
        | exit i => exact h.elim
        | ret => exact h
        | goto i => exact h.elim
        | panic c => exact h.elim
        | outgrown => exact h.elim
  · intro e _ r w hne h
    cases e with
    | normal => exact absurd rfl hne
    | exit i => exact h.elim
    | ret => exact h
    | goto i => exact h.elim
    | panic c => exact h.elim
    | outgrown => exact h.elim

/- glacier/glacierlaw3.known -/
def glacierlaw3_known_b0 (R : Value → World → Prop) (w : World) : Prop :=
  CallR Try.prog fn_net_New #[(.int .i64 3), (.int .i64 2)] w fun res w_ =>
  mTup res fun l =>
  mCons l fun v l1 =>
  mPtr v fun v1 =>
  mCons l1 fun v2 l2 =>
  mInt .i64 v2 fun v3 =>
  mNil l2 (
  Br (v3 != 0) (
  R (.bool false) w_) (
  Br (Option.isNone v1) (
  R (.bool false) w_) (
  AL w_ (.cells #[(.int .u8 120)] 5) fun b w_1 =>
  rRun Try.prog (convert 22 22 (.slice (some b) 1 1)) w_1 fun sr w_2 =>
  mSlice sr fun v4 v_n v_c =>
  AL w_2 (.cells #[(.int .i64 1), (.int .i64 2), (.int .i64 1), (.int .i64 1)] 3) fun b1 w_3 =>
  CallR Try.prog fn_net_Net_Send #[(.pointer v1), (.int .i64 0), (.slice v4 v_n v_c), (.slice (some b1) 4 4)] w_3 fun res1 w_4 =>
  mInt .i64 res1 fun v5 =>
  CallR Try.prog fn_net_Net_Deliver #[(.pointer v1), (.int .i64 0), (.int .i64 1), (.int .i64 5)] w_4 fun res2 w_5 =>
  mTup res2 fun l3 =>
  mCons l3 fun v6 l4 =>
  mAgg v6 fun v_l =>
  mCons v_l fun v_From l5 =>
  mInt .i64 v_From fun v_From1 =>
  mCons l5 fun v_To l6 =>
  mInt .i64 v_To fun v_To1 =>
  mCons l6 fun v_Bytes l7 =>
  mSlice v_Bytes fun v_Bytes1 v_Bytes_n v_Bytes_c =>
  mNil l7 (
  mCons l4 fun v7 l8 =>
  mBool v7 fun v8 =>
  mNil l8 (
  AL w_5 (.cells #[(.int .i64 0), (.int .i64 0), (.slice none 0 0)] 31) fun m w_6 =>
  ST w_6 m (.int .i64 v_From1) fun w_7 =>
  ST w_7 (Addr.add m 1) (.int .i64 v_To1) fun w_8 =>
  ST w_8 (Addr.add m 2) (.slice v_Bytes1 v_Bytes_n v_Bytes_c) fun w_9 =>
  Br (v5 == 3) (
  Br v8 (
  LDSl w_9 (Addr.add m 2) fun v9 v_n1 v_c1 =>
  rRun Try.prog (convert 22 9 (.slice v9 v_n1 v_c1)) w_9 fun sr1 w_10 =>
  mStr sr1 fun v10 =>
  Br (ByteArray.toList v10 == ByteArray.toList (ByteArray.mk #[120])) (
  CallR Try.prog fn_net_Net_Double #[(.pointer v1), (.int .i64 0), (.int .i64 1), (.int .i64 0)] w_10 fun res3 w_11 =>
  mBool res3 fun v11 =>
  Br v11 (
  CallR Try.prog fn_net_Net_Double #[(.pointer v1), (.int .i64 0), (.int .i64 1), (.int .i64 0)] w_11 fun res4 w_12 =>
  mBool res4 fun v12 =>
  Br (!v12) (
  CallR Try.prog fn_net_Net_All #[(.pointer v1)] w_12 fun res5 w_13 =>
  mInt .i64 res5 fun v13 =>
  R (.bool (v13 == 3)) w_13) (
  R (.bool false) w_12)) (
  R (.bool false) w_11)) (
  R (.bool false) w_10)) (
  R (.bool false) w_9)) (
  R (.bool false) w_9))))))

theorem glacierlaw3_known_sound (R : Value → World → Prop) (w : World) (h : glacierlaw3_known_b0 R w) :
    CallR Try.prog fn_glacierlaw3_known #[] w R := by
  refine CallR_intro (args := []) Try.func6 rfl (Nat.le_of_ble_eq_true (by kernel_rfl)) ?_
  refine Wp_leaf_end (Q0 := fun e _ r w => match e with | .normal => retQ Try.prog Try.f6.results R .normal [] r w | .exit _ => False | .ret => retQ Try.prog Try.f6.results R .ret [] r w | _ => False) h (by kernel_rfl) ?_
  intro e _ r w h
  cases e with
  | normal => exact h
  | exit i => exact h.elim
  | ret => exact h
  | goto i => exact h.elim
  | panic c => exact h.elim
  | outgrown => exact h.elim

/- glacier/glacierlaw3.NetOften -/
def glacierlaw3_NetOften_b0 (l15 : Option Addr) (l_n6 : Nat) (l_c6 : Nat) (n5 : Option Addr) (in_5 : Int) (out5 : Int) (i4 : Int) (K0 : ((Option Addr) × Nat × Nat × (Option Addr) × Int × Int × Int) → World → Prop) (w : World) : Prop :=
  K0 (l15, l_n6, l_c6, n5, in_5, out5, IntKind.wrap .i64 (i4 + 1)) w

def glacierlaw3_NetOften_b1 (l14 : Option Addr) (l_n5 : Nat) (l_c5 : Nat) (n4 : Option Addr) (in_4 : Int) (out4 : Int) (i3 : Int) (K0 : ((Option Addr) × Nat × Nat × (Option Addr) × Int × Int × Int) → World → Prop) (R : Value → World → Prop) (w : World) : Prop :=
  CallR Try.prog fn_net_Net_All #[(.pointer n4)] w fun res7 w_19 =>
  mInt .i64 res7 fun v31 =>
  Br (v31 != (IntKind.wrap .i64 (in_4 - out4))) (
  R (.bool false) w_19) (
  glacierlaw3_NetOften_b0 l14 l_n5 l_c5 n4 in_4 out4 i3 K0 w_19)

def glacierlaw3_NetOften_b2 (l7 : Option Addr) (l_n4 : Nat) (l_c4 : Nat) (n3 : Option Addr) (in_3 : Int) (out3 : Int) (i2 : Int) (K0 : ((Option Addr) × Nat × Nat × (Option Addr) × Int × Int × Int) → World → Prop) (R : Value → World → Prop) (w : World) : Prop :=
  IX l7 l_n4 i2 6 fun a =>
  LDI .i64 w a fun Op =>
  LDI .i64 w (Addr.add a 1) fun From =>
  LDI .i64 w (Addr.add a 2) fun To =>
  LDI .i64 w (Addr.add a 3) fun Pick =>
  LDSl w (Addr.add a 4) fun Tos Tos_n Tos_c =>
  LDSl w (Addr.add a 5) fun Bytes Bytes_n Bytes_c =>
  AL w (.cells #[(.int .i64 0), (.int .i64 0), (.int .i64 0), (.int .i64 0), (.slice none 0 0), (.slice none 0 0)] 39) fun x w_3 =>
  ST w_3 x (.int .i64 Op) fun w_4 =>
  ST w_4 (Addr.add x 1) (.int .i64 From) fun w_5 =>
  ST w_5 (Addr.add x 2) (.int .i64 To) fun w_6 =>
  ST w_6 (Addr.add x 3) (.int .i64 Pick) fun w_7 =>
  ST w_7 (Addr.add x 4) (.slice Tos Tos_n Tos_c) fun w_8 =>
  ST w_8 (Addr.add x 5) (.slice Bytes Bytes_n Bytes_c) fun w_9 =>
  LDI .i64 w_9 x fun v6 =>
  Br (v6 == 1) (
  LDI .i64 w_9 (Addr.add x 1) fun v7 =>
  AL w_9 (.cells #[(.int .u8 (IntKind.wrap .u8 i2))] 5) fun b w_10 =>
  LDSl w_10 (Addr.add x 4) fun v8 v_n v_c =>
  CallR Try.prog fn_net_Net_Send #[(.pointer n3), (.int .i64 v7), (.slice (some b) 1 1), (.slice v8 v_n v_c)] w_10 fun res3 w_11 =>
  mInt .i64 res3 fun v9 =>
  glacierlaw3_NetOften_b1 l7 l_n4 l_c4 n3 (IntKind.wrap .i64 (in_3 + v9)) out3 i2 K0 R w_11) (
  Br (v6 == 2) (
  LDI .i64 w_9 (Addr.add x 1) fun v10 =>
  LDI .i64 w_9 (Addr.add x 2) fun v11 =>
  LDI .i64 w_9 (Addr.add x 3) fun v12 =>
  CallR Try.prog fn_net_Net_Deliver #[(.pointer n3), (.int .i64 v10), (.int .i64 v11), (.int .i64 v12)] w_9 fun res4 w_12 =>
  mTup res4 fun l8 =>
  mCons l8 fun v13 l9 =>
  mAgg v13 fun v_l =>
  mCons v_l fun v_From l10 =>
  mInt .i64 v_From fun v_From1 =>
  mCons l10 fun v_To l11 =>
  mInt .i64 v_To fun v_To1 =>
  mCons l11 fun v_Bytes l12 =>
  mSlice v_Bytes fun v_Bytes1 v_Bytes_n v_Bytes_c =>
  mNil l12 (
  mCons l9 fun v14 l13 =>
  mBool v14 fun v15 =>
  mNil l13 (
  AL w_12 (.cells #[(.int .i64 0), (.int .i64 0), (.slice none 0 0)] 31) fun m w_13 =>
  ST w_13 m (.int .i64 v_From1) fun w_14 =>
  ST w_14 (Addr.add m 1) (.int .i64 v_To1) fun w_15 =>
  ST w_15 (Addr.add m 2) (.slice v_Bytes1 v_Bytes_n v_Bytes_c) fun w_16 =>
  Br v15 (
  LDI .i64 w_16 m fun v16 =>
  LDI .i64 w_16 (Addr.add x 1) fun v17 =>
  Br (v16 != v17) (
  R (.bool false) w_16) (
  LDI .i64 w_16 (Addr.add m 1) fun v18 =>
  LDI .i64 w_16 (Addr.add x 2) fun v19 =>
  Br (v18 != v19) (
  R (.bool false) w_16) (
  LDSl w_16 (Addr.add m 2) fun _ v_n1 _ =>
  Br ((v_n1 : Int) != 1) (
  R (.bool false) w_16) (
  LDSl w_16 (Addr.add m 2) fun v21 v_n2 _ =>
  IX v21 v_n2 0 1 fun a1 =>
  LDI .u8 w_16 a1 fun v22 =>
  Br (decide ((IntKind.wrap .i64 v22) > 255)) (
  R (.bool false) w_16) (
  glacierlaw3_NetOften_b1 l7 l_n4 l_c4 n3 in_3 (IntKind.wrap .i64 (out3 + 1)) i2 K0 R w_16))))) (
  glacierlaw3_NetOften_b1 l7 l_n4 l_c4 n3 in_3 out3 i2 K0 R w_16)))) (
  Br (v6 == 3) (
  LDI .i64 w_9 (Addr.add x 1) fun v23 =>
  LDI .i64 w_9 (Addr.add x 2) fun v24 =>
  LDI .i64 w_9 (Addr.add x 3) fun v25 =>
  CallR Try.prog fn_net_Net_Drop #[(.pointer n3), (.int .i64 v23), (.int .i64 v24), (.int .i64 v25)] w_9 fun res5 w_17 =>
  mBool res5 fun v26 =>
  Br v26 (
  glacierlaw3_NetOften_b1 l7 l_n4 l_c4 n3 in_3 (IntKind.wrap .i64 (out3 + 1)) i2 K0 R w_17) (
  glacierlaw3_NetOften_b1 l7 l_n4 l_c4 n3 in_3 out3 i2 K0 R w_17)) (
  Br (v6 == 4) (
  LDI .i64 w_9 (Addr.add x 1) fun v27 =>
  LDI .i64 w_9 (Addr.add x 2) fun v28 =>
  LDI .i64 w_9 (Addr.add x 3) fun v29 =>
  CallR Try.prog fn_net_Net_Double #[(.pointer n3), (.int .i64 v27), (.int .i64 v28), (.int .i64 v29)] w_9 fun res6 w_18 =>
  mBool res6 fun v30 =>
  Br v30 (
  glacierlaw3_NetOften_b1 l7 l_n4 l_c4 n3 (IntKind.wrap .i64 (in_3 + 1)) out3 i2 K0 R w_18) (
  glacierlaw3_NetOften_b1 l7 l_n4 l_c4 n3 in_3 out3 i2 K0 R w_18)) (
  glacierlaw3_NetOften_b1 l7 l_n4 l_c4 n3 in_3 out3 i2 K0 R w_9))))

def glacierlaw3_NetOften_b3 (R : Value → World → Prop) (w : World) : Prop :=
  R (.bool true) w

def glacierlaw3_NetOften_b4 (l6 : Option Addr) (l_n3 : Nat) (l_c3 : Nat) (n2 : Option Addr) (in_2 : Int) (out2 : Int) (i1 : Int) (K0 : ((Option Addr) × Nat × Nat × (Option Addr) × Int × Int × Int) → World → Prop) (R : Value → World → Prop) (w : World) : Prop :=
  Br (decide (i1 < (l_n3 : Int))) (
  glacierlaw3_NetOften_b2 l6 l_n3 l_c3 n2 in_2 out2 i1 K0 R w) (
  glacierlaw3_NetOften_b3 R w)

def glacierlaw3_NetOften_b5 (l5 : Option Addr) (l_n2 : Nat) (l_c2 : Nat) (n1 : Option Addr) (in_1 : Int) (out1 : Int) (i : Int) (R : Value → World → Prop) (w : World) : Prop :=
  LoopS (σ := (Option Addr) × Nat × Nat × (Option Addr) × Int × Int × Int) (fun s w K0 =>
  glacierlaw3_NetOften_b4 s.1 s.2.1 s.2.2.1 s.2.2.2.1 s.2.2.2.2.1 s.2.2.2.2.2.1 s.2.2.2.2.2.2 K0 R w) (l5, l_n2, l_c2, n1, in_1, out1, i) w

def glacierlaw3_NetOften_b6 (l4 : Option Addr) (l_n1 : Nat) (l_c1 : Nat) (n : Option Addr) (in_ : Int) (out : Int) (R : Value → World → Prop) (w : World) : Prop :=
  glacierlaw3_NetOften_b5 l4 l_n1 l_c1 n in_ out 0 R w

def glacierlaw3_NetOften_b7 (l : Option Addr) (l_n : Nat) (l_c : Nat) (R : Value → World → Prop) (w : World) : Prop :=
  CallR Try.prog fn_glacierlaw3_known #[] w fun res w_ =>
  mBool res fun v =>
  Br (!v) (
  R (.bool false) w_) (
  CallR Try.prog fn_glacierlaw3_few #[(.slice l l_n l_c)] w_ fun res1 w_1 =>
  mBool res1 fun v1 =>
  Br (!v1) (
  R (.bool true) w_1) (
  CallR Try.prog fn_net_New #[(.int .i64 4), (.int .i64 30)] w_1 fun res2 w_2 =>
  mTup res2 fun l1 =>
  mCons l1 fun v2 l2 =>
  mPtr v2 fun v3 =>
  mCons l2 fun v4 l3 =>
  mInt .i64 v4 fun v5 =>
  mNil l3 (
  Br (v5 != 0) (
  R (.bool false) w_2) (
  Br (Option.isNone v3) (
  R (.bool false) w_2) (
  glacierlaw3_NetOften_b6 l l_n l_c v3 0 0 R w_2)))))

def glacierlaw3_NetOften_p0 : Point ((Option Addr) × Nat × Nat × (Option Addr) × Int × Int) := { slots := fun s => [(0, (.slice s.1 s.2.1 s.2.2.1)), (3, (.pointer s.2.2.2.1)), (5, (.int .i64 s.2.2.2.2.1)), (6, (.int .i64 s.2.2.2.2.2))], dec := fun r K => mSlice (r 0) fun x x1 x2 => mPtr (r 3) fun x3 => mInt .i64 (r 5) fun x4 => mInt .i64 (r 6) fun x5 => K (x, x1, x2, x3, x4, x5) }
theorem glacierlaw3_NetOften_p0_ok : glacierlaw3_NetOften_p0.ok := by
  intro r K h
  unfold glacierlaw3_NetOften_p0 at h
  obtain ⟨x, x1, x2, e0, h⟩ := mSlice_elim h
  obtain ⟨x3, e1, h⟩ := mPtr_elim h
  obtain ⟨x4, e2, h⟩ := mInt_elim h
  obtain ⟨x5, e3, h⟩ := mInt_elim h
  exact ⟨(x, x1, x2, x3, x4, x5), regsOf_self (L := [(0, (.slice x x1 x2)), (3, (.pointer x3)), (5, (.int .i64 x4)), (6, (.int .i64 x5))]) (List.forall_mem_cons.2 ⟨e0, List.forall_mem_cons.2 ⟨e1, List.forall_mem_cons.2 ⟨e2, List.forall_mem_cons.2 ⟨e3, List.forall_mem_nil _⟩⟩⟩⟩), h⟩
theorem glacierlaw3_NetOften_p0_re (s : (Option Addr) × Nat × Nat × (Option Addr) × Int × Int) (r : Regs) (K : ((Option Addr) × Nat × Nat × (Option Addr) × Int × Int) → Prop) (h : K s) : glacierlaw3_NetOften_p0.dec (regsOf (glacierlaw3_NetOften_p0.slots s) r) K := by
  obtain ⟨x6, x7, x8, x9, x10, x11⟩ := s
  exact cast (show K (x6, x7, x8, x9, x10, x11) = glacierlaw3_NetOften_p0.dec (regsOf (glacierlaw3_NetOften_p0.slots (x6, x7, x8, x9, x10, x11)) r) K by kernel_rfl) h

def glacierlaw3_NetOften_p1 : Point (Unit) := { slots := fun _ => [], dec := fun _ K => K () }
theorem glacierlaw3_NetOften_p1_ok : glacierlaw3_NetOften_p1.ok := by
  intro r K h
  unfold glacierlaw3_NetOften_p1 at h
  exact ⟨(), regsOf_self (L := []) (List.forall_mem_nil _), h⟩
theorem glacierlaw3_NetOften_p1_re (s : Unit) (r : Regs) (K : Unit → Prop) (h : K s) : glacierlaw3_NetOften_p1.dec (regsOf (glacierlaw3_NetOften_p1.slots s) r) K := by
  exact cast (show K () = glacierlaw3_NetOften_p1.dec (regsOf (glacierlaw3_NetOften_p1.slots ()) r) K by kernel_rfl) h

def glacierlaw3_NetOften_p2 : Point ((Option Addr) × Nat × Nat × (Option Addr) × Int × Int × Int) := { slots := fun s => [(0, (.slice s.1 s.2.1 s.2.2.1)), (3, (.pointer s.2.2.2.1)), (5, (.int .i64 s.2.2.2.2.1)), (6, (.int .i64 s.2.2.2.2.2.1)), (7, (.int .i64 s.2.2.2.2.2.2))], dec := fun r K => mSlice (r 0) fun x x1 x2 => mPtr (r 3) fun x3 => mInt .i64 (r 5) fun x4 => mInt .i64 (r 6) fun x5 => mInt .i64 (r 7) fun x6 => K (x, x1, x2, x3, x4, x5, x6) }
theorem glacierlaw3_NetOften_p2_ok : glacierlaw3_NetOften_p2.ok := by
  intro r K h
  unfold glacierlaw3_NetOften_p2 at h
  obtain ⟨x, x1, x2, e0, h⟩ := mSlice_elim h
  obtain ⟨x3, e1, h⟩ := mPtr_elim h
  obtain ⟨x4, e2, h⟩ := mInt_elim h
  obtain ⟨x5, e3, h⟩ := mInt_elim h
  obtain ⟨x6, e4, h⟩ := mInt_elim h
  exact ⟨(x, x1, x2, x3, x4, x5, x6), regsOf_self (L := [(0, (.slice x x1 x2)), (3, (.pointer x3)), (5, (.int .i64 x4)), (6, (.int .i64 x5)), (7, (.int .i64 x6))]) (List.forall_mem_cons.2 ⟨e0, List.forall_mem_cons.2 ⟨e1, List.forall_mem_cons.2 ⟨e2, List.forall_mem_cons.2 ⟨e3, List.forall_mem_cons.2 ⟨e4, List.forall_mem_nil _⟩⟩⟩⟩⟩), h⟩
theorem glacierlaw3_NetOften_p2_re (s : (Option Addr) × Nat × Nat × (Option Addr) × Int × Int × Int) (r : Regs) (K : ((Option Addr) × Nat × Nat × (Option Addr) × Int × Int × Int) → Prop) (h : K s) : glacierlaw3_NetOften_p2.dec (regsOf (glacierlaw3_NetOften_p2.slots s) r) K := by
  obtain ⟨x7, x8, x9, x10, x11, x12, x13⟩ := s
  exact cast (show K (x7, x8, x9, x10, x11, x12, x13) = glacierlaw3_NetOften_p2.dec (regsOf (glacierlaw3_NetOften_p2.slots (x7, x8, x9, x10, x11, x12, x13)) r) K by kernel_rfl) h

def glacierlaw3_NetOften_p3 : Point ((Option Addr) × Nat × Nat × (Option Addr) × Int × Int × Int) := { slots := fun s => [(0, (.slice s.1 s.2.1 s.2.2.1)), (3, (.pointer s.2.2.2.1)), (5, (.int .i64 s.2.2.2.2.1)), (6, (.int .i64 s.2.2.2.2.2.1)), (7, (.int .i64 s.2.2.2.2.2.2))], dec := fun r K => mSlice (r 0) fun x x1 x2 => mPtr (r 3) fun x3 => mInt .i64 (r 5) fun x4 => mInt .i64 (r 6) fun x5 => mInt .i64 (r 7) fun x6 => K (x, x1, x2, x3, x4, x5, x6) }
theorem glacierlaw3_NetOften_p3_ok : glacierlaw3_NetOften_p3.ok := by
  intro r K h
  unfold glacierlaw3_NetOften_p3 at h
  obtain ⟨x, x1, x2, e0, h⟩ := mSlice_elim h
  obtain ⟨x3, e1, h⟩ := mPtr_elim h
  obtain ⟨x4, e2, h⟩ := mInt_elim h
  obtain ⟨x5, e3, h⟩ := mInt_elim h
  obtain ⟨x6, e4, h⟩ := mInt_elim h
  exact ⟨(x, x1, x2, x3, x4, x5, x6), regsOf_self (L := [(0, (.slice x x1 x2)), (3, (.pointer x3)), (5, (.int .i64 x4)), (6, (.int .i64 x5)), (7, (.int .i64 x6))]) (List.forall_mem_cons.2 ⟨e0, List.forall_mem_cons.2 ⟨e1, List.forall_mem_cons.2 ⟨e2, List.forall_mem_cons.2 ⟨e3, List.forall_mem_cons.2 ⟨e4, List.forall_mem_nil _⟩⟩⟩⟩⟩), h⟩
theorem glacierlaw3_NetOften_p3_re (s : (Option Addr) × Nat × Nat × (Option Addr) × Int × Int × Int) (r : Regs) (K : ((Option Addr) × Nat × Nat × (Option Addr) × Int × Int × Int) → Prop) (h : K s) : glacierlaw3_NetOften_p3.dec (regsOf (glacierlaw3_NetOften_p3.slots s) r) K := by
  obtain ⟨x7, x8, x9, x10, x11, x12, x13⟩ := s
  exact cast (show K (x7, x8, x9, x10, x11, x12, x13) = glacierlaw3_NetOften_p3.dec (regsOf (glacierlaw3_NetOften_p3.slots (x7, x8, x9, x10, x11, x12, x13)) r) K by kernel_rfl) h

def glacierlaw3_NetOften_p4 : Point ((Option Addr) × Nat × Nat × (Option Addr) × Int × Int × Int) := { slots := fun s => [(0, (.slice s.1 s.2.1 s.2.2.1)), (3, (.pointer s.2.2.2.1)), (5, (.int .i64 s.2.2.2.2.1)), (6, (.int .i64 s.2.2.2.2.2.1)), (7, (.int .i64 s.2.2.2.2.2.2))], dec := fun r K => mSlice (r 0) fun x x1 x2 => mPtr (r 3) fun x3 => mInt .i64 (r 5) fun x4 => mInt .i64 (r 6) fun x5 => mInt .i64 (r 7) fun x6 => K (x, x1, x2, x3, x4, x5, x6) }
theorem glacierlaw3_NetOften_p4_ok : glacierlaw3_NetOften_p4.ok := by
  intro r K h
  unfold glacierlaw3_NetOften_p4 at h
  obtain ⟨x, x1, x2, e0, h⟩ := mSlice_elim h
  obtain ⟨x3, e1, h⟩ := mPtr_elim h
  obtain ⟨x4, e2, h⟩ := mInt_elim h
  obtain ⟨x5, e3, h⟩ := mInt_elim h
  obtain ⟨x6, e4, h⟩ := mInt_elim h
  exact ⟨(x, x1, x2, x3, x4, x5, x6), regsOf_self (L := [(0, (.slice x x1 x2)), (3, (.pointer x3)), (5, (.int .i64 x4)), (6, (.int .i64 x5)), (7, (.int .i64 x6))]) (List.forall_mem_cons.2 ⟨e0, List.forall_mem_cons.2 ⟨e1, List.forall_mem_cons.2 ⟨e2, List.forall_mem_cons.2 ⟨e3, List.forall_mem_cons.2 ⟨e4, List.forall_mem_nil _⟩⟩⟩⟩⟩), h⟩
theorem glacierlaw3_NetOften_p4_re (s : (Option Addr) × Nat × Nat × (Option Addr) × Int × Int × Int) (r : Regs) (K : ((Option Addr) × Nat × Nat × (Option Addr) × Int × Int × Int) → Prop) (h : K s) : glacierlaw3_NetOften_p4.dec (regsOf (glacierlaw3_NetOften_p4.slots s) r) K := by
  obtain ⟨x7, x8, x9, x10, x11, x12, x13⟩ := s
  exact cast (show K (x7, x8, x9, x10, x11, x12, x13) = glacierlaw3_NetOften_p4.dec (regsOf (glacierlaw3_NetOften_p4.slots (x7, x8, x9, x10, x11, x12, x13)) r) K by kernel_rfl) h

def glacierlaw3_NetOften_p5 : Point ((Option Addr) × Nat × Nat × (Option Addr) × Int × Int × Int) := { slots := fun s => [(0, (.slice s.1 s.2.1 s.2.2.1)), (3, (.pointer s.2.2.2.1)), (5, (.int .i64 s.2.2.2.2.1)), (6, (.int .i64 s.2.2.2.2.2.1)), (7, (.int .i64 s.2.2.2.2.2.2))], dec := fun r K => mSlice (r 0) fun x x1 x2 => mPtr (r 3) fun x3 => mInt .i64 (r 5) fun x4 => mInt .i64 (r 6) fun x5 => mInt .i64 (r 7) fun x6 => K (x, x1, x2, x3, x4, x5, x6) }
theorem glacierlaw3_NetOften_p5_ok : glacierlaw3_NetOften_p5.ok := by
  intro r K h
  unfold glacierlaw3_NetOften_p5 at h
  obtain ⟨x, x1, x2, e0, h⟩ := mSlice_elim h
  obtain ⟨x3, e1, h⟩ := mPtr_elim h
  obtain ⟨x4, e2, h⟩ := mInt_elim h
  obtain ⟨x5, e3, h⟩ := mInt_elim h
  obtain ⟨x6, e4, h⟩ := mInt_elim h
  exact ⟨(x, x1, x2, x3, x4, x5, x6), regsOf_self (L := [(0, (.slice x x1 x2)), (3, (.pointer x3)), (5, (.int .i64 x4)), (6, (.int .i64 x5)), (7, (.int .i64 x6))]) (List.forall_mem_cons.2 ⟨e0, List.forall_mem_cons.2 ⟨e1, List.forall_mem_cons.2 ⟨e2, List.forall_mem_cons.2 ⟨e3, List.forall_mem_cons.2 ⟨e4, List.forall_mem_nil _⟩⟩⟩⟩⟩), h⟩
theorem glacierlaw3_NetOften_p5_re (s : (Option Addr) × Nat × Nat × (Option Addr) × Int × Int × Int) (r : Regs) (K : ((Option Addr) × Nat × Nat × (Option Addr) × Int × Int × Int) → Prop) (h : K s) : glacierlaw3_NetOften_p5.dec (regsOf (glacierlaw3_NetOften_p5.slots s) r) K := by
  obtain ⟨x7, x8, x9, x10, x11, x12, x13⟩ := s
  exact cast (show K (x7, x8, x9, x10, x11, x12, x13) = glacierlaw3_NetOften_p5.dec (regsOf (glacierlaw3_NetOften_p5.slots (x7, x8, x9, x10, x11, x12, x13)) r) K by kernel_rfl) h

theorem glacierlaw3_NetOften_sound (l : Option Addr) (l_n : Nat) (l_c : Nat) (R : Value → World → Prop) (w : World) (h : glacierlaw3_NetOften_b7 l l_n l_c R w) :
    CallR Try.prog fn_glacierlaw3_NetOften #[(.slice l l_n l_c)] w R := by
  refine CallR_intro (args := [(.slice l l_n l_c)]) Try.func4 rfl (Nat.le_of_ble_eq_true (by kernel_rfl)) ?_
  refine Wp_glue glacierlaw3_NetOften_p0 (fun s w => glacierlaw3_NetOften_b6 s.1 s.2.1 s.2.2.1 s.2.2.2.1 s.2.2.2.2.1 s.2.2.2.2.2 R w) [_, _, _, _, _, _, _] (Q0 := fun e _ r w => match e with | .normal => glacierlaw3_NetOften_p0.dec r (fun s => glacierlaw3_NetOften_b6 s.1 s.2.1 s.2.2.1 s.2.2.2.1 s.2.2.2.2.1 s.2.2.2.2.2 R w) | .exit _ => False | .ret => retQ Try.prog Try.f4.results R .ret [] r w | _ => False) h (by kernel_rfl) (fun s r w h => ?_) glacierlaw3_NetOften_p0_ok (fun _ _ _ h => h) ?_
  · obtain ⟨l4, l_n1, l_c1, n, in_, out⟩ := s
    have h : glacierlaw3_NetOften_b6 l4 l_n1 l_c1 n in_ out R w := h
    refine Wp_seq_via glacierlaw3_NetOften_p1 (fun _ w => glacierlaw3_NetOften_b3 R w) (fun s r w h => ?_) (fun hN1 => ?_)
    · cases s
      have h : glacierlaw3_NetOften_b3 R w := h
      refine Wp_leaf_end (Q0 := fun e _ r w => match e with | .normal => retQ Try.prog Try.f4.results R .normal [] r w | .exit _ => False | .ret => retQ Try.prog Try.f4.results R .ret [] r w | _ => False) h (by kernel_rfl) ?_
      intro e _ r w h
      cases e with
      | normal => exact h
      | exit i => exact h.elim
      | ret => exact h
      | goto i => exact h.elim
      | panic c => exact h.elim
      | outgrown => exact h.elim
    · refine Wp_glue glacierlaw3_NetOften_p2 (fun s w => glacierlaw3_NetOften_b5 s.1 s.2.1 s.2.2.1 s.2.2.2.1 s.2.2.2.2.1 s.2.2.2.2.2.1 s.2.2.2.2.2.2 R w) [_] (Q0 := fun e _ r w => match e with | .normal => glacierlaw3_NetOften_p2.dec r (fun s => glacierlaw3_NetOften_b5 s.1 s.2.1 s.2.2.1 s.2.2.2.1 s.2.2.2.2.1 s.2.2.2.2.2.1 s.2.2.2.2.2.2 R w) | .exit _ => False | .ret => retQ Try.prog Try.f4.results R .ret [] r w | _ => False) h (by kernel_rfl) (fun s r w h => ?_) glacierlaw3_NetOften_p2_ok (fun _ _ _ h => h) ?_
      · obtain ⟨l5, l_n2, l_c2, n1, in_1, out1, i⟩ := s
        have h : glacierlaw3_NetOften_b5 l5 l_n2 l_c2 n1 in_1 out1 i R w := h
        refine Wp_block_via glacierlaw3_NetOften_p1 (fun _ w => glacierlaw3_NetOften_b3 R w) hN1 (fun hX2 => ?_)
        refine Wp_loop (p := glacierlaw3_NetOften_p2) glacierlaw3_NetOften_p2_ok (fun s r w K0 h => ?_) h
        obtain ⟨l6, l_n3, l_c3, n2, in_2, out2, i1⟩ := s
        have h : glacierlaw3_NetOften_b4 l6 l_n3 l_c3 n2 in_2 out2 i1 K0 R w := h
        have hK3 := fun (s : (Option Addr) × Nat × Nat × (Option Addr) × Int × Int × Int) (r : Regs) (w : World) (h : K0 s w) => glacierlaw3_NetOften_p2_re s r (fun s => K0 s w) h
        refine Wp_glue glacierlaw3_NetOften_p3 (fun s w => glacierlaw3_NetOften_b2 s.1 s.2.1 s.2.2.1 s.2.2.2.1 s.2.2.2.2.1 s.2.2.2.2.2.1 s.2.2.2.2.2.2 K0 R w) [_] (Q0 := fun e _ r w => match e with | .normal => glacierlaw3_NetOften_p3.dec r (fun s => glacierlaw3_NetOften_b2 s.1 s.2.1 s.2.2.1 s.2.2.2.1 s.2.2.2.2.1 s.2.2.2.2.2.1 s.2.2.2.2.2.2 K0 R w) | .exit i => exitQ i 0 (glacierlaw3_NetOften_p1.dec r (fun _ => glacierlaw3_NetOften_b3 R w)) (False) | .ret => retQ Try.prog Try.f4.results R .ret [] r w | _ => False) h (by kernel_rfl) (fun s r w h => ?_) glacierlaw3_NetOften_p3_ok (fun _ _ _ h => h) ?_
        · obtain ⟨l7, l_n4, l_c4, n3, in_3, out3, i2⟩ := s
          have h : glacierlaw3_NetOften_b2 l7 l_n4 l_c4 n3 in_3 out3 i2 K0 R w := h
          refine Wp_seq_via glacierlaw3_NetOften_p4 (fun s w => glacierlaw3_NetOften_b0 s.1 s.2.1 s.2.2.1 s.2.2.2.1 s.2.2.2.2.1 s.2.2.2.2.2.1 s.2.2.2.2.2.2 K0 w) (fun s r w h => ?_) (fun hN4 => ?_)
          · obtain ⟨l15, l_n6, l_c6, n5, in_5, out5, i4⟩ := s
            have h : glacierlaw3_NetOften_b0 l15 l_n6 l_c6 n5 in_5 out5 i4 K0 w := h
            refine Wp_leaf_end (Q0 := fun e _ r w => match e with | .normal => glacierlaw3_NetOften_p2.dec r (fun s => K0 s w) | .exit i => exitQ i 0 (glacierlaw3_NetOften_p1.dec r (fun _ => glacierlaw3_NetOften_b3 R w)) (False) | .ret => retQ Try.prog Try.f4.results R .ret [] r w | _ => False) h (by kernel_rfl) ?_
            intro e _ r w h
            cases e with
            | normal =>
              obtain ⟨s, hs, h⟩ := glacierlaw3_NetOften_p2_ok _ _ h
              rw [← hs]
              exact hK3 s r w h
            | exit i =>
              rcases exitQ_elim h with ⟨rfl, h⟩ | ⟨_, h⟩
              · obtain ⟨s, hs, h⟩ := glacierlaw3_NetOften_p1_ok _ _ h
                rw [← hs]
                exact hX2 s r w h
              exact h.elim
            | ret => exact h
            | goto i => exact h.elim
            | panic c => exact h.elim
            | outgrown => exact h.elim
          · refine Wp_block_via glacierlaw3_NetOften_p4 (fun s w => glacierlaw3_NetOften_b0 s.1 s.2.1 s.2.2.1 s.2.2.2.1 s.2.2.2.2.1 s.2.2.2.2.2.1 s.2.2.2.2.2.2 K0 w) hN4 (fun hX5 => ?_)
            refine Wp_glue glacierlaw3_NetOften_p5 (fun s w => glacierlaw3_NetOften_b1 s.1 s.2.1 s.2.2.1 s.2.2.2.1 s.2.2.2.2.1 s.2.2.2.2.2.1 s.2.2.2.2.2.2 K0 R w) [_, _] (Q0 := fun e _ r w => match e with | .normal => glacierlaw3_NetOften_p5.dec r (fun s => glacierlaw3_NetOften_b1 s.1 s.2.1 s.2.2.1 s.2.2.2.1 s.2.2.2.2.1 s.2.2.2.2.2.1 s.2.2.2.2.2.2 K0 R w) | .exit i => exitQ i 0 (glacierlaw3_NetOften_p1.dec r (fun _ => glacierlaw3_NetOften_b3 R w)) (exitQ i 1 (glacierlaw3_NetOften_p4.dec r (fun s => glacierlaw3_NetOften_b0 s.1 s.2.1 s.2.2.1 s.2.2.2.1 s.2.2.2.2.1 s.2.2.2.2.2.1 s.2.2.2.2.2.2 K0 w)) (False)) | .ret => retQ Try.prog Try.f4.results R .ret [] r w | _ => False) h (by kernel_rfl) (fun s r w h => ?_) glacierlaw3_NetOften_p5_ok (fun _ _ _ h => h) ?_
            · obtain ⟨l14, l_n5, l_c5, n4, in_4, out4, i3⟩ := s
              have h : glacierlaw3_NetOften_b1 l14 l_n5 l_c5 n4 in_4 out4 i3 K0 R w := h
              refine Wp_leaf_end (Q0 := fun e _ r w => match e with | .normal => glacierlaw3_NetOften_p4.dec r (fun s => glacierlaw3_NetOften_b0 s.1 s.2.1 s.2.2.1 s.2.2.2.1 s.2.2.2.2.1 s.2.2.2.2.2.1 s.2.2.2.2.2.2 K0 w) | .exit i => exitQ i 0 (glacierlaw3_NetOften_p1.dec r (fun _ => glacierlaw3_NetOften_b3 R w)) (exitQ i 1 (glacierlaw3_NetOften_p4.dec r (fun s => glacierlaw3_NetOften_b0 s.1 s.2.1 s.2.2.1 s.2.2.2.1 s.2.2.2.2.1 s.2.2.2.2.2.1 s.2.2.2.2.2.2 K0 w)) (False)) | .ret => retQ Try.prog Try.f4.results R .ret [] r w | _ => False) h (by kernel_rfl) ?_
              intro e _ r w h
              cases e with
              | normal =>
                obtain ⟨s, hs, h⟩ := glacierlaw3_NetOften_p4_ok _ _ h
                rw [← hs]
                exact hN4 s r w h
              | exit i =>
                rcases exitQ_elim h with ⟨rfl, h⟩ | ⟨_, h⟩
                · obtain ⟨s, hs, h⟩ := glacierlaw3_NetOften_p1_ok _ _ h
                  rw [← hs]
                  exact (fun s r w h => blockQ_other (id := 1) (j := 0) (by decide) (hX2 s r w h)) s r w h
                rcases exitQ_elim h with ⟨rfl, h⟩ | ⟨_, h⟩
                · obtain ⟨s, hs, h⟩ := glacierlaw3_NetOften_p4_ok _ _ h
                  rw [← hs]
                  exact hX5 s r w h
                exact h.elim
              | ret => exact h
              | goto i => exact h.elim
              | panic c => exact h.elim
              | outgrown => exact h.elim
            · intro e _ r w hne h
              cases e with
              | normal => exact absurd rfl hne
              | exit i =>
                rcases exitQ_elim h with ⟨rfl, h⟩ | ⟨_, h⟩
                · obtain ⟨s, hs, h⟩ := glacierlaw3_NetOften_p1_ok _ _ h
                  rw [← hs]
                  exact (fun s r w h => blockQ_other (id := 1) (j := 0) (by decide) (hX2 s r w h)) s r w h
                rcases exitQ_elim h with ⟨rfl, h⟩ | ⟨_, h⟩
                · obtain ⟨s, hs, h⟩ := glacierlaw3_NetOften_p4_ok _ _ h
                  rw [← hs]
                  exact hX5 s r w h
                exact h.elim
              | ret => exact h
              | goto i => exact h.elim
              | panic c => exact h.elim
              | outgrown => exact h.elim
        · intro e _ r w hne h
          cases e with
          | normal => exact absurd rfl hne
          | exit i =>
            rcases exitQ_elim h with ⟨rfl, h⟩ | ⟨_, h⟩
            · obtain ⟨s, hs, h⟩ := glacierlaw3_NetOften_p1_ok _ _ h
              rw [← hs]
              exact hX2 s r w h
            exact h.elim
          | ret => exact h
          | goto i => exact h.elim
          | panic c => exact h.elim
          | outgrown => exact h.elim
      · intro e _ r w hne h
        cases e with
        | normal => exact absurd rfl hne
        | exit i => exact h.elim
        | ret => exact h
        | goto i => exact h.elim
        | panic c => exact h.elim
        | outgrown => exact h.elim
  · intro e _ r w hne h
    cases e with
    | normal => exact absurd rfl hne
    | exit i => exact h.elim
    | ret => exact h
    | goto i => exact h.elim
    | panic c => exact h.elim
    | outgrown => exact h.elim

/- glacier/glacierlaw3.few -/
def glacierlaw3_few_b0 (l_n4 : Nat) (n3 : Int) (R : Value → World → Prop) (w : World) : Prop :=
  Br (decide ((l_n4 : Int) ≤ 500)) (
  R (.bool (decide (n3 ≤ 3000))) w) (
  R (.bool false) w)

def glacierlaw3_few_b1 (l3 : Option Addr) (l_n3 : Nat) (l_c3 : Nat) (n2 : Int) (i1 : Int) (K0 : ((Option Addr) × Nat × Nat × Int × Int) → World → Prop) (R : Value → World → Prop) (w : World) : Prop :=
  Br (decide (i1 < (l_n3 : Int))) (
  LetW (World.drew w) fun w_ =>
  IX l3 l_n3 i1 6 fun a =>
  LDSl w_ (Addr.add a 5) fun _ v_n _ =>
  (w_ = w_ ∧ 
  IX l3 l_n3 i1 6 fun a1 =>
  LDSl w_ (Addr.add a1 4) fun _ v_n1 _ =>
  (w_ = w_ ∧ 
  IX l3 l_n3 i1 6 fun a2 =>
  LDSl w_ (Addr.add a2 5) fun _ v_n2 _ =>
  Br (decide ((v_n2 : Int) > 1000)) (
  R (.bool false) w_) (
  IX l3 l_n3 i1 6 fun a3 =>
  LDSl w_ (Addr.add a3 4) fun _ v_n3 _ =>
  Br (decide ((v_n3 : Int) > 100)) (
  R (.bool false) w_) (
  K0 (l3, l_n3, l_c3, IntKind.wrap .i64 (n2 + (IntKind.wrap .i64 ((IntKind.wrap .i64 ((v_n : Int) + 1)) * (IntKind.wrap .i64 ((v_n1 : Int) + 1))))), IntKind.wrap .i64 (i1 + 1)) w_))))) (
  glacierlaw3_few_b0 l_n3 n2 R w)

def glacierlaw3_few_b2 (l2 : Option Addr) (l_n2 : Nat) (l_c2 : Nat) (n1 : Int) (i : Int) (R : Value → World → Prop) (w : World) : Prop :=
  LoopS (σ := (Option Addr) × Nat × Nat × Int × Int) (fun s w K0 =>
  glacierlaw3_few_b1 s.1 s.2.1 s.2.2.1 s.2.2.2.1 s.2.2.2.2 K0 R w) (l2, l_n2, l_c2, n1, i) w

def glacierlaw3_few_b3 (l1 : Option Addr) (l_n1 : Nat) (l_c1 : Nat) (n : Int) (R : Value → World → Prop) (w : World) : Prop :=
  glacierlaw3_few_b2 l1 l_n1 l_c1 n 0 R w

def glacierlaw3_few_b4 (l : Option Addr) (l_n : Nat) (l_c : Nat) (R : Value → World → Prop) (w : World) : Prop :=
  glacierlaw3_few_b3 l l_n l_c 0 R w

def glacierlaw3_few_p0 : Point ((Option Addr) × Nat × Nat × Int) := { slots := fun s => [(0, (.slice s.1 s.2.1 s.2.2.1)), (3, (.int .i64 s.2.2.2))], dec := fun r K => mSlice (r 0) fun x x1 x2 => mInt .i64 (r 3) fun x3 => K (x, x1, x2, x3) }
theorem glacierlaw3_few_p0_ok : glacierlaw3_few_p0.ok := by
  intro r K h
  unfold glacierlaw3_few_p0 at h
  obtain ⟨x, x1, x2, e0, h⟩ := mSlice_elim h
  obtain ⟨x3, e1, h⟩ := mInt_elim h
  exact ⟨(x, x1, x2, x3), regsOf_self (L := [(0, (.slice x x1 x2)), (3, (.int .i64 x3))]) (List.forall_mem_cons.2 ⟨e0, List.forall_mem_cons.2 ⟨e1, List.forall_mem_nil _⟩⟩), h⟩
theorem glacierlaw3_few_p0_re (s : (Option Addr) × Nat × Nat × Int) (r : Regs) (K : ((Option Addr) × Nat × Nat × Int) → Prop) (h : K s) : glacierlaw3_few_p0.dec (regsOf (glacierlaw3_few_p0.slots s) r) K := by
  obtain ⟨x4, x5, x6, x7⟩ := s
  exact cast (show K (x4, x5, x6, x7) = glacierlaw3_few_p0.dec (regsOf (glacierlaw3_few_p0.slots (x4, x5, x6, x7)) r) K by kernel_rfl) h

def glacierlaw3_few_p1 : Point ((Option Addr) × Nat × Nat × Int) := { slots := fun s => [(0, (.slice s.1 s.2.1 s.2.2.1)), (3, (.int .i64 s.2.2.2))], dec := fun r K => mSlice (r 0) fun x x1 x2 => mInt .i64 (r 3) fun x3 => K (x, x1, x2, x3) }
theorem glacierlaw3_few_p1_ok : glacierlaw3_few_p1.ok := by
  intro r K h
  unfold glacierlaw3_few_p1 at h
  obtain ⟨x, x1, x2, e0, h⟩ := mSlice_elim h
  obtain ⟨x3, e1, h⟩ := mInt_elim h
  exact ⟨(x, x1, x2, x3), regsOf_self (L := [(0, (.slice x x1 x2)), (3, (.int .i64 x3))]) (List.forall_mem_cons.2 ⟨e0, List.forall_mem_cons.2 ⟨e1, List.forall_mem_nil _⟩⟩), h⟩
theorem glacierlaw3_few_p1_re (s : (Option Addr) × Nat × Nat × Int) (r : Regs) (K : ((Option Addr) × Nat × Nat × Int) → Prop) (h : K s) : glacierlaw3_few_p1.dec (regsOf (glacierlaw3_few_p1.slots s) r) K := by
  obtain ⟨x4, x5, x6, x7⟩ := s
  exact cast (show K (x4, x5, x6, x7) = glacierlaw3_few_p1.dec (regsOf (glacierlaw3_few_p1.slots (x4, x5, x6, x7)) r) K by kernel_rfl) h

def glacierlaw3_few_p2 : Point ((Option Addr) × Nat × Nat × Int × Int) := { slots := fun s => [(0, (.slice s.1 s.2.1 s.2.2.1)), (3, (.int .i64 s.2.2.2.1)), (4, (.int .i64 s.2.2.2.2))], dec := fun r K => mSlice (r 0) fun x x1 x2 => mInt .i64 (r 3) fun x3 => mInt .i64 (r 4) fun x4 => K (x, x1, x2, x3, x4) }
theorem glacierlaw3_few_p2_ok : glacierlaw3_few_p2.ok := by
  intro r K h
  unfold glacierlaw3_few_p2 at h
  obtain ⟨x, x1, x2, e0, h⟩ := mSlice_elim h
  obtain ⟨x3, e1, h⟩ := mInt_elim h
  obtain ⟨x4, e2, h⟩ := mInt_elim h
  exact ⟨(x, x1, x2, x3, x4), regsOf_self (L := [(0, (.slice x x1 x2)), (3, (.int .i64 x3)), (4, (.int .i64 x4))]) (List.forall_mem_cons.2 ⟨e0, List.forall_mem_cons.2 ⟨e1, List.forall_mem_cons.2 ⟨e2, List.forall_mem_nil _⟩⟩⟩), h⟩
theorem glacierlaw3_few_p2_re (s : (Option Addr) × Nat × Nat × Int × Int) (r : Regs) (K : ((Option Addr) × Nat × Nat × Int × Int) → Prop) (h : K s) : glacierlaw3_few_p2.dec (regsOf (glacierlaw3_few_p2.slots s) r) K := by
  obtain ⟨x5, x6, x7, x8, x9⟩ := s
  exact cast (show K (x5, x6, x7, x8, x9) = glacierlaw3_few_p2.dec (regsOf (glacierlaw3_few_p2.slots (x5, x6, x7, x8, x9)) r) K by kernel_rfl) h

theorem glacierlaw3_few_sound (l : Option Addr) (l_n : Nat) (l_c : Nat) (R : Value → World → Prop) (w : World) (h : glacierlaw3_few_b4 l l_n l_c R w) :
    CallR Try.prog fn_glacierlaw3_few #[(.slice l l_n l_c)] w R := by
  refine CallR_intro (args := [(.slice l l_n l_c)]) Try.func11 rfl (Nat.le_of_ble_eq_true (by kernel_rfl)) ?_
  refine Wp_glue glacierlaw3_few_p0 (fun s w => glacierlaw3_few_b3 s.1 s.2.1 s.2.2.1 s.2.2.2 R w) [_, _] (Q0 := fun e _ r w => match e with | .normal => glacierlaw3_few_p0.dec r (fun s => glacierlaw3_few_b3 s.1 s.2.1 s.2.2.1 s.2.2.2 R w) | .exit _ => False | .ret => retQ Try.prog Try.f11.results R .ret [] r w | _ => False) h (by kernel_rfl) (fun s r w h => ?_) glacierlaw3_few_p0_ok (fun _ _ _ h => h) ?_
  · obtain ⟨l1, l_n1, l_c1, n⟩ := s
    have h : glacierlaw3_few_b3 l1 l_n1 l_c1 n R w := h
    refine Wp_seq_via glacierlaw3_few_p1 (fun s w => glacierlaw3_few_b0 s.2.1 s.2.2.2 R w) (fun s r w h => ?_) (fun hN1 => ?_)
    · obtain ⟨l4, l_n4, l_c4, n3⟩ := s
      have h : glacierlaw3_few_b0 l_n4 n3 R w := h
      refine Wp_leaf_end (Q0 := fun e _ r w => match e with | .normal => retQ Try.prog Try.f11.results R .normal [] r w | .exit _ => False | .ret => retQ Try.prog Try.f11.results R .ret [] r w | _ => False) h (by kernel_rfl) ?_
      intro e _ r w h
      cases e with
      | normal => exact h
      | exit i => exact h.elim
      | ret => exact h
      | goto i => exact h.elim
      | panic c => exact h.elim
      | outgrown => exact h.elim
    · refine Wp_glue glacierlaw3_few_p2 (fun s w => glacierlaw3_few_b2 s.1 s.2.1 s.2.2.1 s.2.2.2.1 s.2.2.2.2 R w) [_] (Q0 := fun e _ r w => match e with | .normal => glacierlaw3_few_p2.dec r (fun s => glacierlaw3_few_b2 s.1 s.2.1 s.2.2.1 s.2.2.2.1 s.2.2.2.2 R w) | .exit _ => False | .ret => retQ Try.prog Try.f11.results R .ret [] r w | _ => False) h (by kernel_rfl) (fun s r w h => ?_) glacierlaw3_few_p2_ok (fun _ _ _ h => h) ?_
      · obtain ⟨l2, l_n2, l_c2, n1, i⟩ := s
        have h : glacierlaw3_few_b2 l2 l_n2 l_c2 n1 i R w := h
        refine Wp_block_via glacierlaw3_few_p1 (fun s w => glacierlaw3_few_b0 s.2.1 s.2.2.2 R w) hN1 (fun hX2 => ?_)
        refine Wp_loop (p := glacierlaw3_few_p2) glacierlaw3_few_p2_ok (fun s r w K0 h => ?_) h
        obtain ⟨l3, l_n3, l_c3, n2, i1⟩ := s
        have h : glacierlaw3_few_b1 l3 l_n3 l_c3 n2 i1 K0 R w := h
        have hK3 := fun (s : (Option Addr) × Nat × Nat × Int × Int) (r : Regs) (w : World) (h : K0 s w) => glacierlaw3_few_p2_re s r (fun s => K0 s w) h
        refine Wp_leaf_end (Q0 := fun e _ r w => match e with | .normal => glacierlaw3_few_p2.dec r (fun s => K0 s w) | .exit i => exitQ i 0 (glacierlaw3_few_p1.dec r (fun s => glacierlaw3_few_b0 s.2.1 s.2.2.2 R w)) (False) | .ret => retQ Try.prog Try.f11.results R .ret [] r w | _ => False) h (by kernel_rfl) ?_
        intro e _ r w h
        cases e with
        | normal =>
          obtain ⟨s, hs, h⟩ := glacierlaw3_few_p2_ok _ _ h
          rw [← hs]
          exact hK3 s r w h
        | exit i =>
          rcases exitQ_elim h with ⟨rfl, h⟩ | ⟨_, h⟩
          · obtain ⟨s, hs, h⟩ := glacierlaw3_few_p1_ok _ _ h
            rw [← hs]
            exact hX2 s r w h
          exact h.elim
        | ret => exact h
        | goto i => exact h.elim
        | panic c => exact h.elim
        | outgrown => exact h.elim
      · intro e _ r w hne h
        cases e with
        | normal => exact absurd rfl hne
        | exit i => exact h.elim
        | ret => exact h
        | goto i => exact h.elim
        | panic c => exact h.elim
        | outgrown => exact h.elim
  · intro e _ r w hne h
    cases e with
    | normal => exact absurd rfl hne
    | exit i => exact h.elim
    | ret => exact h
    | goto i => exact h.elim
    | panic c => exact h.elim
    | outgrown => exact h.elim

end Go.Proofs.Ytienifnpacoahaa
