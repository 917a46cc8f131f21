/- Printed by a program of this claim: the shallow readings of functions, and that they are sound. -/
import Derived.Test.YtimgbkabfkdabaaShNames
namespace Go.Proofs.Ytimgbkabfkdabaa
open Go.Sh

/- glacier/glacierlaw2.known -/
def glacierlaw2_known_b0 (R : Value → World → Prop) (w : World) : Prop :=
  CallR Try.prog fn_disk_New #[(.int .i64 100)] w fun res w_ =>
  mTup res fun l =>
  mCons l fun v l1 =>
  mPtr v fun v1 =>
  mCons l1 fun v2 l2 =>
  mInt .i64 v2 fun v3 =>
  mNil l2 (
  Br (v3 != 0) (
  R (.bool false) w_) (
  Br (Option.isNone v1) (
  R (.bool false) w_) (
  AL w_ (.cells #[(.int .u8 120), (.int .u8 121)] 5) fun b w_1 =>
  rRun Try.prog (convert 30 30 (.slice (some b) 2 2)) w_1 fun sr w_2 =>
  mSlice sr fun v4 v_n v_c =>
  AL w_2 (.cells #[(.slice v4 v_n v_c)] 30) fun b1 w_3 =>
  CallR Try.prog fn_disk_Disk_Append #[(.pointer v1), (.string (ByteArray.mk #[97])), (.slice (some b1) 1 1)] w_3 fun res1 w_4 =>
  mInt .i64 res1 fun v5 =>
  AL w_4 (.cells #[(.string (ByteArray.mk #[97]))] 9) fun b2 w_5 =>
  CallR Try.prog fn_disk_Disk_Sync #[(.pointer v1), (.slice (some b2) 1 1)] w_5 fun res2 w_6 =>
  mInt .i64 res2 fun v6 =>
  AL w_6 (.cells #[(.int .u8 122), (.int .u8 119)] 5) fun b3 w_7 =>
  rRun Try.prog (convert 30 30 (.slice (some b3) 2 2)) w_7 fun sr1 w_8 =>
  mSlice sr1 fun v7 v_n1 v_c1 =>
  AL w_8 (.cells #[(.slice v7 v_n1 v_c1)] 30) fun b4 w_9 =>
  CallR Try.prog fn_disk_Disk_Append #[(.pointer v1), (.string (ByteArray.mk #[97])), (.slice (some b4) 1 1)] w_9 fun res3 w_10 =>
  mInt .i64 res3 fun v8 =>
  AL w_10 (.cells #[(.int .u8 113)] 5) fun b5 w_11 =>
  rRun Try.prog (convert 30 30 (.slice (some b5) 1 1)) w_11 fun sr2 w_12 =>
  mSlice sr2 fun v9 v_n2 v_c2 =>
  AL w_12 (.cells #[(.slice v9 v_n2 v_c2)] 30) fun b6 w_13 =>
  CallR Try.prog fn_disk_Disk_Append #[(.pointer v1), (.string (ByteArray.mk #[98])), (.slice (some b6) 1 1)] w_13 fun res4 w_14 =>
  mInt .i64 res4 fun v10 =>
  AL w_14 (.cells #[(.int .i64 1)] 3) fun b7 w_15 =>
  CallR Try.prog fn_disk_Disk_Crash #[(.pointer v1), (.slice (some b7) 1 1)] w_15 fun res5 w_16 =>
  mTup res5 fun l3 =>
  mNil l3 (
  CallR Try.prog fn_disk_Disk_Read #[(.pointer v1), (.string (ByteArray.mk #[97]))] w_16 fun res6 w_17 =>
  mTup res6 fun l4 =>
  mCons l4 fun v11 l5 =>
  mSlice v11 fun v12 v_n3 v_c3 =>
  mCons l5 fun v13 l6 =>
  mInt .i64 v13 fun v14 =>
  mNil l6 (
  CallR Try.prog fn_disk_Disk_Read #[(.pointer v1), (.string (ByteArray.mk #[98]))] w_17 fun res7 w_18 =>
  mTup res7 fun l7 =>
  mCons l7 fun v15 l8 =>
  mSlice v15 fun _ v_n4 _ =>
  mCons l8 fun v17 l9 =>
  mInt .i64 v17 fun v18 =>
  mNil l9 (
  Br ((IntKind.wrap .i64 ((IntKind.wrap .i64 ((IntKind.wrap .i64 (v5 + v6)) + v8)) + v10)) == 0) (
  Br (v14 == 0) (
  rRun Try.prog (convert 30 9 (.slice v12 v_n3 v_c3)) w_18 fun sr3 w_19 =>
  mStr sr3 fun v19 =>
  Br (ByteArray.toList v19 == ByteArray.toList (ByteArray.mk #[120, 121, 122])) (
  Br (v18 == 0) (
  Br ((v_n4 : Int) == 0) (
  CallR Try.prog fn_disk_Disk_List #[(.pointer v1), (.slice none 0 0)] w_19 fun res8 w_20 =>
  mSlice res8 fun _ v_n5 _ =>
  R (.bool ((v_n5 : Int) == 2)) w_20) (
  R (.bool false) w_19)) (
  R (.bool false) w_19)) (
  R (.bool false) w_19)) (
  R (.bool false) w_18)) (
  R (.bool false) w_18)))))))

theorem glacierlaw2_known_sound (R : Value → World → Prop) (w : World) (h : glacierlaw2_known_b0 R w) :
    CallR Try.prog fn_glacierlaw2_known #[] w R := by
  refine CallR_intro (args := []) Try.func8 rfl (Nat.le_of_ble_eq_true (by kernel_rfl)) ?_
  refine Wp_leaf_end (Q0 := fun e _ r w => match e with | .normal => retQ Try.prog Try.f8.results R .normal [] r w | .exit _ => False | .ret => retQ Try.prog Try.f8.results R .ret [] r w | _ => False) h (by kernel_rfl) ?_
  intro e _ r w h
  cases e with
  | normal => exact h
  | exit i => exact h.elim
  | ret => exact h
  | goto i => exact h.elim
  | panic c => exact h.elim
  | outgrown => exact h.elim

/- glacier/glacierlaw2.DiskFills -/
def glacierlaw2_DiskFills_b0 (size7 : Int) (parts7 : Option Addr) (parts_n7 : Nat) (parts_c7 : Nat) (d6 : Option Addr) (left6 : Int) (i5 : Int) (K0 : (Int × (Option Addr) × Nat × Nat × (Option Addr) × Int × Int) → World → Prop) (w : World) : Prop :=
  K0 (size7, parts7, parts_n7, parts_c7, d6, left6, IntKind.wrap .i64 (i5 + 1)) w

def glacierlaw2_DiskFills_b1 (size6 : Int) (parts6 : Option Addr) (parts_n6 : Nat) (parts_c6 : Nat) (d5 : Option Addr) (left5 : Int) (i4 : Int) (K0 : (Int × (Option Addr) × Nat × Nat × (Option Addr) × Int × Int) → World → Prop) (R : Value → World → Prop) (w : World) : Prop :=
  CallR Try.prog fn_disk_Disk_Used #[(.pointer d5)] w fun res3 w_6 =>
  mInt .i64 res3 fun v9 =>
  Br (v9 != (IntKind.wrap .i64 (size6 - left5))) (
  R (.bool false) w_6) (
  Req ((5 : Int) ≠ 0) (
  Br ((Int.tmod i4 5) == 4) (
  CallR Try.prog fn_disk_Disk_Read #[(.pointer d5), (.string (ByteArray.mk #[97]))] w_6 fun res4 w_7 =>
  mTup res4 fun l3 =>
  mCons l3 fun v10 l4 =>
  mSlice v10 fun _ v_n1 _ =>
  mCons l4 fun v12 l5 =>
  mInt .i64 v12 fun v13 =>
  mNil l5 (
  Br (v13 != 0) (
  glacierlaw2_DiskFills_b0 size6 parts6 parts_n6 parts_c6 d5 left5 i4 K0 w_7) (
  AL w_7 (.cells #[(.string (ByteArray.mk #[97]))] 9) fun b2 w_8 =>
  CallR Try.prog fn_disk_Disk_Delete #[(.pointer d5), (.slice (some b2) 1 1)] w_8 fun res5 w_9 =>
  mInt .i64 res5 fun v14 =>
  Br (v14 != 0) (
  R (.bool false) w_9) (
  glacierlaw2_DiskFills_b0 size6 parts6 parts_n6 parts_c6 d5 (IntKind.wrap .i64 (left5 + (v_n1 : Int))) i4 K0 w_9)))) (
  glacierlaw2_DiskFills_b0 size6 parts6 parts_n6 parts_c6 d5 left5 i4 K0 w_6)))

def glacierlaw2_DiskFills_b2 (size5 : Int) (parts5 : Option Addr) (parts_n5 : Nat) (parts_c5 : Nat) (d4 : Option Addr) (left4 : Int) (i3 : Int) (n : Int) (K0 : (Int × (Option Addr) × Nat × Nat × (Option Addr) × Int × Int) → World → Prop) (R : Value → World → Prop) (w : World) : Prop :=
  AL w (.cells #[(.string (ByteArray.mk #[97])), (.string (ByteArray.mk #[98])), (.string (ByteArray.mk #[99]))] 9) fun b w_2 =>
  Req ((3 : Int) ≠ 0) (
  IX (some b) 3 (Int.tmod i3 3) 1 fun a1 =>
  LDS w_2 a1 fun v6 =>
  rRun Try.prog (Instr.makeSlice 30 (.int .i64 n) (.int .i64 n)) w_2 fun sr w_3 =>
  mSlice sr fun v7 v_n v_c =>
  AL w_3 (.cells #[(.slice v7 v_n v_c)] 30) fun b1 w_4 =>
  CallR Try.prog fn_disk_Disk_Append #[(.pointer d4), (.string v6), (.slice (some b1) 1 1)] w_4 fun res2 w_5 =>
  mInt .i64 res2 fun v8 =>
  Br (!((decide (n > left4)) == (v8 == 5))) (
  R (.bool false) w_5) (
  Br (decide (n ≤ left4)) (
  Br (v8 != 0) (
  R (.bool false) w_5) (
  Br (decide (n ≤ left4)) (
  glacierlaw2_DiskFills_b1 size5 parts5 parts_n5 parts_c5 d4 (IntKind.wrap .i64 (left4 - n)) i3 K0 R w_5) (
  glacierlaw2_DiskFills_b1 size5 parts5 parts_n5 parts_c5 d4 left4 i3 K0 R w_5))) (
  Br (decide (n ≤ left4)) (
  glacierlaw2_DiskFills_b1 size5 parts5 parts_n5 parts_c5 d4 (IntKind.wrap .i64 (left4 - n)) i3 K0 R w_5) (
  glacierlaw2_DiskFills_b1 size5 parts5 parts_n5 parts_c5 d4 left4 i3 K0 R w_5))))

def glacierlaw2_DiskFills_b3 (size4 : Int) (parts4 : Option Addr) (parts_n4 : Nat) (parts_c4 : Nat) (d3 : Option Addr) (left3 : Int) (i2 : Int) (K0 : (Int × (Option Addr) × Nat × Nat × (Option Addr) × Int × Int) → World → Prop) (R : Value → World → Prop) (w : World) : Prop :=
  IX parts4 parts_n4 i2 1 fun a =>
  LDI .i64 w a fun v5 =>
  Req ((IntKind.wrap .i64 (size4 + 2)) ≠ 0) (
  Br (decide ((Int.tmod v5 (IntKind.wrap .i64 (size4 + 2))) < 0)) (
  glacierlaw2_DiskFills_b2 size4 parts4 parts_n4 parts_c4 d3 left3 i2 (IntKind.wrap .i64 (0 - (Int.tmod v5 (IntKind.wrap .i64 (size4 + 2))))) K0 R w) (
  glacierlaw2_DiskFills_b2 size4 parts4 parts_n4 parts_c4 d3 left3 i2 (Int.tmod v5 (IntKind.wrap .i64 (size4 + 2))) K0 R w))

def glacierlaw2_DiskFills_b4 (size8 : Int) (d7 : Option Addr) (left7 : Int) (R : Value → World → Prop) (w : World) : Prop :=
  rRun Try.prog (Instr.makeSlice 30 (.int .i64 left7) (.int .i64 left7)) w fun sr1 w_10 =>
  mSlice sr1 fun v15 v_n2 v_c2 =>
  AL w_10 (.cells #[(.slice v15 v_n2 v_c2)] 30) fun b3 w_11 =>
  CallR Try.prog fn_disk_Disk_Append #[(.pointer d7), (.string (ByteArray.mk #[122])), (.slice (some b3) 1 1)] w_11 fun res6 w_12 =>
  mInt .i64 res6 fun v16 =>
  AL w_12 (.cells #[(.int .u8 1)] 5) fun b4 w_13 =>
  AL w_13 (.cells #[(.slice (some b4) 1 1)] 30) fun b5 w_14 =>
  CallR Try.prog fn_disk_Disk_Append #[(.pointer d7), (.string (ByteArray.mk #[122])), (.slice (some b5) 1 1)] w_14 fun res7 w_15 =>
  mInt .i64 res7 fun v17 =>
  Br (v16 == 0) (
  Br (v17 == 5) (
  CallR Try.prog fn_disk_Disk_Used #[(.pointer d7)] w_15 fun res8 w_16 =>
  mInt .i64 res8 fun v18 =>
  R (.bool (v18 == size8)) w_16) (
  R (.bool false) w_15)) (
  R (.bool false) w_15)

def glacierlaw2_DiskFills_b5 (size3 : Int) (parts3 : Option Addr) (parts_n3 : Nat) (parts_c3 : Nat) (d2 : Option Addr) (left2 : Int) (i1 : Int) (K0 : (Int × (Option Addr) × Nat × Nat × (Option Addr) × Int × Int) → World → Prop) (R : Value → World → Prop) (w : World) : Prop :=
  Br (decide (i1 < (parts_n3 : Int))) (
  glacierlaw2_DiskFills_b3 size3 parts3 parts_n3 parts_c3 d2 left2 i1 K0 R w) (
  glacierlaw2_DiskFills_b4 size3 d2 left2 R w)

def glacierlaw2_DiskFills_b6 (size2 : Int) (parts2 : Option Addr) (parts_n2 : Nat) (parts_c2 : Nat) (d1 : Option Addr) (left1 : Int) (i : Int) (R : Value → World → Prop) (w : World) : Prop :=
  LoopS (σ := Int × (Option Addr) × Nat × Nat × (Option Addr) × Int × Int) (fun s w K0 =>
  glacierlaw2_DiskFills_b5 s.1 s.2.1 s.2.2.1 s.2.2.2.1 s.2.2.2.2.1 s.2.2.2.2.2.1 s.2.2.2.2.2.2 K0 R w) (size2, parts2, parts_n2, parts_c2, d1, left1, i) w

def glacierlaw2_DiskFills_b7 (size1 : Int) (parts1 : Option Addr) (parts_n1 : Nat) (parts_c1 : Nat) (d : Option Addr) (left : Int) (R : Value → World → Prop) (w : World) : Prop :=
  glacierlaw2_DiskFills_b6 size1 parts1 parts_n1 parts_c1 d left 0 R w

def glacierlaw2_DiskFills_b8 (size : Int) (parts : Option Addr) (parts_n : Nat) (parts_c : Nat) (R : Value → World → Prop) (w : World) : Prop :=
  CallR Try.prog fn_glacierlaw2_known #[] w fun res w_ =>
  mBool res fun v =>
  Br (!v) (
  R (.bool false) w_) (
  Br (decide (size < 1)) (
  R (.bool true) w_) (
  Br (decide (size > 65536)) (
  R (.bool true) w_) (
  Br (decide ((parts_n : Int) > 100)) (
  R (.bool true) w_) (
  CallR Try.prog fn_disk_New #[(.int .i64 size)] w_ fun res1 w_1 =>
  mTup res1 fun l =>
  mCons l fun v1 l1 =>
  mPtr v1 fun v2 =>
  mCons l1 fun v3 l2 =>
  mInt .i64 v3 fun v4 =>
  mNil l2 (
  Br (v4 != 0) (
  R (.bool false) w_1) (
  Br (Option.isNone v2) (
  R (.bool false) w_1) (
  glacierlaw2_DiskFills_b7 size parts parts_n parts_c v2 size R w_1)))))))

def glacierlaw2_DiskFills_p0 : Point (Int × (Option Addr) × Nat × Nat × (Option Addr) × Int) := { slots := fun s => [(0, (.int .i64 s.1)), (1, (.slice s.2.1 s.2.2.1 s.2.2.2.1)), (5, (.pointer s.2.2.2.2.1)), (7, (.int .i64 s.2.2.2.2.2))], dec := fun r K => mInt .i64 (r 0) fun x => mSlice (r 1) fun x1 x2 x3 => mPtr (r 5) fun x4 => mInt .i64 (r 7) fun x5 => K (x, x1, x2, x3, x4, x5) }
theorem glacierlaw2_DiskFills_p0_ok : glacierlaw2_DiskFills_p0.ok := by
  intro r K h
  unfold glacierlaw2_DiskFills_p0 at h
  obtain ⟨x, e0, h⟩ := mInt_elim h
  obtain ⟨x1, x2, x3, e1, h⟩ := mSlice_elim h
  obtain ⟨x4, e2, h⟩ := mPtr_elim h
  obtain ⟨x5, e3, h⟩ := mInt_elim h
  exact ⟨(x, x1, x2, x3, x4, x5), regsOf_self (L := [(0, (.int .i64 x)), (1, (.slice x1 x2 x3)), (5, (.pointer x4)), (7, (.int .i64 x5))]) (List.forall_mem_cons.2 ⟨e0, List.forall_mem_cons.2 ⟨e1, List.forall_mem_cons.2 ⟨e2, List.forall_mem_cons.2 ⟨e3, List.forall_mem_nil _⟩⟩⟩⟩), h⟩
theorem glacierlaw2_DiskFills_p0_re (s : Int × (Option Addr) × Nat × Nat × (Option Addr) × Int) (r : Regs) (K : (Int × (Option Addr) × Nat × Nat × (Option Addr) × Int) → Prop) (h : K s) : glacierlaw2_DiskFills_p0.dec (regsOf (glacierlaw2_DiskFills_p0.slots s) r) K := by
  obtain ⟨x6, x7, x8, x9, x10, x11⟩ := s
  exact cast (show K (x6, x7, x8, x9, x10, x11) = glacierlaw2_DiskFills_p0.dec (regsOf (glacierlaw2_DiskFills_p0.slots (x6, x7, x8, x9, x10, x11)) r) K by kernel_rfl) h

def glacierlaw2_DiskFills_p1 : Point (Int × (Option Addr) × Int) := { slots := fun s => [(0, (.int .i64 s.1)), (5, (.pointer s.2.1)), (7, (.int .i64 s.2.2))], dec := fun r K => mInt .i64 (r 0) fun x => mPtr (r 5) fun x1 => mInt .i64 (r 7) fun x2 => K (x, x1, x2) }
theorem glacierlaw2_DiskFills_p1_ok : glacierlaw2_DiskFills_p1.ok := by
  intro r K h
  unfold glacierlaw2_DiskFills_p1 at h
  obtain ⟨x, e0, h⟩ := mInt_elim h
  obtain ⟨x1, e1, h⟩ := mPtr_elim h
  obtain ⟨x2, e2, h⟩ := mInt_elim h
  exact ⟨(x, x1, x2), regsOf_self (L := [(0, (.int .i64 x)), (5, (.pointer x1)), (7, (.int .i64 x2))]) (List.forall_mem_cons.2 ⟨e0, List.forall_mem_cons.2 ⟨e1, List.forall_mem_cons.2 ⟨e2, List.forall_mem_nil _⟩⟩⟩), h⟩
theorem glacierlaw2_DiskFills_p1_re (s : Int × (Option Addr) × Int) (r : Regs) (K : (Int × (Option Addr) × Int) → Prop) (h : K s) : glacierlaw2_DiskFills_p1.dec (regsOf (glacierlaw2_DiskFills_p1.slots s) r) K := by
  obtain ⟨x3, x4, x5⟩ := s
  exact cast (show K (x3, x4, x5) = glacierlaw2_DiskFills_p1.dec (regsOf (glacierlaw2_DiskFills_p1.slots (x3, x4, x5)) r) K by kernel_rfl) h

def glacierlaw2_DiskFills_p2 : Point (Int × (Option Addr) × Nat × Nat × (Option Addr) × Int × Int) := { slots := fun s => [(0, (.int .i64 s.1)), (1, (.slice s.2.1 s.2.2.1 s.2.2.2.1)), (5, (.pointer s.2.2.2.2.1)), (7, (.int .i64 s.2.2.2.2.2.1)), (8, (.int .i64 s.2.2.2.2.2.2))], dec := fun r K => mInt .i64 (r 0) fun x => mSlice (r 1) fun x1 x2 x3 => mPtr (r 5) fun x4 => mInt .i64 (r 7) fun x5 => mInt .i64 (r 8) fun x6 => K (x, x1, x2, x3, x4, x5, x6) }
theorem glacierlaw2_DiskFills_p2_ok : glacierlaw2_DiskFills_p2.ok := by
  intro r K h
  unfold glacierlaw2_DiskFills_p2 at h
  obtain ⟨x, e0, h⟩ := mInt_elim h
  obtain ⟨x1, x2, x3, e1, h⟩ := mSlice_elim h
  obtain ⟨x4, e2, h⟩ := mPtr_elim h
  obtain ⟨x5, e3, h⟩ := mInt_elim h
  obtain ⟨x6, e4, h⟩ := mInt_elim h
  exact ⟨(x, x1, x2, x3, x4, x5, x6), regsOf_self (L := [(0, (.int .i64 x)), (1, (.slice x1 x2 x3)), (5, (.pointer x4)), (7, (.int .i64 x5)), (8, (.int .i64 x6))]) (List.forall_mem_cons.2 ⟨e0, List.forall_mem_cons.2 ⟨e1, List.forall_mem_cons.2 ⟨e2, List.forall_mem_cons.2 ⟨e3, List.forall_mem_cons.2 ⟨e4, List.forall_mem_nil _⟩⟩⟩⟩⟩), h⟩
theorem glacierlaw2_DiskFills_p2_re (s : Int × (Option Addr) × Nat × Nat × (Option Addr) × Int × Int) (r : Regs) (K : (Int × (Option Addr) × Nat × Nat × (Option Addr) × Int × Int) → Prop) (h : K s) : glacierlaw2_DiskFills_p2.dec (regsOf (glacierlaw2_DiskFills_p2.slots s) r) K := by
  obtain ⟨x7, x8, x9, x10, x11, x12, x13⟩ := s
  exact cast (show K (x7, x8, x9, x10, x11, x12, x13) = glacierlaw2_DiskFills_p2.dec (regsOf (glacierlaw2_DiskFills_p2.slots (x7, x8, x9, x10, x11, x12, x13)) r) K by kernel_rfl) h

def glacierlaw2_DiskFills_p3 : Point (Int × (Option Addr) × Nat × Nat × (Option Addr) × Int × Int) := { slots := fun s => [(0, (.int .i64 s.1)), (1, (.slice s.2.1 s.2.2.1 s.2.2.2.1)), (5, (.pointer s.2.2.2.2.1)), (7, (.int .i64 s.2.2.2.2.2.1)), (8, (.int .i64 s.2.2.2.2.2.2))], dec := fun r K => mInt .i64 (r 0) fun x => mSlice (r 1) fun x1 x2 x3 => mPtr (r 5) fun x4 => mInt .i64 (r 7) fun x5 => mInt .i64 (r 8) fun x6 => K (x, x1, x2, x3, x4, x5, x6) }
theorem glacierlaw2_DiskFills_p3_ok : glacierlaw2_DiskFills_p3.ok := by
  intro r K h
  unfold glacierlaw2_DiskFills_p3 at h
  obtain ⟨x, e0, h⟩ := mInt_elim h
  obtain ⟨x1, x2, x3, e1, h⟩ := mSlice_elim h
  obtain ⟨x4, e2, h⟩ := mPtr_elim h
  obtain ⟨x5, e3, h⟩ := mInt_elim h
  obtain ⟨x6, e4, h⟩ := mInt_elim h
  exact ⟨(x, x1, x2, x3, x4, x5, x6), regsOf_self (L := [(0, (.int .i64 x)), (1, (.slice x1 x2 x3)), (5, (.pointer x4)), (7, (.int .i64 x5)), (8, (.int .i64 x6))]) (List.forall_mem_cons.2 ⟨e0, List.forall_mem_cons.2 ⟨e1, List.forall_mem_cons.2 ⟨e2, List.forall_mem_cons.2 ⟨e3, List.forall_mem_cons.2 ⟨e4, List.forall_mem_nil _⟩⟩⟩⟩⟩), h⟩
theorem glacierlaw2_DiskFills_p3_re (s : Int × (Option Addr) × Nat × Nat × (Option Addr) × Int × Int) (r : Regs) (K : (Int × (Option Addr) × Nat × Nat × (Option Addr) × Int × Int) → Prop) (h : K s) : glacierlaw2_DiskFills_p3.dec (regsOf (glacierlaw2_DiskFills_p3.slots s) r) K := by
  obtain ⟨x7, x8, x9, x10, x11, x12, x13⟩ := s
  exact cast (show K (x7, x8, x9, x10, x11, x12, x13) = glacierlaw2_DiskFills_p3.dec (regsOf (glacierlaw2_DiskFills_p3.slots (x7, x8, x9, x10, x11, x12, x13)) r) K by kernel_rfl) h

def glacierlaw2_DiskFills_p4 : Point (Int × (Option Addr) × Nat × Nat × (Option Addr) × Int × Int) := { slots := fun s => [(0, (.int .i64 s.1)), (1, (.slice s.2.1 s.2.2.1 s.2.2.2.1)), (5, (.pointer s.2.2.2.2.1)), (7, (.int .i64 s.2.2.2.2.2.1)), (8, (.int .i64 s.2.2.2.2.2.2))], dec := fun r K => mInt .i64 (r 0) fun x => mSlice (r 1) fun x1 x2 x3 => mPtr (r 5) fun x4 => mInt .i64 (r 7) fun x5 => mInt .i64 (r 8) fun x6 => K (x, x1, x2, x3, x4, x5, x6) }
theorem glacierlaw2_DiskFills_p4_ok : glacierlaw2_DiskFills_p4.ok := by
  intro r K h
  unfold glacierlaw2_DiskFills_p4 at h
  obtain ⟨x, e0, h⟩ := mInt_elim h
  obtain ⟨x1, x2, x3, e1, h⟩ := mSlice_elim h
  obtain ⟨x4, e2, h⟩ := mPtr_elim h
  obtain ⟨x5, e3, h⟩ := mInt_elim h
  obtain ⟨x6, e4, h⟩ := mInt_elim h
  exact ⟨(x, x1, x2, x3, x4, x5, x6), regsOf_self (L := [(0, (.int .i64 x)), (1, (.slice x1 x2 x3)), (5, (.pointer x4)), (7, (.int .i64 x5)), (8, (.int .i64 x6))]) (List.forall_mem_cons.2 ⟨e0, List.forall_mem_cons.2 ⟨e1, List.forall_mem_cons.2 ⟨e2, List.forall_mem_cons.2 ⟨e3, List.forall_mem_cons.2 ⟨e4, List.forall_mem_nil _⟩⟩⟩⟩⟩), h⟩
theorem glacierlaw2_DiskFills_p4_re (s : Int × (Option Addr) × Nat × Nat × (Option Addr) × Int × Int) (r : Regs) (K : (Int × (Option Addr) × Nat × Nat × (Option Addr) × Int × Int) → Prop) (h : K s) : glacierlaw2_DiskFills_p4.dec (regsOf (glacierlaw2_DiskFills_p4.slots s) r) K := by
  obtain ⟨x7, x8, x9, x10, x11, x12, x13⟩ := s
  exact cast (show K (x7, x8, x9, x10, x11, x12, x13) = glacierlaw2_DiskFills_p4.dec (regsOf (glacierlaw2_DiskFills_p4.slots (x7, x8, x9, x10, x11, x12, x13)) r) K by kernel_rfl) h

def glacierlaw2_DiskFills_p5 : Point (Int × (Option Addr) × Nat × Nat × (Option Addr) × Int × Int × Int) := { slots := fun s => [(0, (.int .i64 s.1)), (1, (.slice s.2.1 s.2.2.1 s.2.2.2.1)), (5, (.pointer s.2.2.2.2.1)), (7, (.int .i64 s.2.2.2.2.2.1)), (8, (.int .i64 s.2.2.2.2.2.2.1)), (9, (.int .i64 s.2.2.2.2.2.2.2))], dec := fun r K => mInt .i64 (r 0) fun x => mSlice (r 1) fun x1 x2 x3 => mPtr (r 5) fun x4 => mInt .i64 (r 7) fun x5 => mInt .i64 (r 8) fun x6 => mInt .i64 (r 9) fun x7 => K (x, x1, x2, x3, x4, x5, x6, x7) }
theorem glacierlaw2_DiskFills_p5_ok : glacierlaw2_DiskFills_p5.ok := by
  intro r K h
  unfold glacierlaw2_DiskFills_p5 at h
  obtain ⟨x, e0, h⟩ := mInt_elim h
  obtain ⟨x1, x2, x3, e1, h⟩ := mSlice_elim h
  obtain ⟨x4, e2, h⟩ := mPtr_elim h
  obtain ⟨x5, e3, h⟩ := mInt_elim h
  obtain ⟨x6, e4, h⟩ := mInt_elim h
  obtain ⟨x7, e5, h⟩ := mInt_elim h
  exact ⟨(x, x1, x2, x3, x4, x5, x6, x7), regsOf_self (L := [(0, (.int .i64 x)), (1, (.slice x1 x2 x3)), (5, (.pointer x4)), (7, (.int .i64 x5)), (8, (.int .i64 x6)), (9, (.int .i64 x7))]) (List.forall_mem_cons.2 ⟨e0, List.forall_mem_cons.2 ⟨e1, List.forall_mem_cons.2 ⟨e2, List.forall_mem_cons.2 ⟨e3, List.forall_mem_cons.2 ⟨e4, List.forall_mem_cons.2 ⟨e5, List.forall_mem_nil _⟩⟩⟩⟩⟩⟩), h⟩
theorem glacierlaw2_DiskFills_p5_re (s : Int × (Option Addr) × Nat × Nat × (Option Addr) × Int × Int × Int) (r : Regs) (K : (Int × (Option Addr) × Nat × Nat × (Option Addr) × Int × Int × Int) → Prop) (h : K s) : glacierlaw2_DiskFills_p5.dec (regsOf (glacierlaw2_DiskFills_p5.slots s) r) K := by
  obtain ⟨x8, x9, x10, x11, x12, x13, x14, x15⟩ := s
  exact cast (show K (x8, x9, x10, x11, x12, x13, x14, x15) = glacierlaw2_DiskFills_p5.dec (regsOf (glacierlaw2_DiskFills_p5.slots (x8, x9, x10, x11, x12, x13, x14, x15)) r) K by kernel_rfl) h

def glacierlaw2_DiskFills_p6 : Point (Int × (Option Addr) × Nat × Nat × (Option Addr) × Int × Int) := { slots := fun s => [(0, (.int .i64 s.1)), (1, (.slice s.2.1 s.2.2.1 s.2.2.2.1)), (5, (.pointer s.2.2.2.2.1)), (7, (.int .i64 s.2.2.2.2.2.1)), (8, (.int .i64 s.2.2.2.2.2.2))], dec := fun r K => mInt .i64 (r 0) fun x => mSlice (r 1) fun x1 x2 x3 => mPtr (r 5) fun x4 => mInt .i64 (r 7) fun x5 => mInt .i64 (r 8) fun x6 => K (x, x1, x2, x3, x4, x5, x6) }
theorem glacierlaw2_DiskFills_p6_ok : glacierlaw2_DiskFills_p6.ok := by
  intro r K h
  unfold glacierlaw2_DiskFills_p6 at h
  obtain ⟨x, e0, h⟩ := mInt_elim h
  obtain ⟨x1, x2, x3, e1, h⟩ := mSlice_elim h
  obtain ⟨x4, e2, h⟩ := mPtr_elim h
  obtain ⟨x5, e3, h⟩ := mInt_elim h
  obtain ⟨x6, e4, h⟩ := mInt_elim h
  exact ⟨(x, x1, x2, x3, x4, x5, x6), regsOf_self (L := [(0, (.int .i64 x)), (1, (.slice x1 x2 x3)), (5, (.pointer x4)), (7, (.int .i64 x5)), (8, (.int .i64 x6))]) (List.forall_mem_cons.2 ⟨e0, List.forall_mem_cons.2 ⟨e1, List.forall_mem_cons.2 ⟨e2, List.forall_mem_cons.2 ⟨e3, List.forall_mem_cons.2 ⟨e4, List.forall_mem_nil _⟩⟩⟩⟩⟩), h⟩
theorem glacierlaw2_DiskFills_p6_re (s : Int × (Option Addr) × Nat × Nat × (Option Addr) × Int × Int) (r : Regs) (K : (Int × (Option Addr) × Nat × Nat × (Option Addr) × Int × Int) → Prop) (h : K s) : glacierlaw2_DiskFills_p6.dec (regsOf (glacierlaw2_DiskFills_p6.slots s) r) K := by
  obtain ⟨x7, x8, x9, x10, x11, x12, x13⟩ := s
  exact cast (show K (x7, x8, x9, x10, x11, x12, x13) = glacierlaw2_DiskFills_p6.dec (regsOf (glacierlaw2_DiskFills_p6.slots (x7, x8, x9, x10, x11, x12, x13)) r) K by kernel_rfl) h

set_option maxRecDepth 100000 in
theorem glacierlaw2_DiskFills_sound (size : Int) (parts : Option Addr) (parts_n : Nat) (parts_c : Nat) (R : Value → World → Prop) (w : World) (h : glacierlaw2_DiskFills_b8 size parts parts_n parts_c R w) :
    CallR Try.prog fn_glacierlaw2_DiskFills #[(.int .i64 size), (.slice parts parts_n parts_c)] w R := by
  refine CallR_intro (args := [(.int .i64 size), (.slice parts parts_n parts_c)]) Try.func3 rfl (Nat.le_of_ble_eq_true (by kernel_rfl)) ?_
  refine Wp_glue glacierlaw2_DiskFills_p0 (fun s w => glacierlaw2_DiskFills_b7 s.1 s.2.1 s.2.2.1 s.2.2.2.1 s.2.2.2.2.1 s.2.2.2.2.2 R w) [_, _, _, _, _, _] (Q0 := fun e _ r w => match e with | .normal => glacierlaw2_DiskFills_p0.dec r (fun s => glacierlaw2_DiskFills_b7 s.1 s.2.1 s.2.2.1 s.2.2.2.1 s.2.2.2.2.1 s.2.2.2.2.2 R w) | .exit _ => False | .ret => retQ Try.prog Try.f3.results R .ret [] r w | _ => False) h (by kernel_rfl) (fun s r w h => ?_) glacierlaw2_DiskFills_p0_ok (fun _ _ _ h => h) ?_
  · obtain ⟨size1, parts1, parts_n1, parts_c1, d, left⟩ := s
    have h : glacierlaw2_DiskFills_b7 size1 parts1 parts_n1 parts_c1 d left R w := h
    refine Wp_seq_via glacierlaw2_DiskFills_p1 (fun s w => glacierlaw2_DiskFills_b4 s.1 s.2.1 s.2.2 R w) (fun s r w h => ?_) (fun hN1 => ?_)
    · obtain ⟨size8, d7, left7⟩ := s
      have h : glacierlaw2_DiskFills_b4 size8 d7 left7 R w := h
      refine Wp_leaf_end (Q0 := fun e _ r w => match e with | .normal => retQ Try.prog Try.f3.results R .normal [] r w | .exit _ => False | .ret => retQ Try.prog Try.f3.results R .ret [] r w | _ => False) h (by kernel_rfl) ?_
      intro e _ r w h
      cases e with
      | normal => exact h
      | exit i => exact h.elim
      | ret => exact h
      | goto i => exact h.elim
      | panic c => exact h.elim
      | outgrown => exact h.elim
    · refine Wp_glue glacierlaw2_DiskFills_p2 (fun s w => glacierlaw2_DiskFills_b6 s.1 s.2.1 s.2.2.1 s.2.2.2.1 s.2.2.2.2.1 s.2.2.2.2.2.1 s.2.2.2.2.2.2 R w) [_] (Q0 := fun e _ r w => match e with | .normal => glacierlaw2_DiskFills_p2.dec r (fun s => glacierlaw2_DiskFills_b6 s.1 s.2.1 s.2.2.1 s.2.2.2.1 s.2.2.2.2.1 s.2.2.2.2.2.1 s.2.2.2.2.2.2 R w) | .exit _ => False | .ret => retQ Try.prog Try.f3.results R .ret [] r w | _ => False) h (by kernel_rfl) (fun s r w h => ?_) glacierlaw2_DiskFills_p2_ok (fun _ _ _ h => h) ?_
      · obtain ⟨size2, parts2, parts_n2, parts_c2, d1, left1, i⟩ := s
        have h : glacierlaw2_DiskFills_b6 size2 parts2 parts_n2 parts_c2 d1 left1 i R w := h
        refine Wp_block_via glacierlaw2_DiskFills_p1 (fun s w => glacierlaw2_DiskFills_b4 s.1 s.2.1 s.2.2 R w) hN1 (fun hX2 => ?_)
        refine Wp_loop (p := glacierlaw2_DiskFills_p2) glacierlaw2_DiskFills_p2_ok (fun s r w K0 h => ?_) h
        obtain ⟨size3, parts3, parts_n3, parts_c3, d2, left2, i1⟩ := s
        have h : glacierlaw2_DiskFills_b5 size3 parts3 parts_n3 parts_c3 d2 left2 i1 K0 R w := h
        have hK3 := fun (s : Int × (Option Addr) × Nat × Nat × (Option Addr) × Int × Int) (r : Regs) (w : World) (h : K0 s w) => glacierlaw2_DiskFills_p2_re s r (fun s => K0 s w) h
        refine Wp_glue glacierlaw2_DiskFills_p3 (fun s w => glacierlaw2_DiskFills_b3 s.1 s.2.1 s.2.2.1 s.2.2.2.1 s.2.2.2.2.1 s.2.2.2.2.2.1 s.2.2.2.2.2.2 K0 R w) [_] (Q0 := fun e _ r w => match e with | .normal => glacierlaw2_DiskFills_p3.dec r (fun s => glacierlaw2_DiskFills_b3 s.1 s.2.1 s.2.2.1 s.2.2.2.1 s.2.2.2.2.1 s.2.2.2.2.2.1 s.2.2.2.2.2.2 K0 R w) | .exit i => exitQ i 0 (glacierlaw2_DiskFills_p1.dec r (fun s => glacierlaw2_DiskFills_b4 s.1 s.2.1 s.2.2 R w)) (False) | .ret => retQ Try.prog Try.f3.results R .ret [] r w | _ => False) h (by kernel_rfl) (fun s r w h => ?_) glacierlaw2_DiskFills_p3_ok (fun _ _ _ h => h) ?_
        · obtain ⟨size4, parts4, parts_n4, parts_c4, d3, left3, i2⟩ := s
          have h : glacierlaw2_DiskFills_b3 size4 parts4 parts_n4 parts_c4 d3 left3 i2 K0 R w := h
          refine Wp_seq_via glacierlaw2_DiskFills_p4 (fun s w => glacierlaw2_DiskFills_b0 s.1 s.2.1 s.2.2.1 s.2.2.2.1 s.2.2.2.2.1 s.2.2.2.2.2.1 s.2.2.2.2.2.2 K0 w) (fun s r w h => ?_) (fun hN4 => ?_)
          · obtain ⟨size7, parts7, parts_n7, parts_c7, d6, left6, i5⟩ := s
            have h : glacierlaw2_DiskFills_b0 size7 parts7 parts_n7 parts_c7 d6 left6 i5 K0 w := h
            refine Wp_leaf_end (Q0 := fun e _ r w => match e with | .normal => glacierlaw2_DiskFills_p2.dec r (fun s => K0 s w) | .exit i => exitQ i 0 (glacierlaw2_DiskFills_p1.dec r (fun s => glacierlaw2_DiskFills_b4 s.1 s.2.1 s.2.2 R w)) (False) | .ret => retQ Try.prog Try.f3.results R .ret [] r w | _ => False) h (by kernel_rfl) ?_
            intro e _ r w h
            cases e with
            | normal =>
              obtain ⟨s, hs, h⟩ := glacierlaw2_DiskFills_p2_ok _ _ h
              rw [← hs]
              exact hK3 s r w h
            | exit i =>
              rcases exitQ_elim h with ⟨rfl, h⟩ | ⟨_, h⟩
              · obtain ⟨s, hs, h⟩ := glacierlaw2_DiskFills_p1_ok _ _ h
                rw [← hs]
                exact hX2 s r w h
              exact h.elim
            | ret => exact h
            | goto i => exact h.elim
            | panic c => exact h.elim
            | outgrown => exact h.elim
          · refine Wp_block_via glacierlaw2_DiskFills_p4 (fun s w => glacierlaw2_DiskFills_b0 s.1 s.2.1 s.2.2.1 s.2.2.2.1 s.2.2.2.2.1 s.2.2.2.2.2.1 s.2.2.2.2.2.2 K0 w) hN4 (fun hX5 => ?_)
            refine Wp_glue glacierlaw2_DiskFills_p5 (fun s w => glacierlaw2_DiskFills_b2 s.1 s.2.1 s.2.2.1 s.2.2.2.1 s.2.2.2.2.1 s.2.2.2.2.2.1 s.2.2.2.2.2.2.1 s.2.2.2.2.2.2.2 K0 R w) [_, _] (Q0 := fun e _ r w => match e with | .normal => glacierlaw2_DiskFills_p5.dec r (fun s => glacierlaw2_DiskFills_b2 s.1 s.2.1 s.2.2.1 s.2.2.2.1 s.2.2.2.2.1 s.2.2.2.2.2.1 s.2.2.2.2.2.2.1 s.2.2.2.2.2.2.2 K0 R w) | .exit i => exitQ i 0 (glacierlaw2_DiskFills_p1.dec r (fun s => glacierlaw2_DiskFills_b4 s.1 s.2.1 s.2.2 R w)) (exitQ i 1 (glacierlaw2_DiskFills_p4.dec r (fun s => glacierlaw2_DiskFills_b0 s.1 s.2.1 s.2.2.1 s.2.2.2.1 s.2.2.2.2.1 s.2.2.2.2.2.1 s.2.2.2.2.2.2 K0 w)) (False)) | .ret => retQ Try.prog Try.f3.results R .ret [] r w | _ => False) h (by kernel_rfl) (fun s r w h => ?_) glacierlaw2_DiskFills_p5_ok (fun _ _ _ h => h) ?_
            · obtain ⟨size5, parts5, parts_n5, parts_c5, d4, left4, i3, n⟩ := s
              have h : glacierlaw2_DiskFills_b2 size5 parts5 parts_n5 parts_c5 d4 left4 i3 n K0 R w := h
              refine Wp_glue glacierlaw2_DiskFills_p6 (fun s w => glacierlaw2_DiskFills_b1 s.1 s.2.1 s.2.2.1 s.2.2.2.1 s.2.2.2.2.1 s.2.2.2.2.2.1 s.2.2.2.2.2.2 K0 R w) [_, _, _, _] (Q0 := fun e _ r w => match e with | .normal => glacierlaw2_DiskFills_p6.dec r (fun s => glacierlaw2_DiskFills_b1 s.1 s.2.1 s.2.2.1 s.2.2.2.1 s.2.2.2.2.1 s.2.2.2.2.2.1 s.2.2.2.2.2.2 K0 R w) | .exit i => exitQ i 0 (glacierlaw2_DiskFills_p1.dec r (fun s => glacierlaw2_DiskFills_b4 s.1 s.2.1 s.2.2 R w)) (exitQ i 1 (glacierlaw2_DiskFills_p4.dec r (fun s => glacierlaw2_DiskFills_b0 s.1 s.2.1 s.2.2.1 s.2.2.2.1 s.2.2.2.2.1 s.2.2.2.2.2.1 s.2.2.2.2.2.2 K0 w)) (False)) | .ret => retQ Try.prog Try.f3.results R .ret [] r w | _ => False) h (by kernel_rfl) (fun s r w h => ?_) glacierlaw2_DiskFills_p6_ok (fun _ _ _ h => h) ?_
              · obtain ⟨size6, parts6, parts_n6, parts_c6, d5, left5, i4⟩ := s
                have h : glacierlaw2_DiskFills_b1 size6 parts6 parts_n6 parts_c6 d5 left5 i4 K0 R w := h
                refine Wp_leaf_end (Q0 := fun e _ r w => match e with | .normal => glacierlaw2_DiskFills_p4.dec r (fun s => glacierlaw2_DiskFills_b0 s.1 s.2.1 s.2.2.1 s.2.2.2.1 s.2.2.2.2.1 s.2.2.2.2.2.1 s.2.2.2.2.2.2 K0 w) | .exit i => exitQ i 0 (glacierlaw2_DiskFills_p1.dec r (fun s => glacierlaw2_DiskFills_b4 s.1 s.2.1 s.2.2 R w)) (exitQ i 1 (glacierlaw2_DiskFills_p4.dec r (fun s => glacierlaw2_DiskFills_b0 s.1 s.2.1 s.2.2.1 s.2.2.2.1 s.2.2.2.2.1 s.2.2.2.2.2.1 s.2.2.2.2.2.2 K0 w)) (False)) | .ret => retQ Try.prog Try.f3.results R .ret [] r w | _ => False) h (by kernel_rfl) ?_
                intro e _ r w h
                cases e with
                | normal =>
                  obtain ⟨s, hs, h⟩ := glacierlaw2_DiskFills_p4_ok _ _ h
                  rw [← hs]
                  exact hN4 s r w h
                | exit i =>
                  rcases exitQ_elim h with ⟨rfl, h⟩ | ⟨_, h⟩
                  · obtain ⟨s, hs, h⟩ := glacierlaw2_DiskFills_p1_ok _ _ h
                    rw [← hs]
                    exact (fun s r w h => blockQ_other (id := 1) (j := 0) (by decide) (hX2 s r w h)) s r w h
                  rcases exitQ_elim h with ⟨rfl, h⟩ | ⟨_, h⟩
                  · obtain ⟨s, hs, h⟩ := glacierlaw2_DiskFills_p4_ok _ _ h
                    rw [← hs]
                    exact hX5 s r w h
                  exact h.elim
                | ret => exact h
                | goto i => exact h.elim
                | panic c => exact h.elim
                | outgrown => exact h.elim
              · intro e _ r w hne h
                cases e with
                | normal => exact absurd rfl hne
                | exit i =>
                  rcases exitQ_elim h with ⟨rfl, h⟩ | ⟨_, h⟩
                  · obtain ⟨s, hs, h⟩ := glacierlaw2_DiskFills_p1_ok _ _ h
                    rw [← hs]
                    exact (fun s r w h => blockQ_other (id := 1) (j := 0) (by decide) (hX2 s r w h)) s r w h
                  rcases exitQ_elim h with ⟨rfl, h⟩ | ⟨_, h⟩
                  · obtain ⟨s, hs, h⟩ := glacierlaw2_DiskFills_p4_ok _ _ h
                    rw [← hs]
                    exact hX5 s r w h
                  exact h.elim
                | ret => exact h
                | goto i => exact h.elim
                | panic c => exact h.elim
                | outgrown => exact h.elim
            · intro e _ r w hne h
              cases e with
              | normal => exact absurd rfl hne
              | exit i =>
                rcases exitQ_elim h with ⟨rfl, h⟩ | ⟨_, h⟩
                · obtain ⟨s, hs, h⟩ := glacierlaw2_DiskFills_p1_ok _ _ h
                  rw [← hs]
                  exact (fun s r w h => blockQ_other (id := 1) (j := 0) (by decide) (hX2 s r w h)) s r w h
                rcases exitQ_elim h with ⟨rfl, h⟩ | ⟨_, h⟩
                · obtain ⟨s, hs, h⟩ := glacierlaw2_DiskFills_p4_ok _ _ h
                  rw [← hs]
                  exact hX5 s r w h
                exact h.elim
              | ret => exact h
              | goto i => exact h.elim
              | panic c => exact h.elim
              | outgrown => exact h.elim
        · intro e _ r w hne h
          cases e with
          | normal => exact absurd rfl hne
          | exit i =>
            rcases exitQ_elim h with ⟨rfl, h⟩ | ⟨_, h⟩
            · obtain ⟨s, hs, h⟩ := glacierlaw2_DiskFills_p1_ok _ _ h
              rw [← hs]
              exact hX2 s r w h
            exact h.elim
          | ret => exact h
          | goto i => exact h.elim
          | panic c => exact h.elim
          | outgrown => exact h.elim
      · intro e _ r w hne h
        cases e with
        | normal => exact absurd rfl hne
        | exit i => exact h.elim
        | ret => exact h
        | goto i => exact h.elim
        | panic c => exact h.elim
        | outgrown => exact h.elim
  · intro e _ r w hne h
    cases e with
    | normal => exact absurd rfl hne
    | exit i => exact h.elim
    | ret => exact h
    | goto i => exact h.elim
    | panic c => exact h.elim
    | outgrown => exact h.elim

/- glacier/glacierlaw2.DiskRenames -/
def glacierlaw2_DiskRenames_b0 (old4 : Option Addr) (old_n4 : Nat) (old_c4 : Nat) (now4 : Option Addr) (now_n4 : Nat) (now_c4 : Nat) (at_4 : Int) (pick4 : Int) (d3 : Option Addr) (R : Value → World → Prop) (w : World) : Prop :=
  AL w (.cells #[(.int .i64 pick4), (.int .i64 pick4), (.int .i64 pick4)] 3) fun b4 w_11 =>
  CallR Try.prog fn_disk_Disk_Crash #[(.pointer d3), (.slice (some b4) 3 3)] w_11 fun res7 w_12 =>
  mTup res7 fun l3 =>
  mNil l3 (
  CallR Try.prog fn_disk_Disk_Read #[(.pointer d3), (.string (ByteArray.mk #[102]))] w_12 fun res8 w_13 =>
  mTup res8 fun l4 =>
  mCons l4 fun v10 l5 =>
  mSlice v10 fun v11 v_n v_c =>
  mCons l5 fun v12 l6 =>
  mInt .i64 v12 fun v13 =>
  mNil l6 (
  Br (at_4 == 3) (
  Br (v13 == 0) (
  rRun Try.prog (convert 30 9 (.slice v11 v_n v_c)) w_13 fun sr w_14 =>
  mStr sr fun v14 =>
  rRun Try.prog (convert 30 9 (.slice now4 now_n4 now_c4)) w_14 fun sr1 w_15 =>
  mStr sr1 fun v15 =>
  R (.bool (ByteArray.toList v14 == ByteArray.toList v15)) w_15) (
  R (.bool false) w_13)) (
  Br (v13 == 0) (
  rRun Try.prog (convert 30 9 (.slice v11 v_n v_c)) w_13 fun sr2 w_16 =>
  mStr sr2 fun v16 =>
  rRun Try.prog (convert 30 9 (.slice old4 old_n4 old_c4)) w_16 fun sr3 w_17 =>
  mStr sr3 fun v17 =>
  R (.bool (ByteArray.toList v16 == ByteArray.toList v17)) w_17) (
  R (.bool false) w_13))))

def glacierlaw2_DiskRenames_b1 (old3 : Option Addr) (old_n3 : Nat) (old_c3 : Nat) (now3 : Option Addr) (now_n3 : Nat) (now_c3 : Nat) (at_3 : Int) (pick3 : Int) (d2 : Option Addr) (R : Value → World → Prop) (w : World) : Prop :=
  Br (decide (at_3 ≥ 3)) (
  CallR Try.prog fn_disk_Disk_Rename #[(.pointer d2), (.string (ByteArray.mk #[102, 46, 116, 109, 112])), (.string (ByteArray.mk #[102]))] w fun res6 w_10 =>
  mInt .i64 res6 fun _ =>
  glacierlaw2_DiskRenames_b0 old3 old_n3 old_c3 now3 now_n3 now_c3 at_3 pick3 d2 R w_10) (
  glacierlaw2_DiskRenames_b0 old3 old_n3 old_c3 now3 now_n3 now_c3 at_3 pick3 d2 R w)

def glacierlaw2_DiskRenames_b2 (old2 : Option Addr) (old_n2 : Nat) (old_c2 : Nat) (now2 : Option Addr) (now_n2 : Nat) (now_c2 : Nat) (at_2 : Int) (pick2 : Int) (d1 : Option Addr) (R : Value → World → Prop) (w : World) : Prop :=
  Br (decide (at_2 ≥ 2)) (
  AL w (.cells #[(.string (ByteArray.mk #[102, 46, 116, 109, 112]))] 9) fun b3 w_8 =>
  CallR Try.prog fn_disk_Disk_Sync #[(.pointer d1), (.slice (some b3) 1 1)] w_8 fun res5 w_9 =>
  mInt .i64 res5 fun _ =>
  glacierlaw2_DiskRenames_b1 old2 old_n2 old_c2 now2 now_n2 now_c2 at_2 pick2 d1 R w_9) (
  glacierlaw2_DiskRenames_b1 old2 old_n2 old_c2 now2 now_n2 now_c2 at_2 pick2 d1 R w)

def glacierlaw2_DiskRenames_b3 (old1 : Option Addr) (old_n1 : Nat) (old_c1 : Nat) (now1 : Option Addr) (now_n1 : Nat) (now_c1 : Nat) (at_1 : Int) (pick1 : Int) (d : Option Addr) (R : Value → World → Prop) (w : World) : Prop :=
  Br (decide (at_1 ≥ 1)) (
  AL w (.cells #[(.slice now1 now_n1 now_c1)] 30) fun b2 w_6 =>
  CallR Try.prog fn_disk_Disk_Append #[(.pointer d), (.string (ByteArray.mk #[102, 46, 116, 109, 112])), (.slice (some b2) 1 1)] w_6 fun res4 w_7 =>
  mInt .i64 res4 fun _ =>
  glacierlaw2_DiskRenames_b2 old1 old_n1 old_c1 now1 now_n1 now_c1 at_1 pick1 d R w_7) (
  glacierlaw2_DiskRenames_b2 old1 old_n1 old_c1 now1 now_n1 now_c1 at_1 pick1 d R w)

def glacierlaw2_DiskRenames_b4 (old : Option Addr) (old_n : Nat) (old_c : Nat) (now : Option Addr) (now_n : Nat) (now_c : Nat) (at_ : Int) (pick : Int) (R : Value → World → Prop) (w : World) : Prop :=
  CallR Try.prog fn_glacierlaw2_known #[] w fun res w_ =>
  mBool res fun v =>
  Br (!v) (
  R (.bool false) w_) (
  Br (decide ((old_n : Int) > 10000)) (
  R (.bool true) w_) (
  Br (decide ((now_n : Int) > 10000)) (
  R (.bool true) w_) (
  CallR Try.prog fn_disk_New #[(.int .i64 1048576)] w_ fun res1 w_1 =>
  mTup res1 fun l =>
  mCons l fun v1 l1 =>
  mPtr v1 fun v2 =>
  mCons l1 fun v3 l2 =>
  mInt .i64 v3 fun v4 =>
  mNil l2 (
  Br (v4 != 0) (
  R (.bool false) w_1) (
  Br (Option.isNone v2) (
  R (.bool false) w_1) (
  AL w_1 (.cells #[(.slice old old_n old_c)] 30) fun b w_2 =>
  CallR Try.prog fn_disk_Disk_Append #[(.pointer v2), (.string (ByteArray.mk #[102])), (.slice (some b) 1 1)] w_2 fun res2 w_3 =>
  mInt .i64 res2 fun _ =>
  AL w_3 (.cells #[(.string (ByteArray.mk #[102]))] 9) fun b1 w_4 =>
  CallR Try.prog fn_disk_Disk_Sync #[(.pointer v2), (.slice (some b1) 1 1)] w_4 fun res3 w_5 =>
  mInt .i64 res3 fun _ =>
  Req ((4 : Int) ≠ 0) (
  Br (decide ((Int.tmod at_ 4) < 0)) (
  glacierlaw2_DiskRenames_b3 old old_n old_c now now_n now_c (IntKind.wrap .i64 (0 - (Int.tmod at_ 4))) pick v2 R w_5) (
  glacierlaw2_DiskRenames_b3 old old_n old_c now now_n now_c (Int.tmod at_ 4) pick v2 R w_5))))))))

def glacierlaw2_DiskRenames_p0 : Point ((Option Addr) × Nat × Nat × (Option Addr) × Nat × Nat × Int × Int × (Option Addr)) := { slots := fun s => [(0, (.slice s.1 s.2.1 s.2.2.1)), (1, (.slice s.2.2.2.1 s.2.2.2.2.1 s.2.2.2.2.2.1)), (2, (.int .i64 s.2.2.2.2.2.2.1)), (3, (.int .i64 s.2.2.2.2.2.2.2.1)), (9, (.pointer s.2.2.2.2.2.2.2.2))], dec := fun r K => mSlice (r 0) fun x x1 x2 => mSlice (r 1) fun x3 x4 x5 => mInt .i64 (r 2) fun x6 => mInt .i64 (r 3) fun x7 => mPtr (r 9) fun x8 => K (x, x1, x2, x3, x4, x5, x6, x7, x8) }
theorem glacierlaw2_DiskRenames_p0_ok : glacierlaw2_DiskRenames_p0.ok := by
  intro r K h
  unfold glacierlaw2_DiskRenames_p0 at h
  obtain ⟨x, x1, x2, e0, h⟩ := mSlice_elim h
  obtain ⟨x3, x4, x5, e1, h⟩ := mSlice_elim h
  obtain ⟨x6, e2, h⟩ := mInt_elim h
  obtain ⟨x7, e3, h⟩ := mInt_elim h
  obtain ⟨x8, e4, h⟩ := mPtr_elim h
  exact ⟨(x, x1, x2, x3, x4, x5, x6, x7, x8), regsOf_self (L := [(0, (.slice x x1 x2)), (1, (.slice x3 x4 x5)), (2, (.int .i64 x6)), (3, (.int .i64 x7)), (9, (.pointer x8))]) (List.forall_mem_cons.2 ⟨e0, List.forall_mem_cons.2 ⟨e1, List.forall_mem_cons.2 ⟨e2, List.forall_mem_cons.2 ⟨e3, List.forall_mem_cons.2 ⟨e4, List.forall_mem_nil _⟩⟩⟩⟩⟩), h⟩
theorem glacierlaw2_DiskRenames_p0_re (s : (Option Addr) × Nat × Nat × (Option Addr) × Nat × Nat × Int × Int × (Option Addr)) (r : Regs) (K : ((Option Addr) × Nat × Nat × (Option Addr) × Nat × Nat × Int × Int × (Option Addr)) → Prop) (h : K s) : glacierlaw2_DiskRenames_p0.dec (regsOf (glacierlaw2_DiskRenames_p0.slots s) r) K := by
  obtain ⟨x9, x10, x11, x12, x13, x14, x15, x16, x17⟩ := s
  exact cast (show K (x9, x10, x11, x12, x13, x14, x15, x16, x17) = glacierlaw2_DiskRenames_p0.dec (regsOf (glacierlaw2_DiskRenames_p0.slots (x9, x10, x11, x12, x13, x14, x15, x16, x17)) r) K by kernel_rfl) h

def glacierlaw2_DiskRenames_p1 : Point ((Option Addr) × Nat × Nat × (Option Addr) × Nat × Nat × Int × Int × (Option Addr)) := { slots := fun s => [(0, (.slice s.1 s.2.1 s.2.2.1)), (1, (.slice s.2.2.2.1 s.2.2.2.2.1 s.2.2.2.2.2.1)), (2, (.int .i64 s.2.2.2.2.2.2.1)), (3, (.int .i64 s.2.2.2.2.2.2.2.1)), (9, (.pointer s.2.2.2.2.2.2.2.2))], dec := fun r K => mSlice (r 0) fun x x1 x2 => mSlice (r 1) fun x3 x4 x5 => mInt .i64 (r 2) fun x6 => mInt .i64 (r 3) fun x7 => mPtr (r 9) fun x8 => K (x, x1, x2, x3, x4, x5, x6, x7, x8) }
theorem glacierlaw2_DiskRenames_p1_ok : glacierlaw2_DiskRenames_p1.ok := by
  intro r K h
  unfold glacierlaw2_DiskRenames_p1 at h
  obtain ⟨x, x1, x2, e0, h⟩ := mSlice_elim h
  obtain ⟨x3, x4, x5, e1, h⟩ := mSlice_elim h
  obtain ⟨x6, e2, h⟩ := mInt_elim h
  obtain ⟨x7, e3, h⟩ := mInt_elim h
  obtain ⟨x8, e4, h⟩ := mPtr_elim h
  exact ⟨(x, x1, x2, x3, x4, x5, x6, x7, x8), regsOf_self (L := [(0, (.slice x x1 x2)), (1, (.slice x3 x4 x5)), (2, (.int .i64 x6)), (3, (.int .i64 x7)), (9, (.pointer x8))]) (List.forall_mem_cons.2 ⟨e0, List.forall_mem_cons.2 ⟨e1, List.forall_mem_cons.2 ⟨e2, List.forall_mem_cons.2 ⟨e3, List.forall_mem_cons.2 ⟨e4, List.forall_mem_nil _⟩⟩⟩⟩⟩), h⟩
theorem glacierlaw2_DiskRenames_p1_re (s : (Option Addr) × Nat × Nat × (Option Addr) × Nat × Nat × Int × Int × (Option Addr)) (r : Regs) (K : ((Option Addr) × Nat × Nat × (Option Addr) × Nat × Nat × Int × Int × (Option Addr)) → Prop) (h : K s) : glacierlaw2_DiskRenames_p1.dec (regsOf (glacierlaw2_DiskRenames_p1.slots s) r) K := by
  obtain ⟨x9, x10, x11, x12, x13, x14, x15, x16, x17⟩ := s
  exact cast (show K (x9, x10, x11, x12, x13, x14, x15, x16, x17) = glacierlaw2_DiskRenames_p1.dec (regsOf (glacierlaw2_DiskRenames_p1.slots (x9, x10, x11, x12, x13, x14, x15, x16, x17)) r) K by kernel_rfl) h

def glacierlaw2_DiskRenames_p2 : Point ((Option Addr) × Nat × Nat × (Option Addr) × Nat × Nat × Int × Int × (Option Addr)) := { slots := fun s => [(0, (.slice s.1 s.2.1 s.2.2.1)), (1, (.slice s.2.2.2.1 s.2.2.2.2.1 s.2.2.2.2.2.1)), (2, (.int .i64 s.2.2.2.2.2.2.1)), (3, (.int .i64 s.2.2.2.2.2.2.2.1)), (9, (.pointer s.2.2.2.2.2.2.2.2))], dec := fun r K => mSlice (r 0) fun x x1 x2 => mSlice (r 1) fun x3 x4 x5 => mInt .i64 (r 2) fun x6 => mInt .i64 (r 3) fun x7 => mPtr (r 9) fun x8 => K (x, x1, x2, x3, x4, x5, x6, x7, x8) }
theorem glacierlaw2_DiskRenames_p2_ok : glacierlaw2_DiskRenames_p2.ok := by
  intro r K h
  unfold glacierlaw2_DiskRenames_p2 at h
  obtain ⟨x, x1, x2, e0, h⟩ := mSlice_elim h
  obtain ⟨x3, x4, x5, e1, h⟩ := mSlice_elim h
  obtain ⟨x6, e2, h⟩ := mInt_elim h
  obtain ⟨x7, e3, h⟩ := mInt_elim h
  obtain ⟨x8, e4, h⟩ := mPtr_elim h
  exact ⟨(x, x1, x2, x3, x4, x5, x6, x7, x8), regsOf_self (L := [(0, (.slice x x1 x2)), (1, (.slice x3 x4 x5)), (2, (.int .i64 x6)), (3, (.int .i64 x7)), (9, (.pointer x8))]) (List.forall_mem_cons.2 ⟨e0, List.forall_mem_cons.2 ⟨e1, List.forall_mem_cons.2 ⟨e2, List.forall_mem_cons.2 ⟨e3, List.forall_mem_cons.2 ⟨e4, List.forall_mem_nil _⟩⟩⟩⟩⟩), h⟩
theorem glacierlaw2_DiskRenames_p2_re (s : (Option Addr) × Nat × Nat × (Option Addr) × Nat × Nat × Int × Int × (Option Addr)) (r : Regs) (K : ((Option Addr) × Nat × Nat × (Option Addr) × Nat × Nat × Int × Int × (Option Addr)) → Prop) (h : K s) : glacierlaw2_DiskRenames_p2.dec (regsOf (glacierlaw2_DiskRenames_p2.slots s) r) K := by
  obtain ⟨x9, x10, x11, x12, x13, x14, x15, x16, x17⟩ := s
  exact cast (show K (x9, x10, x11, x12, x13, x14, x15, x16, x17) = glacierlaw2_DiskRenames_p2.dec (regsOf (glacierlaw2_DiskRenames_p2.slots (x9, x10, x11, x12, x13, x14, x15, x16, x17)) r) K by kernel_rfl) h

def glacierlaw2_DiskRenames_p3 : Point ((Option Addr) × Nat × Nat × (Option Addr) × Nat × Nat × Int × Int × (Option Addr)) := { slots := fun s => [(0, (.slice s.1 s.2.1 s.2.2.1)), (1, (.slice s.2.2.2.1 s.2.2.2.2.1 s.2.2.2.2.2.1)), (2, (.int .i64 s.2.2.2.2.2.2.1)), (3, (.int .i64 s.2.2.2.2.2.2.2.1)), (9, (.pointer s.2.2.2.2.2.2.2.2))], dec := fun r K => mSlice (r 0) fun x x1 x2 => mSlice (r 1) fun x3 x4 x5 => mInt .i64 (r 2) fun x6 => mInt .i64 (r 3) fun x7 => mPtr (r 9) fun x8 => K (x, x1, x2, x3, x4, x5, x6, x7, x8) }
theorem glacierlaw2_DiskRenames_p3_ok : glacierlaw2_DiskRenames_p3.ok := by
  intro r K h
  unfold glacierlaw2_DiskRenames_p3 at h
  obtain ⟨x, x1, x2, e0, h⟩ := mSlice_elim h
  obtain ⟨x3, x4, x5, e1, h⟩ := mSlice_elim h
  obtain ⟨x6, e2, h⟩ := mInt_elim h
  obtain ⟨x7, e3, h⟩ := mInt_elim h
  obtain ⟨x8, e4, h⟩ := mPtr_elim h
  exact ⟨(x, x1, x2, x3, x4, x5, x6, x7, x8), regsOf_self (L := [(0, (.slice x x1 x2)), (1, (.slice x3 x4 x5)), (2, (.int .i64 x6)), (3, (.int .i64 x7)), (9, (.pointer x8))]) (List.forall_mem_cons.2 ⟨e0, List.forall_mem_cons.2 ⟨e1, List.forall_mem_cons.2 ⟨e2, List.forall_mem_cons.2 ⟨e3, List.forall_mem_cons.2 ⟨e4, List.forall_mem_nil _⟩⟩⟩⟩⟩), h⟩
theorem glacierlaw2_DiskRenames_p3_re (s : (Option Addr) × Nat × Nat × (Option Addr) × Nat × Nat × Int × Int × (Option Addr)) (r : Regs) (K : ((Option Addr) × Nat × Nat × (Option Addr) × Nat × Nat × Int × Int × (Option Addr)) → Prop) (h : K s) : glacierlaw2_DiskRenames_p3.dec (regsOf (glacierlaw2_DiskRenames_p3.slots s) r) K := by
  obtain ⟨x9, x10, x11, x12, x13, x14, x15, x16, x17⟩ := s
  exact cast (show K (x9, x10, x11, x12, x13, x14, x15, x16, x17) = glacierlaw2_DiskRenames_p3.dec (regsOf (glacierlaw2_DiskRenames_p3.slots (x9, x10, x11, x12, x13, x14, x15, x16, x17)) r) K by kernel_rfl) h

theorem glacierlaw2_DiskRenames_sound (old : Option Addr) (old_n : Nat) (old_c : Nat) (now : Option Addr) (now_n : Nat) (now_c : Nat) (at_ : Int) (pick : Int) (R : Value → World → Prop) (w : World) (h : glacierlaw2_DiskRenames_b4 old old_n old_c now now_n now_c at_ pick R w) :
    CallR Try.prog fn_glacierlaw2_DiskRenames #[(.slice old old_n old_c), (.slice now now_n now_c), (.int .i64 at_), (.int .i64 pick)] w R := by
  refine CallR_intro (args := [(.slice old old_n old_c), (.slice now now_n now_c), (.int .i64 at_), (.int .i64 pick)]) Try.func4 rfl (Nat.le_of_ble_eq_true (by kernel_rfl)) ?_
  refine Wp_glue glacierlaw2_DiskRenames_p0 (fun s w => glacierlaw2_DiskRenames_b3 s.1 s.2.1 s.2.2.1 s.2.2.2.1 s.2.2.2.2.1 s.2.2.2.2.2.1 s.2.2.2.2.2.2.1 s.2.2.2.2.2.2.2.1 s.2.2.2.2.2.2.2.2 R w) [_, _, _, _, _, _, _, _, _] (Q0 := fun e _ r w => match e with | .normal => glacierlaw2_DiskRenames_p0.dec r (fun s => glacierlaw2_DiskRenames_b3 s.1 s.2.1 s.2.2.1 s.2.2.2.1 s.2.2.2.2.1 s.2.2.2.2.2.1 s.2.2.2.2.2.2.1 s.2.2.2.2.2.2.2.1 s.2.2.2.2.2.2.2.2 R w) | .exit _ => False | .ret => retQ Try.prog Try.f4.results R .ret [] r w | _ => False) h (by kernel_rfl) (fun s r w h => ?_) glacierlaw2_DiskRenames_p0_ok (fun _ _ _ h => h) ?_
  · obtain ⟨old1, old_n1, old_c1, now1, now_n1, now_c1, at_1, pick1, d⟩ := s
    have h : glacierlaw2_DiskRenames_b3 old1 old_n1 old_c1 now1 now_n1 now_c1 at_1 pick1 d R w := h
    refine Wp_glue glacierlaw2_DiskRenames_p1 (fun s w => glacierlaw2_DiskRenames_b2 s.1 s.2.1 s.2.2.1 s.2.2.2.1 s.2.2.2.2.1 s.2.2.2.2.2.1 s.2.2.2.2.2.2.1 s.2.2.2.2.2.2.2.1 s.2.2.2.2.2.2.2.2 R w) [_] (Q0 := fun e _ r w => match e with | .normal => glacierlaw2_DiskRenames_p1.dec r (fun s => glacierlaw2_DiskRenames_b2 s.1 s.2.1 s.2.2.1 s.2.2.2.1 s.2.2.2.2.1 s.2.2.2.2.2.1 s.2.2.2.2.2.2.1 s.2.2.2.2.2.2.2.1 s.2.2.2.2.2.2.2.2 R w) | .exit _ => False | .ret => retQ Try.prog Try.f4.results R .ret [] r w | _ => False) h (by kernel_rfl) (fun s r w h => ?_) glacierlaw2_DiskRenames_p1_ok (fun _ _ _ h => h) ?_
    · obtain ⟨old2, old_n2, old_c2, now2, now_n2, now_c2, at_2, pick2, d1⟩ := s
      have h : glacierlaw2_DiskRenames_b2 old2 old_n2 old_c2 now2 now_n2 now_c2 at_2 pick2 d1 R w := h
      refine Wp_glue glacierlaw2_DiskRenames_p2 (fun s w => glacierlaw2_DiskRenames_b1 s.1 s.2.1 s.2.2.1 s.2.2.2.1 s.2.2.2.2.1 s.2.2.2.2.2.1 s.2.2.2.2.2.2.1 s.2.2.2.2.2.2.2.1 s.2.2.2.2.2.2.2.2 R w) [_] (Q0 := fun e _ r w => match e with | .normal => glacierlaw2_DiskRenames_p2.dec r (fun s => glacierlaw2_DiskRenames_b1 s.1 s.2.1 s.2.2.1 s.2.2.2.1 s.2.2.2.2.1 s.2.2.2.2.2.1 s.2.2.2.2.2.2.1 s.2.2.2.2.2.2.2.1 s.2.2.2.2.2.2.2.2 R w) | .exit _ => False | .ret => retQ Try.prog Try.f4.results R .ret [] r w | _ => False) h (by kernel_rfl) (fun s r w h => ?_) glacierlaw2_DiskRenames_p2_ok (fun _ _ _ h => h) ?_
      · obtain ⟨old3, old_n3, old_c3, now3, now_n3, now_c3, at_3, pick3, d2⟩ := s
        have h : glacierlaw2_DiskRenames_b1 old3 old_n3 old_c3 now3 now_n3 now_c3 at_3 pick3 d2 R w := h
        refine Wp_glue glacierlaw2_DiskRenames_p3 (fun s w => glacierlaw2_DiskRenames_b0 s.1 s.2.1 s.2.2.1 s.2.2.2.1 s.2.2.2.2.1 s.2.2.2.2.2.1 s.2.2.2.2.2.2.1 s.2.2.2.2.2.2.2.1 s.2.2.2.2.2.2.2.2 R w) [_] (Q0 := fun e _ r w => match e with | .normal => glacierlaw2_DiskRenames_p3.dec r (fun s => glacierlaw2_DiskRenames_b0 s.1 s.2.1 s.2.2.1 s.2.2.2.1 s.2.2.2.2.1 s.2.2.2.2.2.1 s.2.2.2.2.2.2.1 s.2.2.2.2.2.2.2.1 s.2.2.2.2.2.2.2.2 R w) | .exit _ => False | .ret => retQ Try.prog Try.f4.results R .ret [] r w | _ => False) h (by kernel_rfl) (fun s r w h => ?_) glacierlaw2_DiskRenames_p3_ok (fun _ _ _ h => h) ?_
        · obtain ⟨old4, old_n4, old_c4, now4, now_n4, now_c4, at_4, pick4, d3⟩ := s
          have h : glacierlaw2_DiskRenames_b0 old4 old_n4 old_c4 now4 now_n4 now_c4 at_4 pick4 d3 R w := h
          refine Wp_leaf_end (Q0 := fun e _ r w => match e with | .normal => retQ Try.prog Try.f4.results R .normal [] r w | .exit _ => False | .ret => retQ Try.prog Try.f4.results R .ret [] r w | _ => False) h (by kernel_rfl) ?_
          intro e _ r w h
          cases e with
          | normal => exact h
          | exit i => exact h.elim
          | ret => exact h
          | goto i => exact h.elim
          | panic c => exact h.elim
          | outgrown => exact h.elim
        · intro e _ r w hne h
          cases e with
          | normal => exact absurd rfl hne
          | exit i => exact h.elim
          | ret => exact h
          | goto i => exact h.elim
          | panic c => exact h.elim
          | outgrown => exact h.elim
      · intro e _ r w hne h
        cases e with
        | normal => exact absurd rfl hne
        | exit i => exact h.elim
        | ret => exact h
        | goto i => exact h.elim
        | panic c => exact h.elim
        | outgrown => exact h.elim
    · intro e _ r w hne h
      cases e with
      | normal => exact absurd rfl hne
      | exit i => exact h.elim
      | ret => exact h
      | goto i => exact h.elim
      | panic c => exact h.elim
      | outgrown => exact h.elim
  · intro e _ r w hne h
    cases e with
    | normal => exact absurd rfl hne
    | exit i => exact h.elim
    | ret => exact h
    | goto i => exact h.elim
    | panic c => exact h.elim
    | outgrown => exact h.elim

/- glacier/glacierlaw2.few -/
def glacierlaw2_few_b0 (l7 : Option Addr) (l_n7 : Nat) (l_c7 : Nat) (n6 : Int) (i5 : Int) (K0 : ((Option Addr) × Nat × Nat × Int × Int) → World → Prop) (w : World) : Prop :=
  K0 (l7, l_n7, l_c7, n6, IntKind.wrap .i64 (i5 + 1)) w

def glacierlaw2_few_b1 (l6 : Option Addr) (l_n6 : Nat) (l_c6 : Nat) (n5 : Int) (i4 : Int) (k1 : Int) (K0 : ((Option Addr) × Nat × Nat × Int × Int) → World → Prop) (K1 : ((Option Addr) × Nat × Nat × Int × Int × Int) → World → Prop) (w : World) : Prop :=
  IX l6 l_n6 i4 6 fun a5 =>
  LDSl w (Addr.add a5 3) fun _ v_n3 _ =>
  Br (decide (k1 < (v_n3 : Int))) (
  IX l6 l_n6 i4 6 fun a6 =>
  LDSl w (Addr.add a6 3) fun v6 v_n4 _ =>
  IX v6 v_n4 k1 1 fun a7 =>
  LDS w a7 fun v7 =>
  K1 (l6, l_n6, l_c6, IntKind.wrap .i64 (n5 + (ByteArray.size v7 : Int)), i4, IntKind.wrap .i64 (k1 + 1)) w) (
  glacierlaw2_few_b0 l6 l_n6 l_c6 n5 i4 K0 w)

def glacierlaw2_few_b2 (l5 : Option Addr) (l_n5 : Nat) (l_c5 : Nat) (n4 : Int) (i3 : Int) (k : Int) (K0 : ((Option Addr) × Nat × Nat × Int × Int) → World → Prop) (w : World) : Prop :=
  LoopS (σ := (Option Addr) × Nat × Nat × Int × Int × Int) (fun s w K1 =>
  glacierlaw2_few_b1 s.1 s.2.1 s.2.2.1 s.2.2.2.1 s.2.2.2.2.1 s.2.2.2.2.2 K0 K1 w) (l5, l_n5, l_c5, n4, i3, k) w

def glacierlaw2_few_b3 (l4 : Option Addr) (l_n4 : Nat) (l_c4 : Nat) (n3 : Int) (i2 : Int) (K0 : ((Option Addr) × Nat × Nat × Int × Int) → World → Prop) (w : World) : Prop :=
  LetW (World.drew w) fun w_ =>
  IX l4 l_n4 i2 6 fun a =>
  LDSl w_ (Addr.add a 4) fun _ v_n _ =>
  (w_ = w_ ∧ 
  IX l4 l_n4 i2 6 fun a1 =>
  LDSl w_ (Addr.add a1 3) fun _ v_n1 _ =>
  (w_ = w_ ∧ 
  IX l4 l_n4 i2 6 fun a2 =>
  LDSl w_ (Addr.add a2 5) fun _ v_n2 _ =>
  (w_ = w_ ∧ 
  IX l4 l_n4 i2 6 fun a3 =>
  LDS w_ (Addr.add a3 1) fun v3 =>
  (w_ = w_ ∧ 
  IX l4 l_n4 i2 6 fun a4 =>
  LDS w_ (Addr.add a4 2) fun v4 =>
  (w_ = w_ ∧ 
  glacierlaw2_few_b2 l4 l_n4 l_c4 (IntKind.wrap .i64 ((IntKind.wrap .i64 ((IntKind.wrap .i64 ((IntKind.wrap .i64 ((IntKind.wrap .i64 (n3 + (v_n : Int))) + (v_n1 : Int))) + (v_n2 : Int))) + (ByteArray.size v3 : Int))) + (ByteArray.size v4 : Int))) i2 0 K0 w_)))))

def glacierlaw2_few_b4 (l_n8 : Nat) (n7 : Int) (R : Value → World → Prop) (w : World) : Prop :=
  Br (decide ((l_n8 : Int) ≤ 500)) (
  R (.bool (decide (n7 ≤ 65536))) w) (
  R (.bool false) w)

def glacierlaw2_few_b5 (l3 : Option Addr) (l_n3 : Nat) (l_c3 : Nat) (n2 : Int) (i1 : Int) (K0 : ((Option Addr) × Nat × Nat × Int × Int) → World → Prop) (R : Value → World → Prop) (w : World) : Prop :=
  Br (decide (i1 < (l_n3 : Int))) (
  glacierlaw2_few_b3 l3 l_n3 l_c3 n2 i1 K0 w) (
  glacierlaw2_few_b4 l_n3 n2 R w)

def glacierlaw2_few_b6 (l2 : Option Addr) (l_n2 : Nat) (l_c2 : Nat) (n1 : Int) (i : Int) (R : Value → World → Prop) (w : World) : Prop :=
  LoopS (σ := (Option Addr) × Nat × Nat × Int × Int) (fun s w K0 =>
  glacierlaw2_few_b5 s.1 s.2.1 s.2.2.1 s.2.2.2.1 s.2.2.2.2 K0 R w) (l2, l_n2, l_c2, n1, i) w

def glacierlaw2_few_b7 (l1 : Option Addr) (l_n1 : Nat) (l_c1 : Nat) (n : Int) (R : Value → World → Prop) (w : World) : Prop :=
  glacierlaw2_few_b6 l1 l_n1 l_c1 n 0 R w

def glacierlaw2_few_b8 (l : Option Addr) (l_n : Nat) (l_c : Nat) (R : Value → World → Prop) (w : World) : Prop :=
  glacierlaw2_few_b7 l l_n l_c 0 R w

def glacierlaw2_few_p0 : Point ((Option Addr) × Nat × Nat × Int) := { slots := fun s => [(0, (.slice s.1 s.2.1 s.2.2.1)), (3, (.int .i64 s.2.2.2))], dec := fun r K => mSlice (r 0) fun x x1 x2 => mInt .i64 (r 3) fun x3 => K (x, x1, x2, x3) }
theorem glacierlaw2_few_p0_ok : glacierlaw2_few_p0.ok := by
  intro r K h
  unfold glacierlaw2_few_p0 at h
  obtain ⟨x, x1, x2, e0, h⟩ := mSlice_elim h
  obtain ⟨x3, e1, h⟩ := mInt_elim h
  exact ⟨(x, x1, x2, x3), regsOf_self (L := [(0, (.slice x x1 x2)), (3, (.int .i64 x3))]) (List.forall_mem_cons.2 ⟨e0, List.forall_mem_cons.2 ⟨e1, List.forall_mem_nil _⟩⟩), h⟩
theorem glacierlaw2_few_p0_re (s : (Option Addr) × Nat × Nat × Int) (r : Regs) (K : ((Option Addr) × Nat × Nat × Int) → Prop) (h : K s) : glacierlaw2_few_p0.dec (regsOf (glacierlaw2_few_p0.slots s) r) K := by
  obtain ⟨x4, x5, x6, x7⟩ := s
  exact cast (show K (x4, x5, x6, x7) = glacierlaw2_few_p0.dec (regsOf (glacierlaw2_few_p0.slots (x4, x5, x6, x7)) r) K by kernel_rfl) h

def glacierlaw2_few_p1 : Point ((Option Addr) × Nat × Nat × Int) := { slots := fun s => [(0, (.slice s.1 s.2.1 s.2.2.1)), (3, (.int .i64 s.2.2.2))], dec := fun r K => mSlice (r 0) fun x x1 x2 => mInt .i64 (r 3) fun x3 => K (x, x1, x2, x3) }
theorem glacierlaw2_few_p1_ok : glacierlaw2_few_p1.ok := by
  intro r K h
  unfold glacierlaw2_few_p1 at h
  obtain ⟨x, x1, x2, e0, h⟩ := mSlice_elim h
  obtain ⟨x3, e1, h⟩ := mInt_elim h
  exact ⟨(x, x1, x2, x3), regsOf_self (L := [(0, (.slice x x1 x2)), (3, (.int .i64 x3))]) (List.forall_mem_cons.2 ⟨e0, List.forall_mem_cons.2 ⟨e1, List.forall_mem_nil _⟩⟩), h⟩
theorem glacierlaw2_few_p1_re (s : (Option Addr) × Nat × Nat × Int) (r : Regs) (K : ((Option Addr) × Nat × Nat × Int) → Prop) (h : K s) : glacierlaw2_few_p1.dec (regsOf (glacierlaw2_few_p1.slots s) r) K := by
  obtain ⟨x4, x5, x6, x7⟩ := s
  exact cast (show K (x4, x5, x6, x7) = glacierlaw2_few_p1.dec (regsOf (glacierlaw2_few_p1.slots (x4, x5, x6, x7)) r) K by kernel_rfl) h

def glacierlaw2_few_p2 : Point ((Option Addr) × Nat × Nat × Int × Int) := { slots := fun s => [(0, (.slice s.1 s.2.1 s.2.2.1)), (3, (.int .i64 s.2.2.2.1)), (4, (.int .i64 s.2.2.2.2))], dec := fun r K => mSlice (r 0) fun x x1 x2 => mInt .i64 (r 3) fun x3 => mInt .i64 (r 4) fun x4 => K (x, x1, x2, x3, x4) }
theorem glacierlaw2_few_p2_ok : glacierlaw2_few_p2.ok := by
  intro r K h
  unfold glacierlaw2_few_p2 at h
  obtain ⟨x, x1, x2, e0, h⟩ := mSlice_elim h
  obtain ⟨x3, e1, h⟩ := mInt_elim h
  obtain ⟨x4, e2, h⟩ := mInt_elim h
  exact ⟨(x, x1, x2, x3, x4), regsOf_self (L := [(0, (.slice x x1 x2)), (3, (.int .i64 x3)), (4, (.int .i64 x4))]) (List.forall_mem_cons.2 ⟨e0, List.forall_mem_cons.2 ⟨e1, List.forall_mem_cons.2 ⟨e2, List.forall_mem_nil _⟩⟩⟩), h⟩
theorem glacierlaw2_few_p2_re (s : (Option Addr) × Nat × Nat × Int × Int) (r : Regs) (K : ((Option Addr) × Nat × Nat × Int × Int) → Prop) (h : K s) : glacierlaw2_few_p2.dec (regsOf (glacierlaw2_few_p2.slots s) r) K := by
  obtain ⟨x5, x6, x7, x8, x9⟩ := s
  exact cast (show K (x5, x6, x7, x8, x9) = glacierlaw2_few_p2.dec (regsOf (glacierlaw2_few_p2.slots (x5, x6, x7, x8, x9)) r) K by kernel_rfl) h

def glacierlaw2_few_p3 : Point ((Option Addr) × Nat × Nat × Int × Int) := { slots := fun s => [(0, (.slice s.1 s.2.1 s.2.2.1)), (3, (.int .i64 s.2.2.2.1)), (4, (.int .i64 s.2.2.2.2))], dec := fun r K => mSlice (r 0) fun x x1 x2 => mInt .i64 (r 3) fun x3 => mInt .i64 (r 4) fun x4 => K (x, x1, x2, x3, x4) }
theorem glacierlaw2_few_p3_ok : glacierlaw2_few_p3.ok := by
  intro r K h
  unfold glacierlaw2_few_p3 at h
  obtain ⟨x, x1, x2, e0, h⟩ := mSlice_elim h
  obtain ⟨x3, e1, h⟩ := mInt_elim h
  obtain ⟨x4, e2, h⟩ := mInt_elim h
  exact ⟨(x, x1, x2, x3, x4), regsOf_self (L := [(0, (.slice x x1 x2)), (3, (.int .i64 x3)), (4, (.int .i64 x4))]) (List.forall_mem_cons.2 ⟨e0, List.forall_mem_cons.2 ⟨e1, List.forall_mem_cons.2 ⟨e2, List.forall_mem_nil _⟩⟩⟩), h⟩
theorem glacierlaw2_few_p3_re (s : (Option Addr) × Nat × Nat × Int × Int) (r : Regs) (K : ((Option Addr) × Nat × Nat × Int × Int) → Prop) (h : K s) : glacierlaw2_few_p3.dec (regsOf (glacierlaw2_few_p3.slots s) r) K := by
  obtain ⟨x5, x6, x7, x8, x9⟩ := s
  exact cast (show K (x5, x6, x7, x8, x9) = glacierlaw2_few_p3.dec (regsOf (glacierlaw2_few_p3.slots (x5, x6, x7, x8, x9)) r) K by kernel_rfl) h

def glacierlaw2_few_p4 : Point ((Option Addr) × Nat × Nat × Int × Int) := { slots := fun s => [(0, (.slice s.1 s.2.1 s.2.2.1)), (3, (.int .i64 s.2.2.2.1)), (4, (.int .i64 s.2.2.2.2))], dec := fun r K => mSlice (r 0) fun x x1 x2 => mInt .i64 (r 3) fun x3 => mInt .i64 (r 4) fun x4 => K (x, x1, x2, x3, x4) }
theorem glacierlaw2_few_p4_ok : glacierlaw2_few_p4.ok := by
  intro r K h
  unfold glacierlaw2_few_p4 at h
  obtain ⟨x, x1, x2, e0, h⟩ := mSlice_elim h
  obtain ⟨x3, e1, h⟩ := mInt_elim h
  obtain ⟨x4, e2, h⟩ := mInt_elim h
  exact ⟨(x, x1, x2, x3, x4), regsOf_self (L := [(0, (.slice x x1 x2)), (3, (.int .i64 x3)), (4, (.int .i64 x4))]) (List.forall_mem_cons.2 ⟨e0, List.forall_mem_cons.2 ⟨e1, List.forall_mem_cons.2 ⟨e2, List.forall_mem_nil _⟩⟩⟩), h⟩
theorem glacierlaw2_few_p4_re (s : (Option Addr) × Nat × Nat × Int × Int) (r : Regs) (K : ((Option Addr) × Nat × Nat × Int × Int) → Prop) (h : K s) : glacierlaw2_few_p4.dec (regsOf (glacierlaw2_few_p4.slots s) r) K := by
  obtain ⟨x5, x6, x7, x8, x9⟩ := s
  exact cast (show K (x5, x6, x7, x8, x9) = glacierlaw2_few_p4.dec (regsOf (glacierlaw2_few_p4.slots (x5, x6, x7, x8, x9)) r) K by kernel_rfl) h

def glacierlaw2_few_p5 : Point ((Option Addr) × Nat × Nat × Int × Int × Int) := { slots := fun s => [(0, (.slice s.1 s.2.1 s.2.2.1)), (3, (.int .i64 s.2.2.2.1)), (4, (.int .i64 s.2.2.2.2.1)), (5, (.int .i64 s.2.2.2.2.2))], dec := fun r K => mSlice (r 0) fun x x1 x2 => mInt .i64 (r 3) fun x3 => mInt .i64 (r 4) fun x4 => mInt .i64 (r 5) fun x5 => K (x, x1, x2, x3, x4, x5) }
theorem glacierlaw2_few_p5_ok : glacierlaw2_few_p5.ok := by
  intro r K h
  unfold glacierlaw2_few_p5 at h
  obtain ⟨x, x1, x2, e0, h⟩ := mSlice_elim h
  obtain ⟨x3, e1, h⟩ := mInt_elim h
  obtain ⟨x4, e2, h⟩ := mInt_elim h
  obtain ⟨x5, e3, h⟩ := mInt_elim h
  exact ⟨(x, x1, x2, x3, x4, x5), regsOf_self (L := [(0, (.slice x x1 x2)), (3, (.int .i64 x3)), (4, (.int .i64 x4)), (5, (.int .i64 x5))]) (List.forall_mem_cons.2 ⟨e0, List.forall_mem_cons.2 ⟨e1, List.forall_mem_cons.2 ⟨e2, List.forall_mem_cons.2 ⟨e3, List.forall_mem_nil _⟩⟩⟩⟩), h⟩
theorem glacierlaw2_few_p5_re (s : (Option Addr) × Nat × Nat × Int × Int × Int) (r : Regs) (K : ((Option Addr) × Nat × Nat × Int × Int × Int) → Prop) (h : K s) : glacierlaw2_few_p5.dec (regsOf (glacierlaw2_few_p5.slots s) r) K := by
  obtain ⟨x6, x7, x8, x9, x10, x11⟩ := s
  exact cast (show K (x6, x7, x8, x9, x10, x11) = glacierlaw2_few_p5.dec (regsOf (glacierlaw2_few_p5.slots (x6, x7, x8, x9, x10, x11)) r) K by kernel_rfl) h

theorem glacierlaw2_few_sound (l : Option Addr) (l_n : Nat) (l_c : Nat) (R : Value → World → Prop) (w : World) (h : glacierlaw2_few_b8 l l_n l_c R w) :
    CallR Try.prog fn_glacierlaw2_few #[(.slice l l_n l_c)] w R := by
  refine CallR_intro (args := [(.slice l l_n l_c)]) Try.func17 rfl (Nat.le_of_ble_eq_true (by kernel_rfl)) ?_
  refine Wp_glue glacierlaw2_few_p0 (fun s w => glacierlaw2_few_b7 s.1 s.2.1 s.2.2.1 s.2.2.2 R w) [_, _] (Q0 := fun e _ r w => match e with | .normal => glacierlaw2_few_p0.dec r (fun s => glacierlaw2_few_b7 s.1 s.2.1 s.2.2.1 s.2.2.2 R w) | .exit _ => False | .ret => retQ Try.prog Try.f17.results R .ret [] r w | _ => False) h (by kernel_rfl) (fun s r w h => ?_) glacierlaw2_few_p0_ok (fun _ _ _ h => h) ?_
  · obtain ⟨l1, l_n1, l_c1, n⟩ := s
    have h : glacierlaw2_few_b7 l1 l_n1 l_c1 n R w := h
    refine Wp_seq_via glacierlaw2_few_p1 (fun s w => glacierlaw2_few_b4 s.2.1 s.2.2.2 R w) (fun s r w h => ?_) (fun hN1 => ?_)
    · obtain ⟨l8, l_n8, l_c8, n7⟩ := s
      have h : glacierlaw2_few_b4 l_n8 n7 R w := h
      refine Wp_leaf_end (Q0 := fun e _ r w => match e with | .normal => retQ Try.prog Try.f17.results R .normal [] r w | .exit _ => False | .ret => retQ Try.prog Try.f17.results R .ret [] r w | _ => False) h (by kernel_rfl) ?_
      intro e _ r w h
      cases e with
      | normal => exact h
      | exit i => exact h.elim
      | ret => exact h
      | goto i => exact h.elim
      | panic c => exact h.elim
      | outgrown => exact h.elim
    · refine Wp_glue glacierlaw2_few_p2 (fun s w => glacierlaw2_few_b6 s.1 s.2.1 s.2.2.1 s.2.2.2.1 s.2.2.2.2 R w) [_] (Q0 := fun e _ r w => match e with | .normal => glacierlaw2_few_p2.dec r (fun s => glacierlaw2_few_b6 s.1 s.2.1 s.2.2.1 s.2.2.2.1 s.2.2.2.2 R w) | .exit _ => False | .ret => retQ Try.prog Try.f17.results R .ret [] r w | _ => False) h (by kernel_rfl) (fun s r w h => ?_) glacierlaw2_few_p2_ok (fun _ _ _ h => h) ?_
      · obtain ⟨l2, l_n2, l_c2, n1, i⟩ := s
        have h : glacierlaw2_few_b6 l2 l_n2 l_c2 n1 i R w := h
        refine Wp_block_via glacierlaw2_few_p1 (fun s w => glacierlaw2_few_b4 s.2.1 s.2.2.2 R w) hN1 (fun hX2 => ?_)
        refine Wp_loop (p := glacierlaw2_few_p2) glacierlaw2_few_p2_ok (fun s r w K0 h => ?_) h
        obtain ⟨l3, l_n3, l_c3, n2, i1⟩ := s
        have h : glacierlaw2_few_b5 l3 l_n3 l_c3 n2 i1 K0 R w := h
        have hK3 := fun (s : (Option Addr) × Nat × Nat × Int × Int) (r : Regs) (w : World) (h : K0 s w) => glacierlaw2_few_p2_re s r (fun s => K0 s w) h
        refine Wp_glue glacierlaw2_few_p3 (fun s w => glacierlaw2_few_b3 s.1 s.2.1 s.2.2.1 s.2.2.2.1 s.2.2.2.2 K0 w) [_] (Q0 := fun e _ r w => match e with | .normal => glacierlaw2_few_p3.dec r (fun s => glacierlaw2_few_b3 s.1 s.2.1 s.2.2.1 s.2.2.2.1 s.2.2.2.2 K0 w) | .exit i => exitQ i 0 (glacierlaw2_few_p1.dec r (fun s => glacierlaw2_few_b4 s.2.1 s.2.2.2 R w)) (False) | .ret => retQ Try.prog Try.f17.results R .ret [] r w | _ => False) h (by kernel_rfl) (fun s r w h => ?_) glacierlaw2_few_p3_ok (fun _ _ _ h => h) ?_
        · obtain ⟨l4, l_n4, l_c4, n3, i2⟩ := s
          have h : glacierlaw2_few_b3 l4 l_n4 l_c4 n3 i2 K0 w := h
          refine Wp_seq_via glacierlaw2_few_p4 (fun s w => glacierlaw2_few_b0 s.1 s.2.1 s.2.2.1 s.2.2.2.1 s.2.2.2.2 K0 w) (fun s r w h => ?_) (fun hN4 => ?_)
          · obtain ⟨l7, l_n7, l_c7, n6, i5⟩ := s
            have h : glacierlaw2_few_b0 l7 l_n7 l_c7 n6 i5 K0 w := h
            refine Wp_leaf_end (Q0 := fun e _ r w => match e with | .normal => glacierlaw2_few_p2.dec r (fun s => K0 s w) | .exit i => exitQ i 0 (glacierlaw2_few_p1.dec r (fun s => glacierlaw2_few_b4 s.2.1 s.2.2.2 R w)) (False) | .ret => retQ Try.prog Try.f17.results R .ret [] r w | _ => False) h (by kernel_rfl) ?_
            intro e _ r w h
            cases e with
            | normal =>
              obtain ⟨s, hs, h⟩ := glacierlaw2_few_p2_ok _ _ h
              rw [← hs]
              exact hK3 s r w h
            | exit i =>
              rcases exitQ_elim h with ⟨rfl, h⟩ | ⟨_, h⟩
              · obtain ⟨s, hs, h⟩ := glacierlaw2_few_p1_ok _ _ h
                rw [← hs]
                exact hX2 s r w h
              exact h.elim
            | ret => exact h
            | goto i => exact h.elim
            | panic c => exact h.elim
            | outgrown => exact h.elim
          · refine Wp_block_via glacierlaw2_few_p4 (fun s w => glacierlaw2_few_b0 s.1 s.2.1 s.2.2.1 s.2.2.2.1 s.2.2.2.2 K0 w) hN4 (fun hX5 => ?_)
            refine Wp_glue glacierlaw2_few_p5 (fun s w => glacierlaw2_few_b2 s.1 s.2.1 s.2.2.1 s.2.2.2.1 s.2.2.2.2.1 s.2.2.2.2.2 K0 w) [_, _] (Q0 := fun e _ r w => match e with | .normal => glacierlaw2_few_p5.dec r (fun s => glacierlaw2_few_b2 s.1 s.2.1 s.2.2.1 s.2.2.2.1 s.2.2.2.2.1 s.2.2.2.2.2 K0 w) | .exit i => exitQ i 0 (glacierlaw2_few_p1.dec r (fun s => glacierlaw2_few_b4 s.2.1 s.2.2.2 R w)) (exitQ i 1 (glacierlaw2_few_p4.dec r (fun s => glacierlaw2_few_b0 s.1 s.2.1 s.2.2.1 s.2.2.2.1 s.2.2.2.2 K0 w)) (False)) | .ret => retQ Try.prog Try.f17.results R .ret [] r w | _ => False) h (by kernel_rfl) (fun s r w h => ?_) glacierlaw2_few_p5_ok (fun _ _ _ h => h) ?_
            · obtain ⟨l5, l_n5, l_c5, n4, i3, k⟩ := s
              have h : glacierlaw2_few_b2 l5 l_n5 l_c5 n4 i3 k K0 w := h
              refine Wp_block_via glacierlaw2_few_p4 (fun s w => glacierlaw2_few_b0 s.1 s.2.1 s.2.2.1 s.2.2.2.1 s.2.2.2.2 K0 w) hN4 (fun hX6 => ?_)
              refine Wp_loop (p := glacierlaw2_few_p5) glacierlaw2_few_p5_ok (fun s r w K1 h => ?_) h
              obtain ⟨l6, l_n6, l_c6, n5, i4, k1⟩ := s
              have h : glacierlaw2_few_b1 l6 l_n6 l_c6 n5 i4 k1 K0 K1 w := h
              have hK7 := fun (s : (Option Addr) × Nat × Nat × Int × Int × Int) (r : Regs) (w : World) (h : K1 s w) => glacierlaw2_few_p5_re s r (fun s => K1 s w) h
              refine Wp_leaf_end (Q0 := fun e _ r w => match e with | .normal => glacierlaw2_few_p5.dec r (fun s => K1 s w) | .exit i => exitQ i 0 (glacierlaw2_few_p1.dec r (fun s => glacierlaw2_few_b4 s.2.1 s.2.2.2 R w)) (exitQ i 1 (glacierlaw2_few_p4.dec r (fun s => glacierlaw2_few_b0 s.1 s.2.1 s.2.2.1 s.2.2.2.1 s.2.2.2.2 K0 w)) (exitQ i 2 (glacierlaw2_few_p4.dec r (fun s => glacierlaw2_few_b0 s.1 s.2.1 s.2.2.1 s.2.2.2.1 s.2.2.2.2 K0 w)) (False))) | .ret => retQ Try.prog Try.f17.results R .ret [] r w | _ => False) h (by kernel_rfl) ?_
              intro e _ r w h
              cases e with
              | normal =>
                obtain ⟨s, hs, h⟩ := glacierlaw2_few_p5_ok _ _ h
                rw [← hs]
                exact hK7 s r w h
              | exit i =>
                rcases exitQ_elim h with ⟨rfl, h⟩ | ⟨_, h⟩
                · obtain ⟨s, hs, h⟩ := glacierlaw2_few_p1_ok _ _ h
                  rw [← hs]
                  exact (fun s r w h => blockQ_other (id := 2) (j := 0) (by decide) ((fun s r w h => blockQ_other (id := 1) (j := 0) (by decide) (hX2 s r w h)) s r w h)) s r w h
                rcases exitQ_elim h with ⟨rfl, h⟩ | ⟨_, h⟩
                · obtain ⟨s, hs, h⟩ := glacierlaw2_few_p4_ok _ _ h
                  rw [← hs]
                  exact (fun s r w h => blockQ_other (id := 2) (j := 1) (by decide) (hX5 s r w h)) s r w h
                rcases exitQ_elim h with ⟨rfl, h⟩ | ⟨_, h⟩
                · obtain ⟨s, hs, h⟩ := glacierlaw2_few_p4_ok _ _ h
                  rw [← hs]
                  exact hX6 s r w h
                exact h.elim
              | ret => exact h
              | goto i => exact h.elim
              | panic c => exact h.elim
              | outgrown => exact h.elim
            · intro e _ r w hne h
              cases e with
              | normal => exact absurd rfl hne
              | exit i =>
                rcases exitQ_elim h with ⟨rfl, h⟩ | ⟨_, h⟩
                · obtain ⟨s, hs, h⟩ := glacierlaw2_few_p1_ok _ _ h
                  rw [← hs]
                  exact (fun s r w h => blockQ_other (id := 1) (j := 0) (by decide) (hX2 s r w h)) s r w h
                rcases exitQ_elim h with ⟨rfl, h⟩ | ⟨_, h⟩
                · obtain ⟨s, hs, h⟩ := glacierlaw2_few_p4_ok _ _ h
                  rw [← hs]
                  exact hX5 s r w h
                exact h.elim
              | ret => exact h
              | goto i => exact h.elim
              | panic c => exact h.elim
              | outgrown => exact h.elim
        · intro e _ r w hne h
          cases e with
          | normal => exact absurd rfl hne
          | exit i =>
            rcases exitQ_elim h with ⟨rfl, h⟩ | ⟨_, h⟩
            · obtain ⟨s, hs, h⟩ := glacierlaw2_few_p1_ok _ _ h
              rw [← hs]
              exact hX2 s r w h
            exact h.elim
          | ret => exact h
          | goto i => exact h.elim
          | panic c => exact h.elim
          | outgrown => exact h.elim
      · intro e _ r w hne h
        cases e with
        | normal => exact absurd rfl hne
        | exit i => exact h.elim
        | ret => exact h
        | goto i => exact h.elim
        | panic c => exact h.elim
        | outgrown => exact h.elim
  · intro e _ r w hne h
    cases e with
    | normal => exact absurd rfl hne
    | exit i => exact h.elim
    | ret => exact h
    | goto i => exact h.elim
    | panic c => exact h.elim
    | outgrown => exact h.elim

end Go.Proofs.Ytimgbkabfkdabaa
