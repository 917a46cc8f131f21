/- Printed by a program of this claim: the shallow readings of functions, and that they are sound. -/
import Derived.Test.YtimgbkabfkdabaaShNames
namespace Go.Proofs.Ytimgbkabfkdabaa
open Go.Sh

/- glacier/glacierlaw2.step -/
def glacierlaw2_step_b0 (d : Option Addr) (r_ : Option Addr) (x_Op : Int) (x_Name : ByteArray) (x_To : ByteArray) (x_Names : Option Addr) (x_Names_n : Nat) (x_Names_c : Nat) (x_Bytes : Option Addr) (x_Bytes_n : Nat) (x_Bytes_c : Nat) (x_Picks : Option Addr) (x_Picks_n : Nat) (x_Picks_c : Nat) (R : Value → World → Prop) (w : World) : Prop :=
  AL w (.cells #[(.int .i64 x_Op), (.string x_Name), (.string x_To), (.slice x_Names x_Names_n x_Names_c), (.slice x_Bytes x_Bytes_n x_Bytes_c), (.slice x_Picks x_Picks_n x_Picks_c)] 46) fun x w_ =>
  LDI .i64 w_ x fun v =>
  Br (v == 1) (
  LDSl w_ (Addr.add x 4) fun _ v_n _ =>
  Req ((2 : Int) ≠ 0) (
  LetW (World.drew w_) fun w_1 =>
  LDS w_1 (Addr.add x 1) fun v2 =>
  LDSl w_1 (Addr.add x 4) fun v3 v_n1 v_c1 =>
  rRun Try.prog (Instr.sliceAt 30 (.slice v3 v_n1 v_c1) none (some (.int .i64 (IntKind.wrap .i64 (Int.tdiv (v_n : Int) 2)))) none) w_1 fun sr w_2 =>
  mSlice sr fun v4 v_n2 v_c2 =>
  (w_2 = w_1 ∧ 
  LDSl w_1 (Addr.add x 4) fun v5 v_n3 v_c3 =>
  rRun Try.prog (Instr.sliceAt 30 (.slice v5 v_n3 v_c3) (some (.int .i64 (IntKind.wrap .i64 (Int.tdiv (v_n : Int) 2)))) none none) w_1 fun sr1 w_3 =>
  mSlice sr1 fun v6 v_n4 v_c4 =>
  (w_3 = w_1 ∧ 
  LDS w_1 (Addr.add x 1) fun v7 =>
  LDSl w_1 (Addr.add x 4) fun v8 v_n5 v_c5 =>
  AL w_1 (.cells #[(.slice v4 v_n2 v_c2), (.slice v6 v_n4 v_c4)] 30) fun b w_4 =>
  (World.cell? w_4 (Addr.add x 4) = some (.slice v8 v_n5 v_c5) ∧ 
  (World.cell? w_4 (Addr.add x 1) = some (.string v7) ∧ 
  (World.cell? w_4 (Addr.add x 1) = some (.string v2) ∧ 
  CallR Try.prog fn_disk_Disk_Append #[(.pointer d), (.string v2), (.slice (some b) 2 2)] w_4 fun res w_5 =>
  mInt .i64 res fun v9 =>
  (World.cell? w_5 (Addr.add x 4) = some (.slice v8 v_n5 v_c5) ∧ 
  (World.cell? w_5 (Addr.add x 1) = some (.string v7) ∧ 
  CallR Try.prog fn_glacierref2_Disk_Append #[(.pointer r_), (.string v7), (.slice v8 v_n5 v_c5)] w_5 fun res1 w_6 =>
  mInt .i64 res1 fun v10 =>
  R (.bool (v9 == v10)) w_6))))))))) (
  Br (v == 2) (
  LetW (World.drew w_) fun w_7 =>
  LDSl w_7 (Addr.add x 3) fun v11 v_n6 v_c6 =>
  LDSl w_7 (Addr.add x 3) fun v12 v_n7 v_c7 =>
  CallR Try.prog fn_disk_Disk_Sync #[(.pointer d), (.slice v11 v_n6 v_c6)] w_7 fun res2 w_8 =>
  mInt .i64 res2 fun v13 =>
  (World.cell? w_8 (Addr.add x 3) = some (.slice v12 v_n7 v_c7) ∧ 
  CallR Try.prog fn_glacierref2_Disk_Sync #[(.pointer r_), (.slice v12 v_n7 v_c7)] w_8 fun res3 w_9 =>
  mInt .i64 res3 fun v14 =>
  R (.bool (v13 == v14)) w_9)) (
  Br (v == 3) (
  LetW (World.drew w_) fun w_10 =>
  LDS w_10 (Addr.add x 1) fun v15 =>
  LDS w_10 (Addr.add x 2) fun v16 =>
  LDS w_10 (Addr.add x 1) fun v17 =>
  LDS w_10 (Addr.add x 2) fun v18 =>
  CallR Try.prog fn_disk_Disk_Rename #[(.pointer d), (.string v15), (.string v16)] w_10 fun res4 w_11 =>
  mInt .i64 res4 fun v19 =>
  (World.cell? w_11 (Addr.add x 2) = some (.string v18) ∧ 
  (World.cell? w_11 (Addr.add x 1) = some (.string v17) ∧ 
  CallR Try.prog fn_glacierref2_Disk_Rename #[(.pointer r_), (.string v17), (.string v18)] w_11 fun res5 w_12 =>
  mInt .i64 res5 fun v20 =>
  R (.bool (v19 == v20)) w_12))) (
  Br (v == 4) (
  LetW (World.drew w_) fun w_13 =>
  LDSl w_13 (Addr.add x 3) fun v21 v_n8 v_c8 =>
  LDSl w_13 (Addr.add x 3) fun v22 v_n9 v_c9 =>
  CallR Try.prog fn_disk_Disk_Delete #[(.pointer d), (.slice v21 v_n8 v_c8)] w_13 fun res6 w_14 =>
  mInt .i64 res6 fun v23 =>
  (World.cell? w_14 (Addr.add x 3) = some (.slice v22 v_n9 v_c9) ∧ 
  CallR Try.prog fn_glacierref2_Disk_Delete #[(.pointer r_), (.slice v22 v_n9 v_c9)] w_14 fun res7 w_15 =>
  mInt .i64 res7 fun v24 =>
  R (.bool (v23 == v24)) w_15)) (
  Br (v == 5) (
  LDSl w_ (Addr.add x 5) fun v25 v_n10 v_c10 =>
  CallR Try.prog fn_disk_Disk_Crash #[(.pointer d), (.slice v25 v_n10 v_c10)] w_ fun res8 w_16 =>
  mTup res8 fun l =>
  mNil l (
  LDSl w_16 (Addr.add x 5) fun v26 v_n11 v_c11 =>
  CallR Try.prog fn_glacierref2_Disk_Crash #[(.pointer r_), (.slice v26 v_n11 v_c11)] w_16 fun res9 w_17 =>
  mTup res9 fun l1 =>
  mNil l1 (
  R (.bool true) w_17))) (
  Br (v == 6) (
  CallR Try.prog fn_disk_Disk_Lose #[(.pointer d)] w_ fun res10 w_18 =>
  mTup res10 fun l2 =>
  mNil l2 (
  CallR Try.prog fn_glacierref2_Disk_Lose #[(.pointer r_)] w_18 fun res11 w_19 =>
  mTup res11 fun l3 =>
  mNil l3 (
  R (.bool true) w_19))) (
  R (.bool true) w_))))))

theorem glacierlaw2_step_sound (d : Option Addr) (r_ : Option Addr) (x_Op : Int) (x_Name : ByteArray) (x_To : ByteArray) (x_Names : Option Addr) (x_Names_n : Nat) (x_Names_c : Nat) (x_Bytes : Option Addr) (x_Bytes_n : Nat) (x_Bytes_c : Nat) (x_Picks : Option Addr) (x_Picks_n : Nat) (x_Picks_c : Nat) (R : Value → World → Prop) (w : World) (h : glacierlaw2_step_b0 d r_ x_Op x_Name x_To x_Names x_Names_n x_Names_c x_Bytes x_Bytes_n x_Bytes_c x_Picks x_Picks_n x_Picks_c R w) :
    CallR Try.prog fn_glacierlaw2_step #[(.pointer d), (.pointer r_), (.agg #[(.int .i64 x_Op), (.string x_Name), (.string x_To), (.slice x_Names x_Names_n x_Names_c), (.slice x_Bytes x_Bytes_n x_Bytes_c), (.slice x_Picks x_Picks_n x_Picks_c)])] w R := by
  refine CallR_intro (args := [(.pointer d), (.pointer r_), (.agg #[(.int .i64 x_Op), (.string x_Name), (.string x_To), (.slice x_Names x_Names_n x_Names_c), (.slice x_Bytes x_Bytes_n x_Bytes_c), (.slice x_Picks x_Picks_n x_Picks_c)])]) Try.func19 rfl (Nat.le_of_ble_eq_true (by kernel_rfl)) ?_
  refine Wp_leaf_end (Q0 := fun e _ r w => match e with | .normal => retQ Try.prog Try.f19.results R .normal [] r w | .exit _ => False | .ret => retQ Try.prog Try.f19.results R .ret [] r w | _ => False) h (by kernel_rfl) ?_
  intro e _ r w h
  cases e with
  | normal => exact h
  | exit i => exact h.elim
  | ret => exact h
  | goto i => exact h.elim
  | panic c => exact h.elim
  | outgrown => exact h.elim

/- glacier/glacierlaw2.play -/
def glacierlaw2_play_b0 (R : Value → World → Prop) (w : World) : Prop :=
  R (.tuple #[]) w

def glacierlaw2_play_b1 (d2 : Option Addr) (l5 : Option Addr) (l_n2 : Nat) (l_c2 : Nat) (r_1 : Option Addr) (i1 : Int) (K0 : ((Option Addr) × (Option Addr) × Nat × Nat × (Option Addr) × Int) → World → Prop) (R : Value → World → Prop) (w : World) : Prop :=
  Br (decide (i1 < (l_n2 : Int))) (
  IX l5 l_n2 i1 6 fun a =>
  LDI .i64 w a fun Op =>
  LDS w (Addr.add a 1) fun Name =>
  LDS w (Addr.add a 2) fun To =>
  LDSl w (Addr.add a 3) fun Names Names_n Names_c =>
  LDSl w (Addr.add a 4) fun Bytes Bytes_n Bytes_c =>
  LDSl w (Addr.add a 5) fun Picks Picks_n Picks_c =>
  CallR Try.prog fn_glacierlaw2_step #[(.pointer d2), (.pointer r_1), (.agg #[(.int .i64 Op), (.string Name), (.string To), (.slice Names Names_n Names_c), (.slice Bytes Bytes_n Bytes_c), (.slice Picks Picks_n Picks_c)])] w fun res1 w_1 =>
  mBool res1 fun _ =>
  K0 (d2, l5, l_n2, l_c2, r_1, IntKind.wrap .i64 (i1 + 1)) w_1) (
  glacierlaw2_play_b0 R w)

def glacierlaw2_play_b2 (d1 : Option Addr) (l4 : Option Addr) (l_n1 : Nat) (l_c1 : Nat) (r_ : Option Addr) (i : Int) (R : Value → World → Prop) (w : World) : Prop :=
  LoopS (σ := (Option Addr) × (Option Addr) × Nat × Nat × (Option Addr) × Int) (fun s w K0 =>
  glacierlaw2_play_b1 s.1 s.2.1 s.2.2.1 s.2.2.2.1 s.2.2.2.2.1 s.2.2.2.2.2 K0 R w) (d1, l4, l_n1, l_c1, r_, i) w

def glacierlaw2_play_b3 (d : Option Addr) (l : Option Addr) (l_n : Nat) (l_c : Nat) (R : Value → World → Prop) (w : World) : Prop :=
  CallR Try.prog fn_glacierref2_New #[(.int .i64 1048576)] w fun res w_ =>
  mTup res fun l1 =>
  mCons l1 fun v l2 =>
  mPtr v fun v1 =>
  mCons l2 fun v2 l3 =>
  mInt .i64 v2 fun _ =>
  mNil l3 (
  glacierlaw2_play_b2 d l l_n l_c v1 0 R w_)

def glacierlaw2_play_p0 : Point ((Option Addr) × (Option Addr) × Nat × Nat × (Option Addr) × Int) := { slots := fun s => [(0, (.pointer s.1)), (1, (.slice s.2.1 s.2.2.1 s.2.2.2.1)), (4, (.pointer s.2.2.2.2.1)), (6, (.int .i64 s.2.2.2.2.2))], dec := fun r K => mPtr (r 0) fun x => mSlice (r 1) fun x1 x2 x3 => mPtr (r 4) fun x4 => mInt .i64 (r 6) fun x5 => K (x, x1, x2, x3, x4, x5) }
theorem glacierlaw2_play_p0_ok : glacierlaw2_play_p0.ok := by
  intro r K h
  unfold glacierlaw2_play_p0 at h
  obtain ⟨x, e0, h⟩ := mPtr_elim h
  obtain ⟨x1, x2, x3, e1, h⟩ := mSlice_elim h
  obtain ⟨x4, e2, h⟩ := mPtr_elim h
  obtain ⟨x5, e3, h⟩ := mInt_elim h
  exact ⟨(x, x1, x2, x3, x4, x5), regsOf_self (L := [(0, (.pointer x)), (1, (.slice x1 x2 x3)), (4, (.pointer x4)), (6, (.int .i64 x5))]) (List.forall_mem_cons.2 ⟨e0, List.forall_mem_cons.2 ⟨e1, List.forall_mem_cons.2 ⟨e2, List.forall_mem_cons.2 ⟨e3, List.forall_mem_nil _⟩⟩⟩⟩), h⟩
theorem glacierlaw2_play_p0_re (s : (Option Addr) × (Option Addr) × Nat × Nat × (Option Addr) × Int) (r : Regs) (K : ((Option Addr) × (Option Addr) × Nat × Nat × (Option Addr) × Int) → Prop) (h : K s) : glacierlaw2_play_p0.dec (regsOf (glacierlaw2_play_p0.slots s) r) K := by
  obtain ⟨x6, x7, x8, x9, x10, x11⟩ := s
  exact cast (show K (x6, x7, x8, x9, x10, x11) = glacierlaw2_play_p0.dec (regsOf (glacierlaw2_play_p0.slots (x6, x7, x8, x9, x10, x11)) r) K by kernel_rfl) h

def glacierlaw2_play_p1 : Point (Unit) := { slots := fun _ => [], dec := fun _ K => K () }
theorem glacierlaw2_play_p1_ok : glacierlaw2_play_p1.ok := by
  intro r K h
  unfold glacierlaw2_play_p1 at h
  exact ⟨(), regsOf_self (L := []) (List.forall_mem_nil _), h⟩
theorem glacierlaw2_play_p1_re (s : Unit) (r : Regs) (K : Unit → Prop) (h : K s) : glacierlaw2_play_p1.dec (regsOf (glacierlaw2_play_p1.slots s) r) K := by
  exact cast (show K () = glacierlaw2_play_p1.dec (regsOf (glacierlaw2_play_p1.slots ()) r) K by kernel_rfl) h

theorem glacierlaw2_play_sound (d : Option Addr) (l : Option Addr) (l_n : Nat) (l_c : Nat) (R : Value → World → Prop) (w : World) (h : glacierlaw2_play_b3 d l l_n l_c R w) :
    CallR Try.prog fn_glacierlaw2_play #[(.pointer d), (.slice l l_n l_c)] w R := by
  refine CallR_intro (args := [(.pointer d), (.slice l l_n l_c)]) Try.func25 rfl (Nat.le_of_ble_eq_true (by kernel_rfl)) ?_
  have hEnd : ∀ (s : Unit) (r : Regs) (w : World), glacierlaw2_play_b0 R w → retQ Try.prog Try.f25.results R .normal [] (regsOf (glacierlaw2_play_p1.slots s) r) w := by
    intro s r w h
    cases s
    have h : glacierlaw2_play_b0 R w := h
    exact cast (show (glacierlaw2_play_b0 R w) = retQ Try.prog Try.f25.results R .normal [] (regsOf (glacierlaw2_play_p1.slots ()) r) w by kernel_rfl) h
  refine Wp_glue glacierlaw2_play_p0 (fun s w => glacierlaw2_play_b2 s.1 s.2.1 s.2.2.1 s.2.2.2.1 s.2.2.2.2.1 s.2.2.2.2.2 R w) [_, _] (Q0 := fun e _ r w => match e with | .normal => glacierlaw2_play_p0.dec r (fun s => glacierlaw2_play_b2 s.1 s.2.1 s.2.2.1 s.2.2.2.1 s.2.2.2.2.1 s.2.2.2.2.2 R w) | .exit _ => False | .ret => retQ Try.prog Try.f25.results R .ret [] r w | _ => False) h (by kernel_rfl) (fun s r w h => ?_) glacierlaw2_play_p0_ok (fun _ _ _ h => h) ?_
  · obtain ⟨d1, l4, l_n1, l_c1, r_, i⟩ := s
    have h : glacierlaw2_play_b2 d1 l4 l_n1 l_c1 r_ i R w := h
    refine Wp_block_via glacierlaw2_play_p1 (fun _ w => glacierlaw2_play_b0 R w) hEnd (fun hX1 => ?_)
    refine Wp_loop (p := glacierlaw2_play_p0) glacierlaw2_play_p0_ok (fun s r w K0 h => ?_) h
    obtain ⟨d2, l5, l_n2, l_c2, r_1, i1⟩ := s
    have h : glacierlaw2_play_b1 d2 l5 l_n2 l_c2 r_1 i1 K0 R w := h
    have hK2 := fun (s : (Option Addr) × (Option Addr) × Nat × Nat × (Option Addr) × Int) (r : Regs) (w : World) (h : K0 s w) => glacierlaw2_play_p0_re s r (fun s => K0 s w) h
    refine Wp_leaf_end (Q0 := fun e _ r w => match e with | .normal => glacierlaw2_play_p0.dec r (fun s => K0 s w) | .exit i => exitQ i 0 (glacierlaw2_play_p1.dec r (fun _ => glacierlaw2_play_b0 R w)) (False) | .ret => retQ Try.prog Try.f25.results R .ret [] r w | _ => False) h (by kernel_rfl) ?_
    intro e _ r w h
    cases e with
    | normal =>
      obtain ⟨s, hs, h⟩ := glacierlaw2_play_p0_ok _ _ h
      rw [← hs]
      exact hK2 s r w h
    | exit i =>
      rcases exitQ_elim h with ⟨rfl, h⟩ | ⟨_, h⟩
      · obtain ⟨s, hs, h⟩ := glacierlaw2_play_p1_ok _ _ h
        rw [← hs]
        exact hX1 s r w h
      exact h.elim
    | ret => exact h
    | goto i => exact h.elim
    | panic c => exact h.elim
    | outgrown => exact h.elim
  · intro e _ r w hne h
    cases e with
    | normal => exact absurd rfl hne
    | exit i => exact h.elim
    | ret => exact h
    | goto i => exact h.elim
    | panic c => exact h.elim
    | outgrown => exact h.elim

/- glacier/glacierlaw2.same -/
def glacierlaw2_same_b0 (d : Option Addr) (l : Option Addr) (l_n : Nat) (l_c : Nat) (R : Value → World → Prop) (w : World) : Prop :=
  CallR Try.prog fn_disk_New #[(.int .i64 1048576)] w fun res w_ =>
  mTup res fun l1 =>
  mCons l1 fun v l2 =>
  mPtr v fun v1 =>
  mCons l2 fun v2 l3 =>
  mInt .i64 v2 fun _ =>
  mNil l3 (
  CallR Try.prog fn_glacierlaw2_play #[(.pointer v1), (.slice l l_n l_c)] w_ fun res1 w_1 =>
  mTup res1 fun l4 =>
  mNil l4 (
  CallR Try.prog fn_glacierlaw2_equal #[(.pointer d), (.pointer v1)] w_1 fun res2 w_2 =>
  mBool res2 fun v4 =>
  R (.bool v4) w_2))

theorem glacierlaw2_same_sound (d : Option Addr) (l : Option Addr) (l_n : Nat) (l_c : Nat) (R : Value → World → Prop) (w : World) (h : glacierlaw2_same_b0 d l l_n l_c R w) :
    CallR Try.prog fn_glacierlaw2_same #[(.pointer d), (.slice l l_n l_c)] w R := by
  refine CallR_intro (args := [(.pointer d), (.slice l l_n l_c)]) Try.func23 rfl (Nat.le_of_ble_eq_true (by kernel_rfl)) ?_
  refine Wp_leaf_end (Q0 := fun e _ r w => match e with | .normal => retQ Try.prog Try.f23.results R .normal [] r w | .exit _ => False | .ret => retQ Try.prog Try.f23.results R .ret [] r w | _ => False) h (by kernel_rfl) ?_
  intro e _ r w h
  cases e with
  | normal => exact h
  | exit i => exact h.elim
  | ret => exact h
  | goto i => exact h.elim
  | panic c => exact h.elim
  | outgrown => exact h.elim

/- glacier/glacierlaw2.equal -/
def glacierlaw2_equal_b0 (R : Value → World → Prop) (w : World) : Prop :=
  R (.bool true) w

def glacierlaw2_equal_b1 (a3 : Option Addr) (b3 : Option Addr) (l2 : Option Addr) (l_n2 : Nat) (l_c2 : Nat) (m2 : Option Addr) (m_n2 : Nat) (m_c2 : Nat) (i1 : Int) (K0 : ((Option Addr) × (Option Addr) × (Option Addr) × Nat × Nat × (Option Addr) × Nat × Nat × Int) → World → Prop) (R : Value → World → Prop) (w : World) : Prop :=
  Br (decide (i1 < (l_n2 : Int))) (
  IX l2 l_n2 i1 1 fun a4 =>
  LDS w a4 fun v4 =>
  CallR Try.prog fn_disk_Disk_Read #[(.pointer a3), (.string v4)] w fun res4 w_4 =>
  mTup res4 fun l3 =>
  mCons l3 fun v5 l4 =>
  mSlice v5 fun v6 v_n2 v_c2 =>
  mCons l4 fun v7 l5 =>
  mInt .i64 v7 fun _ =>
  mNil l5 (
  IX l2 l_n2 i1 1 fun a5 =>
  LDS w_4 a5 fun v9 =>
  CallR Try.prog fn_disk_Disk_Read #[(.pointer b3), (.string v9)] w_4 fun res5 w_5 =>
  mTup res5 fun l6 =>
  mCons l6 fun v10 l7 =>
  mSlice v10 fun v11 v_n3 v_c3 =>
  mCons l7 fun v12 l8 =>
  mInt .i64 v12 fun _ =>
  mNil l8 (
  LetW (World.drew w_5) fun w_6 =>
  IX l2 l_n2 i1 1 fun a6 =>
  LDS w_6 a6 fun v14 =>
  IX m2 m_n2 i1 1 fun a7 =>
  LDS w_6 a7 fun v15 =>
  Br (!(ByteArray.toList v14 == ByteArray.toList v15)) (
  R (.bool false) w_6) (
  rRun Try.prog (convert 30 9 (.slice v6 v_n2 v_c2)) w_6 fun sr w_7 =>
  mStr sr fun v16 =>
  (w_7 = w_6 ∧ 
  rRun Try.prog (convert 30 9 (.slice v11 v_n3 v_c3)) w_6 fun sr1 w_8 =>
  mStr sr1 fun v17 =>
  (w_8 = w_6 ∧ 
  Br (!(ByteArray.toList v16 == ByteArray.toList v17)) (
  R (.bool false) w_6) (
  IX l2 l_n2 i1 1 fun a8 =>
  LDS w_6 a8 fun v18 =>
  IX l2 l_n2 i1 1 fun a9 =>
  LDS w_6 a9 fun v19 =>
  CallR Try.prog fn_disk_Disk_Unsynced #[(.pointer a3), (.string v18)] w_6 fun res6 w_9 =>
  mInt .i64 res6 fun v20 =>
  (World.cell? w_9 a9 = some (.string v19) ∧ 
  CallR Try.prog fn_disk_Disk_Unsynced #[(.pointer b3), (.string v19)] w_9 fun res7 w_10 =>
  mInt .i64 res7 fun v21 =>
  Br (v20 != v21) (
  R (.bool false) w_10) (
  K0 (a3, b3, l2, l_n2, l_c2, m2, m_n2, m_c2, IntKind.wrap .i64 (i1 + 1)) w_10))))))))) (
  glacierlaw2_equal_b0 R w)

def glacierlaw2_equal_b2 (a2 : Option Addr) (b2 : Option Addr) (l1 : Option Addr) (l_n1 : Nat) (l_c1 : Nat) (m1 : Option Addr) (m_n1 : Nat) (m_c1 : Nat) (i : Int) (R : Value → World → Prop) (w : World) : Prop :=
  LoopS (σ := (Option Addr) × (Option Addr) × (Option Addr) × Nat × Nat × (Option Addr) × Nat × Nat × Int) (fun s w K0 =>
  glacierlaw2_equal_b1 s.1 s.2.1 s.2.2.1 s.2.2.2.1 s.2.2.2.2.1 s.2.2.2.2.2.1 s.2.2.2.2.2.2.1 s.2.2.2.2.2.2.2.1 s.2.2.2.2.2.2.2.2 K0 R w) (a2, b2, l1, l_n1, l_c1, m1, m_n1, m_c1, i) w

def glacierlaw2_equal_b3 (a1 : Option Addr) (b1 : Option Addr) (l : Option Addr) (l_n : Nat) (l_c : Nat) (m : Option Addr) (m_n : Nat) (m_c : Nat) (R : Value → World → Prop) (w : World) : Prop :=
  glacierlaw2_equal_b2 a1 b1 l l_n l_c m m_n m_c 0 R w

def glacierlaw2_equal_b4 (a : Option Addr) (b : Option Addr) (R : Value → World → Prop) (w : World) : Prop :=
  CallR Try.prog fn_disk_Disk_List #[(.pointer a), (.slice none 0 0)] w fun res w_ =>
  mSlice res fun v v_n v_c =>
  CallR Try.prog fn_disk_Disk_List #[(.pointer b), (.slice none 0 0)] w_ fun res1 w_1 =>
  mSlice res1 fun v1 v_n1 v_c1 =>
  Br ((v_n : Int) != (v_n1 : Int)) (
  R (.bool false) w_1) (
  CallR Try.prog fn_disk_Disk_Born #[(.pointer a)] w_1 fun res2 w_2 =>
  mInt .i64 res2 fun v2 =>
  CallR Try.prog fn_disk_Disk_Born #[(.pointer b)] w_2 fun res3 w_3 =>
  mInt .i64 res3 fun v3 =>
  Br (v2 != v3) (
  R (.bool false) w_3) (
  glacierlaw2_equal_b3 a b v v_n v_c v1 v_n1 v_c1 R w_3))

def glacierlaw2_equal_p0 : Point ((Option Addr) × (Option Addr) × (Option Addr) × Nat × Nat × (Option Addr) × Nat × Nat) := { slots := fun s => [(0, (.pointer s.1)), (1, (.pointer s.2.1)), (5, (.slice s.2.2.1 s.2.2.2.1 s.2.2.2.2.1)), (6, (.slice s.2.2.2.2.2.1 s.2.2.2.2.2.2.1 s.2.2.2.2.2.2.2))], dec := fun r K => mPtr (r 0) fun x => mPtr (r 1) fun x1 => mSlice (r 5) fun x2 x3 x4 => mSlice (r 6) fun x5 x6 x7 => K (x, x1, x2, x3, x4, x5, x6, x7) }
theorem glacierlaw2_equal_p0_ok : glacierlaw2_equal_p0.ok := by
  intro r K h
  unfold glacierlaw2_equal_p0 at h
  obtain ⟨x, e0, h⟩ := mPtr_elim h
  obtain ⟨x1, e1, h⟩ := mPtr_elim h
  obtain ⟨x2, x3, x4, e2, h⟩ := mSlice_elim h
  obtain ⟨x5, x6, x7, e3, h⟩ := mSlice_elim h
  exact ⟨(x, x1, x2, x3, x4, x5, x6, x7), regsOf_self (L := [(0, (.pointer x)), (1, (.pointer x1)), (5, (.slice x2 x3 x4)), (6, (.slice x5 x6 x7))]) (List.forall_mem_cons.2 ⟨e0, List.forall_mem_cons.2 ⟨e1, List.forall_mem_cons.2 ⟨e2, List.forall_mem_cons.2 ⟨e3, List.forall_mem_nil _⟩⟩⟩⟩), h⟩
theorem glacierlaw2_equal_p0_re (s : (Option Addr) × (Option Addr) × (Option Addr) × Nat × Nat × (Option Addr) × Nat × Nat) (r : Regs) (K : ((Option Addr) × (Option Addr) × (Option Addr) × Nat × Nat × (Option Addr) × Nat × Nat) → Prop) (h : K s) : glacierlaw2_equal_p0.dec (regsOf (glacierlaw2_equal_p0.slots s) r) K := by
  obtain ⟨x8, x9, x10, x11, x12, x13, x14, x15⟩ := s
  exact cast (show K (x8, x9, x10, x11, x12, x13, x14, x15) = glacierlaw2_equal_p0.dec (regsOf (glacierlaw2_equal_p0.slots (x8, x9, x10, x11, x12, x13, x14, x15)) r) K by kernel_rfl) h

def glacierlaw2_equal_p1 : Point (Unit) := { slots := fun _ => [], dec := fun _ K => K () }
theorem glacierlaw2_equal_p1_ok : glacierlaw2_equal_p1.ok := by
  intro r K h
  unfold glacierlaw2_equal_p1 at h
  exact ⟨(), regsOf_self (L := []) (List.forall_mem_nil _), h⟩
theorem glacierlaw2_equal_p1_re (s : Unit) (r : Regs) (K : Unit → Prop) (h : K s) : glacierlaw2_equal_p1.dec (regsOf (glacierlaw2_equal_p1.slots s) r) K := by
  exact cast (show K () = glacierlaw2_equal_p1.dec (regsOf (glacierlaw2_equal_p1.slots ()) r) K by kernel_rfl) h

def glacierlaw2_equal_p2 : Point ((Option Addr) × (Option Addr) × (Option Addr) × Nat × Nat × (Option Addr) × Nat × Nat × Int) := { slots := fun s => [(0, (.pointer s.1)), (1, (.pointer s.2.1)), (5, (.slice s.2.2.1 s.2.2.2.1 s.2.2.2.2.1)), (6, (.slice s.2.2.2.2.2.1 s.2.2.2.2.2.2.1 s.2.2.2.2.2.2.2.1)), (7, (.int .i64 s.2.2.2.2.2.2.2.2))], dec := fun r K => mPtr (r 0) fun x => mPtr (r 1) fun x1 => mSlice (r 5) fun x2 x3 x4 => mSlice (r 6) fun x5 x6 x7 => mInt .i64 (r 7) fun x8 => K (x, x1, x2, x3, x4, x5, x6, x7, x8) }
theorem glacierlaw2_equal_p2_ok : glacierlaw2_equal_p2.ok := by
  intro r K h
  unfold glacierlaw2_equal_p2 at h
  obtain ⟨x, e0, h⟩ := mPtr_elim h
  obtain ⟨x1, e1, h⟩ := mPtr_elim h
  obtain ⟨x2, x3, x4, e2, h⟩ := mSlice_elim h
  obtain ⟨x5, x6, x7, e3, h⟩ := mSlice_elim h
  obtain ⟨x8, e4, h⟩ := mInt_elim h
  exact ⟨(x, x1, x2, x3, x4, x5, x6, x7, x8), regsOf_self (L := [(0, (.pointer x)), (1, (.pointer x1)), (5, (.slice x2 x3 x4)), (6, (.slice x5 x6 x7)), (7, (.int .i64 x8))]) (List.forall_mem_cons.2 ⟨e0, List.forall_mem_cons.2 ⟨e1, List.forall_mem_cons.2 ⟨e2, List.forall_mem_cons.2 ⟨e3, List.forall_mem_cons.2 ⟨e4, List.forall_mem_nil _⟩⟩⟩⟩⟩), h⟩
theorem glacierlaw2_equal_p2_re (s : (Option Addr) × (Option Addr) × (Option Addr) × Nat × Nat × (Option Addr) × Nat × Nat × Int) (r : Regs) (K : ((Option Addr) × (Option Addr) × (Option Addr) × Nat × Nat × (Option Addr) × Nat × Nat × Int) → Prop) (h : K s) : glacierlaw2_equal_p2.dec (regsOf (glacierlaw2_equal_p2.slots s) r) K := by
  obtain ⟨x9, x10, x11, x12, x13, x14, x15, x16, x17⟩ := s
  exact cast (show K (x9, x10, x11, x12, x13, x14, x15, x16, x17) = glacierlaw2_equal_p2.dec (regsOf (glacierlaw2_equal_p2.slots (x9, x10, x11, x12, x13, x14, x15, x16, x17)) r) K by kernel_rfl) h

theorem glacierlaw2_equal_sound (a : Option Addr) (b : Option Addr) (R : Value → World → Prop) (w : World) (h : glacierlaw2_equal_b4 a b R w) :
    CallR Try.prog fn_glacierlaw2_equal #[(.pointer a), (.pointer b)] w R := by
  refine CallR_intro (args := [(.pointer a), (.pointer b)]) Try.func26 rfl (Nat.le_of_ble_eq_true (by kernel_rfl)) ?_
  refine Wp_glue glacierlaw2_equal_p0 (fun s w => glacierlaw2_equal_b3 s.1 s.2.1 s.2.2.1 s.2.2.2.1 s.2.2.2.2.1 s.2.2.2.2.2.1 s.2.2.2.2.2.2.1 s.2.2.2.2.2.2.2 R w) [_, _, _, _] (Q0 := fun e _ r w => match e with | .normal => glacierlaw2_equal_p0.dec r (fun s => glacierlaw2_equal_b3 s.1 s.2.1 s.2.2.1 s.2.2.2.1 s.2.2.2.2.1 s.2.2.2.2.2.1 s.2.2.2.2.2.2.1 s.2.2.2.2.2.2.2 R w) | .exit _ => False | .ret => retQ Try.prog Try.f26.results R .ret [] r w | _ => False) h (by kernel_rfl) (fun s r w h => ?_) glacierlaw2_equal_p0_ok (fun _ _ _ h => h) ?_
  · obtain ⟨a1, b1, l, l_n, l_c, m, m_n, m_c⟩ := s
    have h : glacierlaw2_equal_b3 a1 b1 l l_n l_c m m_n m_c R w := h
    refine Wp_seq_via glacierlaw2_equal_p1 (fun _ w => glacierlaw2_equal_b0 R w) (fun s r w h => ?_) (fun hN1 => ?_)
    · cases s
      have h : glacierlaw2_equal_b0 R w := h
      refine Wp_leaf_end (Q0 := fun e _ r w => match e with | .normal => retQ Try.prog Try.f26.results R .normal [] r w | .exit _ => False | .ret => retQ Try.prog Try.f26.results R .ret [] r w | _ => False) h (by kernel_rfl) ?_
      intro e _ r w h
      cases e with
      | normal => exact h
      | exit i => exact h.elim
      | ret => exact h
      | goto i => exact h.elim
      | panic c => exact h.elim
      | outgrown => exact h.elim
    · refine Wp_glue glacierlaw2_equal_p2 (fun s w => glacierlaw2_equal_b2 s.1 s.2.1 s.2.2.1 s.2.2.2.1 s.2.2.2.2.1 s.2.2.2.2.2.1 s.2.2.2.2.2.2.1 s.2.2.2.2.2.2.2.1 s.2.2.2.2.2.2.2.2 R w) [_] (Q0 := fun e _ r w => match e with | .normal => glacierlaw2_equal_p2.dec r (fun s => glacierlaw2_equal_b2 s.1 s.2.1 s.2.2.1 s.2.2.2.1 s.2.2.2.2.1 s.2.2.2.2.2.1 s.2.2.2.2.2.2.1 s.2.2.2.2.2.2.2.1 s.2.2.2.2.2.2.2.2 R w) | .exit _ => False | .ret => retQ Try.prog Try.f26.results R .ret [] r w | _ => False) h (by kernel_rfl) (fun s r w h => ?_) glacierlaw2_equal_p2_ok (fun _ _ _ h => h) ?_
      · obtain ⟨a2, b2, l1, l_n1, l_c1, m1, m_n1, m_c1, i⟩ := s
        have h : glacierlaw2_equal_b2 a2 b2 l1 l_n1 l_c1 m1 m_n1 m_c1 i R w := h
        refine Wp_block_via glacierlaw2_equal_p1 (fun _ w => glacierlaw2_equal_b0 R w) hN1 (fun hX2 => ?_)
        refine Wp_loop (p := glacierlaw2_equal_p2) glacierlaw2_equal_p2_ok (fun s r w K0 h => ?_) h
        obtain ⟨a3, b3, l2, l_n2, l_c2, m2, m_n2, m_c2, i1⟩ := s
        have h : glacierlaw2_equal_b1 a3 b3 l2 l_n2 l_c2 m2 m_n2 m_c2 i1 K0 R w := h
        have hK3 := fun (s : (Option Addr) × (Option Addr) × (Option Addr) × Nat × Nat × (Option Addr) × Nat × Nat × Int) (r : Regs) (w : World) (h : K0 s w) => glacierlaw2_equal_p2_re s r (fun s => K0 s w) h
        refine Wp_leaf_end (Q0 := fun e _ r w => match e with | .normal => glacierlaw2_equal_p2.dec r (fun s => K0 s w) | .exit i => exitQ i 0 (glacierlaw2_equal_p1.dec r (fun _ => glacierlaw2_equal_b0 R w)) (False) | .ret => retQ Try.prog Try.f26.results R .ret [] r w | _ => False) h (by kernel_rfl) ?_
        intro e _ r w h
        cases e with
        | normal =>
          obtain ⟨s, hs, h⟩ := glacierlaw2_equal_p2_ok _ _ h
          rw [← hs]
          exact hK3 s r w h
        | exit i =>
          rcases exitQ_elim h with ⟨rfl, h⟩ | ⟨_, h⟩
          · obtain ⟨s, hs, h⟩ := glacierlaw2_equal_p1_ok _ _ h
            rw [← hs]
            exact hX2 s r w h
          exact h.elim
        | ret => exact h
        | goto i => exact h.elim
        | panic c => exact h.elim
        | outgrown => exact h.elim
      · intro e _ r w hne h
        cases e with
        | normal => exact absurd rfl hne
        | exit i => exact h.elim
        | ret => exact h
        | goto i => exact h.elim
        | panic c => exact h.elim
        | outgrown => exact h.elim
  · intro e _ r w hne h
    cases e with
    | normal => exact absurd rfl hne
    | exit i => exact h.elim
    | ret => exact h
    | goto i => exact h.elim
    | panic c => exact h.elim
    | outgrown => exact h.elim

/- glacier/glacierlaw2.Alike -/
def glacierlaw2_Alike_b0 (R : Value → World → Prop) (w : World) : Prop :=
  R (.bool true) w

def glacierlaw2_Alike_b1 (d3 : Option Addr) (r_3 : Option Addr) (l2 : Option Addr) (l_n2 : Nat) (l_c2 : Nat) (i1 : Int) (K0 : ((Option Addr) × (Option Addr) × (Option Addr) × Nat × Nat × Int) → World → Prop) (R : Value → World → Prop) (w : World) : Prop :=
  Br (decide (i1 < (l_n2 : Int))) (
  IX l2 l_n2 i1 1 fun a =>
  LDS w a fun v6 =>
  CallR Try.prog fn_disk_Disk_Read #[(.pointer d3), (.string v6)] w fun res4 w_5 =>
  mTup res4 fun l3 =>
  mCons l3 fun v7 l4 =>
  mSlice v7 fun v8 v_n2 v_c2 =>
  mCons l4 fun v9 l5 =>
  mInt .i64 v9 fun v10 =>
  mNil l5 (
  LetW (World.drew w_5) fun w_6 =>
  IX l2 l_n2 i1 1 fun a1 =>
  LDS w_6 a1 fun v11 =>
  NN r_3 fun p2 =>
  LDSl w_6 (Addr.add p2 1) fun v12 v_n3 _ =>
  IX v12 v_n3 i1 3 fun a2 =>
  LDS w_6 a2 fun v13 =>
  Br (!(ByteArray.toList v11 == ByteArray.toList v13)) (
  R (.bool false) w_6) (
  Br (v10 != 0) (
  R (.bool false) w_6) (
  rRun Try.prog (convert 30 9 (.slice v8 v_n2 v_c2)) w_6 fun sr w_7 =>
  mStr sr fun v14 =>
  (w_7 = w_6 ∧ 
  NN r_3 fun p3 =>
  LDSl w_6 (Addr.add p3 1) fun v15 v_n4 _ =>
  IX v15 v_n4 i1 3 fun a3 =>
  LDSl w_6 (Addr.add a3 1) fun v16 v_n5 v_c5 =>
  rRun Try.prog (convert 30 9 (.slice v16 v_n5 v_c5)) w_6 fun sr1 w_8 =>
  mStr sr1 fun v17 =>
  (w_8 = w_6 ∧ 
  Br (!(ByteArray.toList v14 == ByteArray.toList v17)) (
  R (.bool false) w_6) (
  IX l2 l_n2 i1 1 fun a4 =>
  LDS w_6 a4 fun v18 =>
  IX l2 l_n2 i1 1 fun a5 =>
  LDS w_6 a5 fun v19 =>
  CallR Try.prog fn_disk_Disk_Unsynced #[(.pointer d3), (.string v18)] w_6 fun res5 w_9 =>
  mInt .i64 res5 fun v20 =>
  (World.cell? w_9 a5 = some (.string v19) ∧ 
  CallR Try.prog fn_glacierref2_Disk_Unsynced #[(.pointer r_3), (.string v19)] w_9 fun res6 w_10 =>
  mInt .i64 res6 fun v21 =>
  Br (v20 != v21) (
  R (.bool false) w_10) (
  K0 (d3, r_3, l2, l_n2, l_c2, IntKind.wrap .i64 (i1 + 1)) w_10))))))))) (
  glacierlaw2_Alike_b0 R w)

def glacierlaw2_Alike_b2 (d2 : Option Addr) (r_2 : Option Addr) (l1 : Option Addr) (l_n1 : Nat) (l_c1 : Nat) (i : Int) (R : Value → World → Prop) (w : World) : Prop :=
  LoopS (σ := (Option Addr) × (Option Addr) × (Option Addr) × Nat × Nat × Int) (fun s w K0 =>
  glacierlaw2_Alike_b1 s.1 s.2.1 s.2.2.1 s.2.2.2.1 s.2.2.2.2.1 s.2.2.2.2.2 K0 R w) (d2, r_2, l1, l_n1, l_c1, i) w

def glacierlaw2_Alike_b3 (d1 : Option Addr) (r_1 : Option Addr) (l : Option Addr) (l_n : Nat) (l_c : Nat) (R : Value → World → Prop) (w : World) : Prop :=
  glacierlaw2_Alike_b2 d1 r_1 l l_n l_c 0 R w

def glacierlaw2_Alike_b4 (d : Option Addr) (r_ : Option Addr) (R : Value → World → Prop) (w : World) : Prop :=
  CallR Try.prog fn_disk_Disk_List #[(.pointer d), (.slice none 0 0)] w fun res w_ =>
  mSlice res fun v v_n v_c =>
  LetW (World.drew w_) fun w_1 =>
  (w_1 = w_1 ∧ 
  NN r_ fun p =>
  LDSl w_1 (Addr.add p 1) fun _ v_n1 _ =>
  (w_1 = w_1 ∧ 
  Br ((v_n : Int) != (v_n1 : Int)) (
  R (.bool false) w_1) (
  CallR Try.prog fn_disk_Disk_Used #[(.pointer d)] w_1 fun res1 w_2 =>
  mInt .i64 res1 fun v2 =>
  CallR Try.prog fn_glacierref2_Disk_Used #[(.pointer r_)] w_2 fun res2 w_3 =>
  mInt .i64 res2 fun v3 =>
  Br (v2 != v3) (
  R (.bool false) w_3) (
  NN r_ fun p1 =>
  LDI .i64 w_3 (Addr.add p1 2) fun v4 =>
  CallR Try.prog fn_disk_Disk_Born #[(.pointer d)] w_3 fun res3 w_4 =>
  mInt .i64 res3 fun v5 =>
  (World.cell? w_4 (Addr.add p1 2) = some (.int .i64 v4) ∧ 
  Br (v5 != v4) (
  R (.bool false) w_4) (
  glacierlaw2_Alike_b3 d r_ v v_n v_c R w_4))))))

def glacierlaw2_Alike_p0 : Point ((Option Addr) × (Option Addr) × (Option Addr) × Nat × Nat) := { slots := fun s => [(0, (.pointer s.1)), (1, (.pointer s.2.1)), (5, (.slice s.2.2.1 s.2.2.2.1 s.2.2.2.2))], dec := fun r K => mPtr (r 0) fun x => mPtr (r 1) fun x1 => mSlice (r 5) fun x2 x3 x4 => K (x, x1, x2, x3, x4) }
theorem glacierlaw2_Alike_p0_ok : glacierlaw2_Alike_p0.ok := by
  intro r K h
  unfold glacierlaw2_Alike_p0 at h
  obtain ⟨x, e0, h⟩ := mPtr_elim h
  obtain ⟨x1, e1, h⟩ := mPtr_elim h
  obtain ⟨x2, x3, x4, e2, h⟩ := mSlice_elim h
  exact ⟨(x, x1, x2, x3, x4), regsOf_self (L := [(0, (.pointer x)), (1, (.pointer x1)), (5, (.slice x2 x3 x4))]) (List.forall_mem_cons.2 ⟨e0, List.forall_mem_cons.2 ⟨e1, List.forall_mem_cons.2 ⟨e2, List.forall_mem_nil _⟩⟩⟩), h⟩
theorem glacierlaw2_Alike_p0_re (s : (Option Addr) × (Option Addr) × (Option Addr) × Nat × Nat) (r : Regs) (K : ((Option Addr) × (Option Addr) × (Option Addr) × Nat × Nat) → Prop) (h : K s) : glacierlaw2_Alike_p0.dec (regsOf (glacierlaw2_Alike_p0.slots s) r) K := by
  obtain ⟨x5, x6, x7, x8, x9⟩ := s
  exact cast (show K (x5, x6, x7, x8, x9) = glacierlaw2_Alike_p0.dec (regsOf (glacierlaw2_Alike_p0.slots (x5, x6, x7, x8, x9)) r) K by kernel_rfl) h

def glacierlaw2_Alike_p1 : Point (Unit) := { slots := fun _ => [], dec := fun _ K => K () }
theorem glacierlaw2_Alike_p1_ok : glacierlaw2_Alike_p1.ok := by
  intro r K h
  unfold glacierlaw2_Alike_p1 at h
  exact ⟨(), regsOf_self (L := []) (List.forall_mem_nil _), h⟩
theorem glacierlaw2_Alike_p1_re (s : Unit) (r : Regs) (K : Unit → Prop) (h : K s) : glacierlaw2_Alike_p1.dec (regsOf (glacierlaw2_Alike_p1.slots s) r) K := by
  exact cast (show K () = glacierlaw2_Alike_p1.dec (regsOf (glacierlaw2_Alike_p1.slots ()) r) K by kernel_rfl) h

def glacierlaw2_Alike_p2 : Point ((Option Addr) × (Option Addr) × (Option Addr) × Nat × Nat × Int) := { slots := fun s => [(0, (.pointer s.1)), (1, (.pointer s.2.1)), (5, (.slice s.2.2.1 s.2.2.2.1 s.2.2.2.2.1)), (6, (.int .i64 s.2.2.2.2.2))], dec := fun r K => mPtr (r 0) fun x => mPtr (r 1) fun x1 => mSlice (r 5) fun x2 x3 x4 => mInt .i64 (r 6) fun x5 => K (x, x1, x2, x3, x4, x5) }
theorem glacierlaw2_Alike_p2_ok : glacierlaw2_Alike_p2.ok := by
  intro r K h
  unfold glacierlaw2_Alike_p2 at h
  obtain ⟨x, e0, h⟩ := mPtr_elim h
  obtain ⟨x1, e1, h⟩ := mPtr_elim h
  obtain ⟨x2, x3, x4, e2, h⟩ := mSlice_elim h
  obtain ⟨x5, e3, h⟩ := mInt_elim h
  exact ⟨(x, x1, x2, x3, x4, x5), regsOf_self (L := [(0, (.pointer x)), (1, (.pointer x1)), (5, (.slice x2 x3 x4)), (6, (.int .i64 x5))]) (List.forall_mem_cons.2 ⟨e0, List.forall_mem_cons.2 ⟨e1, List.forall_mem_cons.2 ⟨e2, List.forall_mem_cons.2 ⟨e3, List.forall_mem_nil _⟩⟩⟩⟩), h⟩
theorem glacierlaw2_Alike_p2_re (s : (Option Addr) × (Option Addr) × (Option Addr) × Nat × Nat × Int) (r : Regs) (K : ((Option Addr) × (Option Addr) × (Option Addr) × Nat × Nat × Int) → Prop) (h : K s) : glacierlaw2_Alike_p2.dec (regsOf (glacierlaw2_Alike_p2.slots s) r) K := by
  obtain ⟨x6, x7, x8, x9, x10, x11⟩ := s
  exact cast (show K (x6, x7, x8, x9, x10, x11) = glacierlaw2_Alike_p2.dec (regsOf (glacierlaw2_Alike_p2.slots (x6, x7, x8, x9, x10, x11)) r) K by kernel_rfl) h

theorem glacierlaw2_Alike_sound (d : Option Addr) (r_ : Option Addr) (R : Value → World → Prop) (w : World) (h : glacierlaw2_Alike_b4 d r_ R w) :
    CallR Try.prog fn_glacierlaw2_Alike #[(.pointer d), (.pointer r_)] w R := by
  refine CallR_intro (args := [(.pointer d), (.pointer r_)]) Try.func27 rfl (Nat.le_of_ble_eq_true (by kernel_rfl)) ?_
  refine Wp_glue glacierlaw2_Alike_p0 (fun s w => glacierlaw2_Alike_b3 s.1 s.2.1 s.2.2.1 s.2.2.2.1 s.2.2.2.2 R w) [_, _, _] (Q0 := fun e _ r w => match e with | .normal => glacierlaw2_Alike_p0.dec r (fun s => glacierlaw2_Alike_b3 s.1 s.2.1 s.2.2.1 s.2.2.2.1 s.2.2.2.2 R w) | .exit _ => False | .ret => retQ Try.prog Try.f27.results R .ret [] r w | _ => False) h (by kernel_rfl) (fun s r w h => ?_) glacierlaw2_Alike_p0_ok (fun _ _ _ h => h) ?_
  · obtain ⟨d1, r_1, l, l_n, l_c⟩ := s
    have h : glacierlaw2_Alike_b3 d1 r_1 l l_n l_c R w := h
    refine Wp_seq_via glacierlaw2_Alike_p1 (fun _ w => glacierlaw2_Alike_b0 R w) (fun s r w h => ?_) (fun hN1 => ?_)
    · cases s
      have h : glacierlaw2_Alike_b0 R w := h
      refine Wp_leaf_end (Q0 := fun e _ r w => match e with | .normal => retQ Try.prog Try.f27.results R .normal [] r w | .exit _ => False | .ret => retQ Try.prog Try.f27.results R .ret [] r w | _ => False) h (by kernel_rfl) ?_
      intro e _ r w h
      cases e with
      | normal => exact h
      | exit i => exact h.elim
      | ret => exact h
      | goto i => exact h.elim
      | panic c => exact h.elim
      | outgrown => exact h.elim
    · refine Wp_glue glacierlaw2_Alike_p2 (fun s w => glacierlaw2_Alike_b2 s.1 s.2.1 s.2.2.1 s.2.2.2.1 s.2.2.2.2.1 s.2.2.2.2.2 R w) [_] (Q0 := fun e _ r w => match e with | .normal => glacierlaw2_Alike_p2.dec r (fun s => glacierlaw2_Alike_b2 s.1 s.2.1 s.2.2.1 s.2.2.2.1 s.2.2.2.2.1 s.2.2.2.2.2 R w) | .exit _ => False | .ret => retQ Try.prog Try.f27.results R .ret [] r w | _ => False) h (by kernel_rfl) (fun s r w h => ?_) glacierlaw2_Alike_p2_ok (fun _ _ _ h => h) ?_
      · obtain ⟨d2, r_2, l1, l_n1, l_c1, i⟩ := s
        have h : glacierlaw2_Alike_b2 d2 r_2 l1 l_n1 l_c1 i R w := h
        refine Wp_block_via glacierlaw2_Alike_p1 (fun _ w => glacierlaw2_Alike_b0 R w) hN1 (fun hX2 => ?_)
        refine Wp_loop (p := glacierlaw2_Alike_p2) glacierlaw2_Alike_p2_ok (fun s r w K0 h => ?_) h
        obtain ⟨d3, r_3, l2, l_n2, l_c2, i1⟩ := s
        have h : glacierlaw2_Alike_b1 d3 r_3 l2 l_n2 l_c2 i1 K0 R w := h
        have hK3 := fun (s : (Option Addr) × (Option Addr) × (Option Addr) × Nat × Nat × Int) (r : Regs) (w : World) (h : K0 s w) => glacierlaw2_Alike_p2_re s r (fun s => K0 s w) h
        refine Wp_leaf_end (Q0 := fun e _ r w => match e with | .normal => glacierlaw2_Alike_p2.dec r (fun s => K0 s w) | .exit i => exitQ i 0 (glacierlaw2_Alike_p1.dec r (fun _ => glacierlaw2_Alike_b0 R w)) (False) | .ret => retQ Try.prog Try.f27.results R .ret [] r w | _ => False) h (by kernel_rfl) ?_
        intro e _ r w h
        cases e with
        | normal =>
          obtain ⟨s, hs, h⟩ := glacierlaw2_Alike_p2_ok _ _ h
          rw [← hs]
          exact hK3 s r w h
        | exit i =>
          rcases exitQ_elim h with ⟨rfl, h⟩ | ⟨_, h⟩
          · obtain ⟨s, hs, h⟩ := glacierlaw2_Alike_p1_ok _ _ h
            rw [← hs]
            exact hX2 s r w h
          exact h.elim
        | ret => exact h
        | goto i => exact h.elim
        | panic c => exact h.elim
        | outgrown => exact h.elim
      · intro e _ r w hne h
        cases e with
        | normal => exact absurd rfl hne
        | exit i => exact h.elim
        | ret => exact h
        | goto i => exact h.elim
        | panic c => exact h.elim
        | outgrown => exact h.elim
  · intro e _ r w hne h
    cases e with
    | normal => exact absurd rfl hne
    | exit i => exact h.elim
    | ret => exact h
    | goto i => exact h.elim
    | panic c => exact h.elim
    | outgrown => exact h.elim

/- glacier/glacierlaw2.DiskFronts -/
def glacierlaw2_DiskFronts_b0 (picks8 : Option Addr) (picks_n8 : Nat) (picks_c8 : Nat) (d7 : Option Addr) (R : Value → World → Prop) (w : World) : Prop :=
  CallR Try.prog fn_disk_Disk_Twin #[(.pointer d7)] w fun res15 w_19 =>
  mPtr res15 fun v35 =>
  CallR Try.prog fn_disk_Disk_Crash #[(.pointer d7), (.slice picks8 picks_n8 picks_c8)] w_19 fun res16 w_20 =>
  mTup res16 fun l17 =>
  mNil l17 (
  CallR Try.prog fn_disk_Disk_Used #[(.pointer d7)] w_20 fun res17 w_21 =>
  mInt .i64 res17 fun v36 =>
  CallR Try.prog fn_disk_Disk_Used #[(.pointer v35)] w_21 fun res18 w_22 =>
  mInt .i64 res18 fun v37 =>
  R (.bool (v36 == v37)) w_22)

def glacierlaw2_DiskFronts_b1 (picks7 : Option Addr) (picks_n7 : Nat) (picks_c7 : Nat) (d6 : Option Addr) (t2 : Option Addr) (names2 : Option Addr) (names_n2 : Nat) (names_c2 : Nat) (now2 : Option Addr) (now_n2 : Nat) (now_c2 : Nat) (i3 : Int) (K0 : ((Option Addr) × Nat × Nat × (Option Addr) × (Option Addr) × (Option Addr) × Nat × Nat × (Option Addr) × Nat × Nat × Int) → World → Prop) (R : Value → World → Prop) (w : World) : Prop :=
  Br (decide (i3 < (names_n2 : Int))) (
  IX names2 names_n2 i3 1 fun a1 =>
  LDS w a1 fun v16 =>
  CallR Try.prog fn_disk_Disk_Read #[(.pointer t2), (.string v16)] w fun res11 w_11 =>
  mTup res11 fun l11 =>
  mCons l11 fun v17 l12 =>
  mSlice v17 fun v18 v_n2 v_c2 =>
  mCons l12 fun v19 l13 =>
  mInt .i64 v19 fun _ =>
  mNil l13 (
  IX names2 names_n2 i3 1 fun a2 =>
  LDS w_11 a2 fun v21 =>
  CallR Try.prog fn_disk_Disk_Read #[(.pointer d6), (.string v21)] w_11 fun res12 w_12 =>
  mTup res12 fun l14 =>
  mCons l14 fun v22 l15 =>
  mSlice v22 fun v23 v_n3 v_c3 =>
  mCons l15 fun v24 l16 =>
  mInt .i64 v24 fun v25 =>
  mNil l16 (
  IX names2 names_n2 i3 1 fun a3 =>
  LDS w_12 a3 fun v26 =>
  CallR Try.prog fn_disk_Disk_Unsynced #[(.pointer t2), (.string v26)] w_12 fun res13 w_13 =>
  mInt .i64 res13 fun v27 =>
  LetW (World.drew w_13) fun w_14 =>
  Br (v25 != 0) (
  R (.bool false) w_14) (
  IX now2 now_n2 i3 1 fun a4 =>
  LDS w_14 a4 fun v28 =>
  IX names2 names_n2 i3 1 fun a5 =>
  LDS w_14 a5 fun v29 =>
  Br (!(ByteArray.toList v28 == ByteArray.toList v29)) (
  R (.bool false) w_14) (
  (w_14 = w_14 ∧ 
  Br (decide ((v_n3 : Int) < (IntKind.wrap .i64 ((v_n2 : Int) - v27)))) (
  R (.bool false) w_14) (
  (w_14 = w_14 ∧ 
  (w_14 = w_14 ∧ 
  Br (decide ((v_n3 : Int) > (v_n2 : Int))) (
  R (.bool false) w_14) (
  (w_14 = w_14 ∧ 
  rRun Try.prog (Instr.sliceAt 30 (.slice v18 v_n2 v_c2) none (some (.int .i64 (v_n3 : Int))) none) w_14 fun sr w_15 =>
  mSlice sr fun v30 v_n4 v_c4 =>
  (w_15 = w_14 ∧ 
  rRun Try.prog (convert 30 9 (.slice v30 v_n4 v_c4)) w_14 fun sr1 w_16 =>
  mStr sr1 fun v31 =>
  (w_16 = w_14 ∧ 
  rRun Try.prog (convert 30 9 (.slice v23 v_n3 v_c3)) w_14 fun sr2 w_17 =>
  mStr sr2 fun v32 =>
  (w_17 = w_14 ∧ 
  Br (!(ByteArray.toList v31 == ByteArray.toList v32)) (
  R (.bool false) w_14) (
  IX names2 names_n2 i3 1 fun a6 =>
  LDS w_14 a6 fun v33 =>
  CallR Try.prog fn_disk_Disk_Unsynced #[(.pointer d6), (.string v33)] w_14 fun res14 w_18 =>
  mInt .i64 res14 fun v34 =>
  Br (v34 != 0) (
  R (.bool false) w_18) (
  K0 (picks7, picks_n7, picks_c7, d6, t2, names2, names_n2, names_c2, now2, now_n2, now_c2, IntKind.wrap .i64 (i3 + 1)) w_18)))))))))))))))) (
  glacierlaw2_DiskFronts_b0 picks7 picks_n7 picks_c7 d6 R w)

def glacierlaw2_DiskFronts_b2 (picks6 : Option Addr) (picks_n6 : Nat) (picks_c6 : Nat) (d5 : Option Addr) (t1 : Option Addr) (names1 : Option Addr) (names_n1 : Nat) (names_c1 : Nat) (now1 : Option Addr) (now_n1 : Nat) (now_c1 : Nat) (i2 : Int) (R : Value → World → Prop) (w : World) : Prop :=
  LoopS (σ := (Option Addr) × Nat × Nat × (Option Addr) × (Option Addr) × (Option Addr) × Nat × Nat × (Option Addr) × Nat × Nat × Int) (fun s w K0 =>
  glacierlaw2_DiskFronts_b1 s.1 s.2.1 s.2.2.1 s.2.2.2.1 s.2.2.2.2.1 s.2.2.2.2.2.1 s.2.2.2.2.2.2.1 s.2.2.2.2.2.2.2.1 s.2.2.2.2.2.2.2.2.1 s.2.2.2.2.2.2.2.2.2.1 s.2.2.2.2.2.2.2.2.2.2.1 s.2.2.2.2.2.2.2.2.2.2.2 K0 R w) (picks6, picks_n6, picks_c6, d5, t1, names1, names_n1, names_c1, now1, now_n1, now_c1, i2) w

def glacierlaw2_DiskFronts_b3 (picks5 : Option Addr) (picks_n5 : Nat) (picks_c5 : Nat) (d4 : Option Addr) (t : Option Addr) (names : Option Addr) (names_n : Nat) (names_c : Nat) (now : Option Addr) (now_n : Nat) (now_c : Nat) (R : Value → World → Prop) (w : World) : Prop :=
  glacierlaw2_DiskFronts_b2 picks5 picks_n5 picks_c5 d4 t names names_n names_c now now_n now_c 0 R w

def glacierlaw2_DiskFronts_b4 (picks4 : Option Addr) (picks_n4 : Nat) (picks_c4 : Nat) (d3 : Option Addr) (R : Value → World → Prop) (w : World) : Prop :=
  CallR Try.prog fn_disk_Disk_Twin #[(.pointer d3)] w fun res5 w_5 =>
  mPtr res5 fun v11 =>
  CallR Try.prog fn_disk_Disk_Crash #[(.pointer d3), (.slice picks4 picks_n4 picks_c4)] w_5 fun res6 w_6 =>
  mTup res6 fun l10 =>
  mNil l10 (
  CallR Try.prog fn_disk_Disk_List #[(.pointer v11), (.slice none 0 0)] w_6 fun res7 w_7 =>
  mSlice res7 fun v12 v_n v_c =>
  CallR Try.prog fn_disk_Disk_List #[(.pointer d3), (.slice none 0 0)] w_7 fun res8 w_8 =>
  mSlice res8 fun v13 v_n1 v_c1 =>
  Br ((v_n : Int) != (v_n1 : Int)) (
  R (.bool false) w_8) (
  CallR Try.prog fn_disk_Disk_Used #[(.pointer d3)] w_8 fun res9 w_9 =>
  mInt .i64 res9 fun v14 =>
  CallR Try.prog fn_disk_Disk_Used #[(.pointer v11)] w_9 fun res10 w_10 =>
  mInt .i64 res10 fun v15 =>
  Br (decide (v14 > v15)) (
  R (.bool false) w_10) (
  glacierlaw2_DiskFronts_b3 picks4 picks_n4 picks_c4 d3 v11 v12 v_n v_c v13 v_n1 v_c1 R w_10)))

def glacierlaw2_DiskFronts_b5 (l9 : Option Addr) (l_n3 : Nat) (l_c3 : Nat) (picks3 : Option Addr) (picks_n3 : Nat) (picks_c3 : Nat) (d2 : Option Addr) (r_2 : Option Addr) (i1 : Int) (K0 : ((Option Addr) × Nat × Nat × (Option Addr) × Nat × Nat × (Option Addr) × (Option Addr) × Int) → World → Prop) (R : Value → World → Prop) (w : World) : Prop :=
  Br (decide (i1 < (l_n3 : Int))) (
  IX l9 l_n3 i1 6 fun a =>
  LDI .i64 w a fun Op =>
  LDS w (Addr.add a 1) fun Name =>
  LDS w (Addr.add a 2) fun To =>
  LDSl w (Addr.add a 3) fun Names Names_n Names_c =>
  LDSl w (Addr.add a 4) fun Bytes Bytes_n Bytes_c =>
  LDSl w (Addr.add a 5) fun Picks Picks_n Picks_c =>
  CallR Try.prog fn_glacierlaw2_step #[(.pointer d2), (.pointer r_2), (.agg #[(.int .i64 Op), (.string Name), (.string To), (.slice Names Names_n Names_c), (.slice Bytes Bytes_n Bytes_c), (.slice Picks Picks_n Picks_c)])] w fun res4 w_4 =>
  mBool res4 fun _ =>
  K0 (l9, l_n3, l_c3, picks3, picks_n3, picks_c3, d2, r_2, IntKind.wrap .i64 (i1 + 1)) w_4) (
  glacierlaw2_DiskFronts_b4 picks3 picks_n3 picks_c3 d2 R w)

def glacierlaw2_DiskFronts_b6 (l8 : Option Addr) (l_n2 : Nat) (l_c2 : Nat) (picks2 : Option Addr) (picks_n2 : Nat) (picks_c2 : Nat) (d1 : Option Addr) (r_1 : Option Addr) (i : Int) (R : Value → World → Prop) (w : World) : Prop :=
  LoopS (σ := (Option Addr) × Nat × Nat × (Option Addr) × Nat × Nat × (Option Addr) × (Option Addr) × Int) (fun s w K0 =>
  glacierlaw2_DiskFronts_b5 s.1 s.2.1 s.2.2.1 s.2.2.2.1 s.2.2.2.2.1 s.2.2.2.2.2.1 s.2.2.2.2.2.2.1 s.2.2.2.2.2.2.2.1 s.2.2.2.2.2.2.2.2 K0 R w) (l8, l_n2, l_c2, picks2, picks_n2, picks_c2, d1, r_1, i) w

def glacierlaw2_DiskFronts_b7 (l7 : Option Addr) (l_n1 : Nat) (l_c1 : Nat) (picks1 : Option Addr) (picks_n1 : Nat) (picks_c1 : Nat) (d : Option Addr) (r_ : Option Addr) (R : Value → World → Prop) (w : World) : Prop :=
  glacierlaw2_DiskFronts_b6 l7 l_n1 l_c1 picks1 picks_n1 picks_c1 d r_ 0 R w

def glacierlaw2_DiskFronts_b8 (l : Option Addr) (l_n : Nat) (l_c : Nat) (picks : Option Addr) (picks_n : Nat) (picks_c : Nat) (R : Value → World → Prop) (w : World) : Prop :=
  CallR Try.prog fn_glacierlaw2_known #[] w fun res w_ =>
  mBool res fun v =>
  Br (!v) (
  R (.bool false) w_) (
  CallR Try.prog fn_glacierlaw2_few #[(.slice l l_n l_c)] w_ fun res1 w_1 =>
  mBool res1 fun v1 =>
  Br (!v1) (
  R (.bool true) w_1) (
  Br (decide ((picks_n : Int) > 500)) (
  R (.bool true) w_1) (
  CallR Try.prog fn_disk_New #[(.int .i64 1048576)] w_1 fun res2 w_2 =>
  mTup res2 fun l1 =>
  mCons l1 fun v2 l2 =>
  mPtr v2 fun v3 =>
  mCons l2 fun v4 l3 =>
  mInt .i64 v4 fun v5 =>
  mNil l3 (
  Br (v5 != 0) (
  R (.bool false) w_2) (
  Br (Option.isNone v3) (
  R (.bool false) w_2) (
  CallR Try.prog fn_glacierref2_New #[(.int .i64 1048576)] w_2 fun res3 w_3 =>
  mTup res3 fun l4 =>
  mCons l4 fun v6 l5 =>
  mPtr v6 fun v7 =>
  mCons l5 fun v8 l6 =>
  mInt .i64 v8 fun _ =>
  mNil l6 (
  glacierlaw2_DiskFronts_b7 l l_n l_c picks picks_n picks_c v3 v7 R w_3)))))))

def glacierlaw2_DiskFronts_p0 : Point ((Option Addr) × Nat × Nat × (Option Addr) × Nat × Nat × (Option Addr) × (Option Addr)) := { slots := fun s => [(0, (.slice s.1 s.2.1 s.2.2.1)), (1, (.slice s.2.2.2.1 s.2.2.2.2.1 s.2.2.2.2.2.1)), (5, (.pointer s.2.2.2.2.2.2.1)), (7, (.pointer s.2.2.2.2.2.2.2))], dec := fun r K => mSlice (r 0) fun x x1 x2 => mSlice (r 1) fun x3 x4 x5 => mPtr (r 5) fun x6 => mPtr (r 7) fun x7 => K (x, x1, x2, x3, x4, x5, x6, x7) }
theorem glacierlaw2_DiskFronts_p0_ok : glacierlaw2_DiskFronts_p0.ok := by
  intro r K h
  unfold glacierlaw2_DiskFronts_p0 at h
  obtain ⟨x, x1, x2, e0, h⟩ := mSlice_elim h
  obtain ⟨x3, x4, x5, e1, h⟩ := mSlice_elim h
  obtain ⟨x6, e2, h⟩ := mPtr_elim h
  obtain ⟨x7, e3, h⟩ := mPtr_elim h
  exact ⟨(x, x1, x2, x3, x4, x5, x6, x7), regsOf_self (L := [(0, (.slice x x1 x2)), (1, (.slice x3 x4 x5)), (5, (.pointer x6)), (7, (.pointer x7))]) (List.forall_mem_cons.2 ⟨e0, List.forall_mem_cons.2 ⟨e1, List.forall_mem_cons.2 ⟨e2, List.forall_mem_cons.2 ⟨e3, List.forall_mem_nil _⟩⟩⟩⟩), h⟩
theorem glacierlaw2_DiskFronts_p0_re (s : (Option Addr) × Nat × Nat × (Option Addr) × Nat × Nat × (Option Addr) × (Option Addr)) (r : Regs) (K : ((Option Addr) × Nat × Nat × (Option Addr) × Nat × Nat × (Option Addr) × (Option Addr)) → Prop) (h : K s) : glacierlaw2_DiskFronts_p0.dec (regsOf (glacierlaw2_DiskFronts_p0.slots s) r) K := by
  obtain ⟨x8, x9, x10, x11, x12, x13, x14, x15⟩ := s
  exact cast (show K (x8, x9, x10, x11, x12, x13, x14, x15) = glacierlaw2_DiskFronts_p0.dec (regsOf (glacierlaw2_DiskFronts_p0.slots (x8, x9, x10, x11, x12, x13, x14, x15)) r) K by kernel_rfl) h

def glacierlaw2_DiskFronts_p1 : Point ((Option Addr) × Nat × Nat × (Option Addr)) := { slots := fun s => [(1, (.slice s.1 s.2.1 s.2.2.1)), (5, (.pointer s.2.2.2))], dec := fun r K => mSlice (r 1) fun x x1 x2 => mPtr (r 5) fun x3 => K (x, x1, x2, x3) }
theorem glacierlaw2_DiskFronts_p1_ok : glacierlaw2_DiskFronts_p1.ok := by
  intro r K h
  unfold glacierlaw2_DiskFronts_p1 at h
  obtain ⟨x, x1, x2, e0, h⟩ := mSlice_elim h
  obtain ⟨x3, e1, h⟩ := mPtr_elim h
  exact ⟨(x, x1, x2, x3), regsOf_self (L := [(1, (.slice x x1 x2)), (5, (.pointer x3))]) (List.forall_mem_cons.2 ⟨e0, List.forall_mem_cons.2 ⟨e1, List.forall_mem_nil _⟩⟩), h⟩
theorem glacierlaw2_DiskFronts_p1_re (s : (Option Addr) × Nat × Nat × (Option Addr)) (r : Regs) (K : ((Option Addr) × Nat × Nat × (Option Addr)) → Prop) (h : K s) : glacierlaw2_DiskFronts_p1.dec (regsOf (glacierlaw2_DiskFronts_p1.slots s) r) K := by
  obtain ⟨x4, x5, x6, x7⟩ := s
  exact cast (show K (x4, x5, x6, x7) = glacierlaw2_DiskFronts_p1.dec (regsOf (glacierlaw2_DiskFronts_p1.slots (x4, x5, x6, x7)) r) K by kernel_rfl) h

def glacierlaw2_DiskFronts_p2 : Point ((Option Addr) × Nat × Nat × (Option Addr) × (Option Addr) × (Option Addr) × Nat × Nat × (Option Addr) × Nat × Nat) := { slots := fun s => [(1, (.slice s.1 s.2.1 s.2.2.1)), (5, (.pointer s.2.2.2.1)), (10, (.pointer s.2.2.2.2.1)), (11, (.slice s.2.2.2.2.2.1 s.2.2.2.2.2.2.1 s.2.2.2.2.2.2.2.1)), (12, (.slice s.2.2.2.2.2.2.2.2.1 s.2.2.2.2.2.2.2.2.2.1 s.2.2.2.2.2.2.2.2.2.2))], dec := fun r K => mSlice (r 1) fun x x1 x2 => mPtr (r 5) fun x3 => mPtr (r 10) fun x4 => mSlice (r 11) fun x5 x6 x7 => mSlice (r 12) fun x8 x9 x10 => K (x, x1, x2, x3, x4, x5, x6, x7, x8, x9, x10) }
theorem glacierlaw2_DiskFronts_p2_ok : glacierlaw2_DiskFronts_p2.ok := by
  intro r K h
  unfold glacierlaw2_DiskFronts_p2 at h
  obtain ⟨x, x1, x2, e0, h⟩ := mSlice_elim h
  obtain ⟨x3, e1, h⟩ := mPtr_elim h
  obtain ⟨x4, e2, h⟩ := mPtr_elim h
  obtain ⟨x5, x6, x7, e3, h⟩ := mSlice_elim h
  obtain ⟨x8, x9, x10, e4, h⟩ := mSlice_elim h
  exact ⟨(x, x1, x2, x3, x4, x5, x6, x7, x8, x9, x10), regsOf_self (L := [(1, (.slice x x1 x2)), (5, (.pointer x3)), (10, (.pointer x4)), (11, (.slice x5 x6 x7)), (12, (.slice x8 x9 x10))]) (List.forall_mem_cons.2 ⟨e0, List.forall_mem_cons.2 ⟨e1, List.forall_mem_cons.2 ⟨e2, List.forall_mem_cons.2 ⟨e3, List.forall_mem_cons.2 ⟨e4, List.forall_mem_nil _⟩⟩⟩⟩⟩), h⟩
theorem glacierlaw2_DiskFronts_p2_re (s : (Option Addr) × Nat × Nat × (Option Addr) × (Option Addr) × (Option Addr) × Nat × Nat × (Option Addr) × Nat × Nat) (r : Regs) (K : ((Option Addr) × Nat × Nat × (Option Addr) × (Option Addr) × (Option Addr) × Nat × Nat × (Option Addr) × Nat × Nat) → Prop) (h : K s) : glacierlaw2_DiskFronts_p2.dec (regsOf (glacierlaw2_DiskFronts_p2.slots s) r) K := by
  obtain ⟨x11, x12, x13, x14, x15, x16, x17, x18, x19, x20, x21⟩ := s
  exact cast (show K (x11, x12, x13, x14, x15, x16, x17, x18, x19, x20, x21) = glacierlaw2_DiskFronts_p2.dec (regsOf (glacierlaw2_DiskFronts_p2.slots (x11, x12, x13, x14, x15, x16, x17, x18, x19, x20, x21)) r) K by kernel_rfl) h

def glacierlaw2_DiskFronts_p3 : Point ((Option Addr) × Nat × Nat × (Option Addr)) := { slots := fun s => [(1, (.slice s.1 s.2.1 s.2.2.1)), (5, (.pointer s.2.2.2))], dec := fun r K => mSlice (r 1) fun x x1 x2 => mPtr (r 5) fun x3 => K (x, x1, x2, x3) }
theorem glacierlaw2_DiskFronts_p3_ok : glacierlaw2_DiskFronts_p3.ok := by
  intro r K h
  unfold glacierlaw2_DiskFronts_p3 at h
  obtain ⟨x, x1, x2, e0, h⟩ := mSlice_elim h
  obtain ⟨x3, e1, h⟩ := mPtr_elim h
  exact ⟨(x, x1, x2, x3), regsOf_self (L := [(1, (.slice x x1 x2)), (5, (.pointer x3))]) (List.forall_mem_cons.2 ⟨e0, List.forall_mem_cons.2 ⟨e1, List.forall_mem_nil _⟩⟩), h⟩
theorem glacierlaw2_DiskFronts_p3_re (s : (Option Addr) × Nat × Nat × (Option Addr)) (r : Regs) (K : ((Option Addr) × Nat × Nat × (Option Addr)) → Prop) (h : K s) : glacierlaw2_DiskFronts_p3.dec (regsOf (glacierlaw2_DiskFronts_p3.slots s) r) K := by
  obtain ⟨x4, x5, x6, x7⟩ := s
  exact cast (show K (x4, x5, x6, x7) = glacierlaw2_DiskFronts_p3.dec (regsOf (glacierlaw2_DiskFronts_p3.slots (x4, x5, x6, x7)) r) K by kernel_rfl) h

def glacierlaw2_DiskFronts_p4 : Point ((Option Addr) × Nat × Nat × (Option Addr) × (Option Addr) × (Option Addr) × Nat × Nat × (Option Addr) × Nat × Nat × Int) := { slots := fun s => [(1, (.slice s.1 s.2.1 s.2.2.1)), (5, (.pointer s.2.2.2.1)), (10, (.pointer s.2.2.2.2.1)), (11, (.slice s.2.2.2.2.2.1 s.2.2.2.2.2.2.1 s.2.2.2.2.2.2.2.1)), (12, (.slice s.2.2.2.2.2.2.2.2.1 s.2.2.2.2.2.2.2.2.2.1 s.2.2.2.2.2.2.2.2.2.2.1)), (13, (.int .i64 s.2.2.2.2.2.2.2.2.2.2.2))], dec := fun r K => mSlice (r 1) fun x x1 x2 => mPtr (r 5) fun x3 => mPtr (r 10) fun x4 => mSlice (r 11) fun x5 x6 x7 => mSlice (r 12) fun x8 x9 x10 => mInt .i64 (r 13) fun x11 => K (x, x1, x2, x3, x4, x5, x6, x7, x8, x9, x10, x11) }
theorem glacierlaw2_DiskFronts_p4_ok : glacierlaw2_DiskFronts_p4.ok := by
  intro r K h
  unfold glacierlaw2_DiskFronts_p4 at h
  obtain ⟨x, x1, x2, e0, h⟩ := mSlice_elim h
  obtain ⟨x3, e1, h⟩ := mPtr_elim h
  obtain ⟨x4, e2, h⟩ := mPtr_elim h
  obtain ⟨x5, x6, x7, e3, h⟩ := mSlice_elim h
  obtain ⟨x8, x9, x10, e4, h⟩ := mSlice_elim h
  obtain ⟨x11, e5, h⟩ := mInt_elim h
  exact ⟨(x, x1, x2, x3, x4, x5, x6, x7, x8, x9, x10, x11), regsOf_self (L := [(1, (.slice x x1 x2)), (5, (.pointer x3)), (10, (.pointer x4)), (11, (.slice x5 x6 x7)), (12, (.slice x8 x9 x10)), (13, (.int .i64 x11))]) (List.forall_mem_cons.2 ⟨e0, List.forall_mem_cons.2 ⟨e1, List.forall_mem_cons.2 ⟨e2, List.forall_mem_cons.2 ⟨e3, List.forall_mem_cons.2 ⟨e4, List.forall_mem_cons.2 ⟨e5, List.forall_mem_nil _⟩⟩⟩⟩⟩⟩), h⟩
theorem glacierlaw2_DiskFronts_p4_re (s : (Option Addr) × Nat × Nat × (Option Addr) × (Option Addr) × (Option Addr) × Nat × Nat × (Option Addr) × Nat × Nat × Int) (r : Regs) (K : ((Option Addr) × Nat × Nat × (Option Addr) × (Option Addr) × (Option Addr) × Nat × Nat × (Option Addr) × Nat × Nat × Int) → Prop) (h : K s) : glacierlaw2_DiskFronts_p4.dec (regsOf (glacierlaw2_DiskFronts_p4.slots s) r) K := by
  obtain ⟨x12, x13, x14, x15, x16, x17, x18, x19, x20, x21, x22, x23⟩ := s
  exact cast (show K (x12, x13, x14, x15, x16, x17, x18, x19, x20, x21, x22, x23) = glacierlaw2_DiskFronts_p4.dec (regsOf (glacierlaw2_DiskFronts_p4.slots (x12, x13, x14, x15, x16, x17, x18, x19, x20, x21, x22, x23)) r) K by kernel_rfl) h

def glacierlaw2_DiskFronts_p5 : Point ((Option Addr) × Nat × Nat × (Option Addr) × Nat × Nat × (Option Addr) × (Option Addr) × Int) := { slots := fun s => [(0, (.slice s.1 s.2.1 s.2.2.1)), (1, (.slice s.2.2.2.1 s.2.2.2.2.1 s.2.2.2.2.2.1)), (5, (.pointer s.2.2.2.2.2.2.1)), (7, (.pointer s.2.2.2.2.2.2.2.1)), (9, (.int .i64 s.2.2.2.2.2.2.2.2))], dec := fun r K => mSlice (r 0) fun x x1 x2 => mSlice (r 1) fun x3 x4 x5 => mPtr (r 5) fun x6 => mPtr (r 7) fun x7 => mInt .i64 (r 9) fun x8 => K (x, x1, x2, x3, x4, x5, x6, x7, x8) }
theorem glacierlaw2_DiskFronts_p5_ok : glacierlaw2_DiskFronts_p5.ok := by
  intro r K h
  unfold glacierlaw2_DiskFronts_p5 at h
  obtain ⟨x, x1, x2, e0, h⟩ := mSlice_elim h
  obtain ⟨x3, x4, x5, e1, h⟩ := mSlice_elim h
  obtain ⟨x6, e2, h⟩ := mPtr_elim h
  obtain ⟨x7, e3, h⟩ := mPtr_elim h
  obtain ⟨x8, e4, h⟩ := mInt_elim h
  exact ⟨(x, x1, x2, x3, x4, x5, x6, x7, x8), regsOf_self (L := [(0, (.slice x x1 x2)), (1, (.slice x3 x4 x5)), (5, (.pointer x6)), (7, (.pointer x7)), (9, (.int .i64 x8))]) (List.forall_mem_cons.2 ⟨e0, List.forall_mem_cons.2 ⟨e1, List.forall_mem_cons.2 ⟨e2, List.forall_mem_cons.2 ⟨e3, List.forall_mem_cons.2 ⟨e4, List.forall_mem_nil _⟩⟩⟩⟩⟩), h⟩
theorem glacierlaw2_DiskFronts_p5_re (s : (Option Addr) × Nat × Nat × (Option Addr) × Nat × Nat × (Option Addr) × (Option Addr) × Int) (r : Regs) (K : ((Option Addr) × Nat × Nat × (Option Addr) × Nat × Nat × (Option Addr) × (Option Addr) × Int) → Prop) (h : K s) : glacierlaw2_DiskFronts_p5.dec (regsOf (glacierlaw2_DiskFronts_p5.slots s) r) K := by
  obtain ⟨x9, x10, x11, x12, x13, x14, x15, x16, x17⟩ := s
  exact cast (show K (x9, x10, x11, x12, x13, x14, x15, x16, x17) = glacierlaw2_DiskFronts_p5.dec (regsOf (glacierlaw2_DiskFronts_p5.slots (x9, x10, x11, x12, x13, x14, x15, x16, x17)) r) K by kernel_rfl) h

theorem glacierlaw2_DiskFronts_sound (l : Option Addr) (l_n : Nat) (l_c : Nat) (picks : Option Addr) (picks_n : Nat) (picks_c : Nat) (R : Value → World → Prop) (w : World) (h : glacierlaw2_DiskFronts_b8 l l_n l_c picks picks_n picks_c R w) :
    CallR Try.prog fn_glacierlaw2_DiskFronts #[(.slice l l_n l_c), (.slice picks picks_n picks_c)] w R := by
  refine CallR_intro (args := [(.slice l l_n l_c), (.slice picks picks_n picks_c)]) Try.func5 rfl (Nat.le_of_ble_eq_true (by kernel_rfl)) ?_
  refine Wp_glue glacierlaw2_DiskFronts_p0 (fun s w => glacierlaw2_DiskFronts_b7 s.1 s.2.1 s.2.2.1 s.2.2.2.1 s.2.2.2.2.1 s.2.2.2.2.2.1 s.2.2.2.2.2.2.1 s.2.2.2.2.2.2.2 R w) [_, _, _, _, _, _] (Q0 := fun e _ r w => match e with | .normal => glacierlaw2_DiskFronts_p0.dec r (fun s => glacierlaw2_DiskFronts_b7 s.1 s.2.1 s.2.2.1 s.2.2.2.1 s.2.2.2.2.1 s.2.2.2.2.2.1 s.2.2.2.2.2.2.1 s.2.2.2.2.2.2.2 R w) | .exit _ => False | .ret => retQ Try.prog Try.f5.results R .ret [] r w | _ => False) h (by kernel_rfl) (fun s r w h => ?_) glacierlaw2_DiskFronts_p0_ok (fun _ _ _ h => h) ?_
  · obtain ⟨l7, l_n1, l_c1, picks1, picks_n1, picks_c1, d, r_⟩ := s
    have h : glacierlaw2_DiskFronts_b7 l7 l_n1 l_c1 picks1 picks_n1 picks_c1 d r_ R w := h
    refine Wp_seq_via glacierlaw2_DiskFronts_p1 (fun s w => glacierlaw2_DiskFronts_b4 s.1 s.2.1 s.2.2.1 s.2.2.2 R w) (fun s r w h => ?_) (fun hN1 => ?_)
    · obtain ⟨picks4, picks_n4, picks_c4, d3⟩ := s
      have h : glacierlaw2_DiskFronts_b4 picks4 picks_n4 picks_c4 d3 R w := h
      refine Wp_glue glacierlaw2_DiskFronts_p2 (fun s w => glacierlaw2_DiskFronts_b3 s.1 s.2.1 s.2.2.1 s.2.2.2.1 s.2.2.2.2.1 s.2.2.2.2.2.1 s.2.2.2.2.2.2.1 s.2.2.2.2.2.2.2.1 s.2.2.2.2.2.2.2.2.1 s.2.2.2.2.2.2.2.2.2.1 s.2.2.2.2.2.2.2.2.2.2 R w) [_, _, _, _, _] (Q0 := fun e _ r w => match e with | .normal => glacierlaw2_DiskFronts_p2.dec r (fun s => glacierlaw2_DiskFronts_b3 s.1 s.2.1 s.2.2.1 s.2.2.2.1 s.2.2.2.2.1 s.2.2.2.2.2.1 s.2.2.2.2.2.2.1 s.2.2.2.2.2.2.2.1 s.2.2.2.2.2.2.2.2.1 s.2.2.2.2.2.2.2.2.2.1 s.2.2.2.2.2.2.2.2.2.2 R w) | .exit _ => False | .ret => retQ Try.prog Try.f5.results R .ret [] r w | _ => False) h (by kernel_rfl) (fun s r w h => ?_) glacierlaw2_DiskFronts_p2_ok (fun _ _ _ h => h) ?_
      · obtain ⟨picks5, picks_n5, picks_c5, d4, t, names, names_n, names_c, now, now_n, now_c⟩ := s
        have h : glacierlaw2_DiskFronts_b3 picks5 picks_n5 picks_c5 d4 t names names_n names_c now now_n now_c R w := h
        refine Wp_seq_via glacierlaw2_DiskFronts_p3 (fun s w => glacierlaw2_DiskFronts_b0 s.1 s.2.1 s.2.2.1 s.2.2.2 R w) (fun s r w h => ?_) (fun hN2 => ?_)
        · obtain ⟨picks8, picks_n8, picks_c8, d7⟩ := s
          have h : glacierlaw2_DiskFronts_b0 picks8 picks_n8 picks_c8 d7 R w := h
          refine Wp_leaf_end (Q0 := fun e _ r w => match e with | .normal => retQ Try.prog Try.f5.results R .normal [] r w | .exit _ => False | .ret => retQ Try.prog Try.f5.results R .ret [] r w | _ => False) h (by kernel_rfl) ?_
          intro e _ r w h
          cases e with
          | normal => exact h
          | exit i => exact h.elim
          | ret => exact h
          | goto i => exact h.elim
          | panic c => exact h.elim
          | outgrown => exact h.elim
        · refine Wp_glue glacierlaw2_DiskFronts_p4 (fun s w => glacierlaw2_DiskFronts_b2 s.1 s.2.1 s.2.2.1 s.2.2.2.1 s.2.2.2.2.1 s.2.2.2.2.2.1 s.2.2.2.2.2.2.1 s.2.2.2.2.2.2.2.1 s.2.2.2.2.2.2.2.2.1 s.2.2.2.2.2.2.2.2.2.1 s.2.2.2.2.2.2.2.2.2.2.1 s.2.2.2.2.2.2.2.2.2.2.2 R w) [_] (Q0 := fun e _ r w => match e with | .normal => glacierlaw2_DiskFronts_p4.dec r (fun s => glacierlaw2_DiskFronts_b2 s.1 s.2.1 s.2.2.1 s.2.2.2.1 s.2.2.2.2.1 s.2.2.2.2.2.1 s.2.2.2.2.2.2.1 s.2.2.2.2.2.2.2.1 s.2.2.2.2.2.2.2.2.1 s.2.2.2.2.2.2.2.2.2.1 s.2.2.2.2.2.2.2.2.2.2.1 s.2.2.2.2.2.2.2.2.2.2.2 R w) | .exit _ => False | .ret => retQ Try.prog Try.f5.results R .ret [] r w | _ => False) h (by kernel_rfl) (fun s r w h => ?_) glacierlaw2_DiskFronts_p4_ok (fun _ _ _ h => h) ?_
          · obtain ⟨picks6, picks_n6, picks_c6, d5, t1, names1, names_n1, names_c1, now1, now_n1, now_c1, i2⟩ := s
            have h : glacierlaw2_DiskFronts_b2 picks6 picks_n6 picks_c6 d5 t1 names1 names_n1 names_c1 now1 now_n1 now_c1 i2 R w := h
            refine Wp_block_via glacierlaw2_DiskFronts_p3 (fun s w => glacierlaw2_DiskFronts_b0 s.1 s.2.1 s.2.2.1 s.2.2.2 R w) hN2 (fun hX3 => ?_)
            refine Wp_loop (p := glacierlaw2_DiskFronts_p4) glacierlaw2_DiskFronts_p4_ok (fun s r w K0 h => ?_) h
            obtain ⟨picks7, picks_n7, picks_c7, d6, t2, names2, names_n2, names_c2, now2, now_n2, now_c2, i3⟩ := s
            have h : glacierlaw2_DiskFronts_b1 picks7 picks_n7 picks_c7 d6 t2 names2 names_n2 names_c2 now2 now_n2 now_c2 i3 K0 R w := h
            have hK4 := fun (s : (Option Addr) × Nat × Nat × (Option Addr) × (Option Addr) × (Option Addr) × Nat × Nat × (Option Addr) × Nat × Nat × Int) (r : Regs) (w : World) (h : K0 s w) => glacierlaw2_DiskFronts_p4_re s r (fun s => K0 s w) h
            refine Wp_leaf_end (Q0 := fun e _ r w => match e with | .normal => glacierlaw2_DiskFronts_p4.dec r (fun s => K0 s w) | .exit i => exitQ i 2 (glacierlaw2_DiskFronts_p3.dec r (fun s => glacierlaw2_DiskFronts_b0 s.1 s.2.1 s.2.2.1 s.2.2.2 R w)) (False) | .ret => retQ Try.prog Try.f5.results R .ret [] r w | _ => False) h (by kernel_rfl) ?_
            intro e _ r w h
            cases e with
            | normal =>
              obtain ⟨s, hs, h⟩ := glacierlaw2_DiskFronts_p4_ok _ _ h
              rw [← hs]
              exact hK4 s r w h
            | exit i =>
              rcases exitQ_elim h with ⟨rfl, h⟩ | ⟨_, h⟩
              · obtain ⟨s, hs, h⟩ := glacierlaw2_DiskFronts_p3_ok _ _ h
                rw [← hs]
                exact hX3 s r w h
              exact h.elim
            | ret => exact h
            | goto i => exact h.elim
            | panic c => exact h.elim
            | outgrown => exact h.elim
          · intro e _ r w hne h
            cases e with
            | normal => exact absurd rfl hne
            | exit i => exact h.elim
            | ret => exact h
            | goto i => exact h.elim
            | panic c => exact h.elim
            | outgrown => exact h.elim
      · intro e _ r w hne h
        cases e with
        | normal => exact absurd rfl hne
        | exit i => exact h.elim
        | ret => exact h
        | goto i => exact h.elim
        | panic c => exact h.elim
        | outgrown => exact h.elim
    · refine Wp_glue glacierlaw2_DiskFronts_p5 (fun s w => glacierlaw2_DiskFronts_b6 s.1 s.2.1 s.2.2.1 s.2.2.2.1 s.2.2.2.2.1 s.2.2.2.2.2.1 s.2.2.2.2.2.2.1 s.2.2.2.2.2.2.2.1 s.2.2.2.2.2.2.2.2 R w) [_] (Q0 := fun e _ r w => match e with | .normal => glacierlaw2_DiskFronts_p5.dec r (fun s => glacierlaw2_DiskFronts_b6 s.1 s.2.1 s.2.2.1 s.2.2.2.1 s.2.2.2.2.1 s.2.2.2.2.2.1 s.2.2.2.2.2.2.1 s.2.2.2.2.2.2.2.1 s.2.2.2.2.2.2.2.2 R w) | .exit _ => False | .ret => retQ Try.prog Try.f5.results R .ret [] r w | _ => False) h (by kernel_rfl) (fun s r w h => ?_) glacierlaw2_DiskFronts_p5_ok (fun _ _ _ h => h) ?_
      · obtain ⟨l8, l_n2, l_c2, picks2, picks_n2, picks_c2, d1, r_1, i⟩ := s
        have h : glacierlaw2_DiskFronts_b6 l8 l_n2 l_c2 picks2 picks_n2 picks_c2 d1 r_1 i R w := h
        refine Wp_block_via glacierlaw2_DiskFronts_p1 (fun s w => glacierlaw2_DiskFronts_b4 s.1 s.2.1 s.2.2.1 s.2.2.2 R w) hN1 (fun hX5 => ?_)
        refine Wp_loop (p := glacierlaw2_DiskFronts_p5) glacierlaw2_DiskFronts_p5_ok (fun s r w K0 h => ?_) h
        obtain ⟨l9, l_n3, l_c3, picks3, picks_n3, picks_c3, d2, r_2, i1⟩ := s
        have h : glacierlaw2_DiskFronts_b5 l9 l_n3 l_c3 picks3 picks_n3 picks_c3 d2 r_2 i1 K0 R w := h
        have hK6 := fun (s : (Option Addr) × Nat × Nat × (Option Addr) × Nat × Nat × (Option Addr) × (Option Addr) × Int) (r : Regs) (w : World) (h : K0 s w) => glacierlaw2_DiskFronts_p5_re s r (fun s => K0 s w) h
        refine Wp_leaf_end (Q0 := fun e _ r w => match e with | .normal => glacierlaw2_DiskFronts_p5.dec r (fun s => K0 s w) | .exit i => exitQ i 0 (glacierlaw2_DiskFronts_p1.dec r (fun s => glacierlaw2_DiskFronts_b4 s.1 s.2.1 s.2.2.1 s.2.2.2 R w)) (False) | .ret => retQ Try.prog Try.f5.results R .ret [] r w | _ => False) h (by kernel_rfl) ?_
        intro e _ r w h
        cases e with
        | normal =>
          obtain ⟨s, hs, h⟩ := glacierlaw2_DiskFronts_p5_ok _ _ h
          rw [← hs]
          exact hK6 s r w h
        | exit i =>
          rcases exitQ_elim h with ⟨rfl, h⟩ | ⟨_, h⟩
          · obtain ⟨s, hs, h⟩ := glacierlaw2_DiskFronts_p1_ok _ _ h
            rw [← hs]
            exact hX5 s r w h
          exact h.elim
        | ret => exact h
        | goto i => exact h.elim
        | panic c => exact h.elim
        | outgrown => exact h.elim
      · intro e _ r w hne h
        cases e with
        | normal => exact absurd rfl hne
        | exit i => exact h.elim
        | ret => exact h
        | goto i => exact h.elim
        | panic c => exact h.elim
        | outgrown => exact h.elim
  · intro e _ r w hne h
    cases e with
    | normal => exact absurd rfl hne
    | exit i => exact h.elim
    | ret => exact h
    | goto i => exact h.elim
    | panic c => exact h.elim
    | outgrown => exact h.elim

/- glacier/glacierlaw2.DiskTwins -/
def glacierlaw2_DiskTwins_b0 (l20 : Option Addr) (l_n11 : Nat) (l_c11 : Nat) (left11 : Option Addr) (left_n11 : Nat) (left_c11 : Nat) (right11 : Option Addr) (right_n11 : Nat) (right_c11 : Nat) (d10 : Option Addr) (r_10 : Option Addr) (i9 : Int) (K0 : ((Option Addr) × Nat × Nat × (Option Addr) × Nat × Nat × (Option Addr) × Nat × Nat × (Option Addr) × (Option Addr) × Int) → World → Prop) (w : World) : Prop :=
  K0 (l20, l_n11, l_c11, left11, left_n11, left_c11, right11, right_n11, right_c11, d10, r_10, IntKind.wrap .i64 (i9 + 1)) w

def glacierlaw2_DiskTwins_b1 (l19 : Option Addr) (l_n10 : Nat) (l_c10 : Nat) (left10 : Option Addr) (left_n10 : Nat) (left_c10 : Nat) (right10 : Option Addr) (right_n10 : Nat) (right_c10 : Nat) (d9 : Option Addr) (r_9 : Option Addr) (i8 : Int) (b2 : Option Addr) (b_n1 : Nat) (b_c1 : Nat) (k3 : Int) (K0 : ((Option Addr) × Nat × Nat × (Option Addr) × Nat × Nat × (Option Addr) × Nat × Nat × (Option Addr) × (Option Addr) × Int) → World → Prop) (K1 : ((Option Addr) × Nat × Nat × (Option Addr) × Nat × Nat × (Option Addr) × Nat × Nat × (Option Addr) × (Option Addr) × Int × (Option Addr) × Nat × Nat × Int) → World → Prop) (w : World) : Prop :=
  Br (decide (k3 < (b_n1 : Int))) (
  IX b2 b_n1 k3 1 fun a5 =>
  ST w a5 (.int .u8 122) fun w_22 =>
  K1 (l19, l_n10, l_c10, left10, left_n10, left_c10, right10, right_n10, right_c10, d9, r_9, i8, b2, b_n1, b_c1, IntKind.wrap .i64 (k3 + 1)) w_22) (
  glacierlaw2_DiskTwins_b0 l19 l_n10 l_c10 left10 left_n10 left_c10 right10 right_n10 right_c10 d9 r_9 i8 K0 w)

def glacierlaw2_DiskTwins_b2 (l18 : Option Addr) (l_n9 : Nat) (l_c9 : Nat) (left9 : Option Addr) (left_n9 : Nat) (left_c9 : Nat) (right9 : Option Addr) (right_n9 : Nat) (right_c9 : Nat) (d8 : Option Addr) (r_8 : Option Addr) (i7 : Int) (b1 : Option Addr) (b_n : Nat) (b_c : Nat) (k2 : Int) (K0 : ((Option Addr) × Nat × Nat × (Option Addr) × Nat × Nat × (Option Addr) × Nat × Nat × (Option Addr) × (Option Addr) × Int) → World → Prop) (w : World) : Prop :=
  LoopS (σ := (Option Addr) × Nat × Nat × (Option Addr) × Nat × Nat × (Option Addr) × Nat × Nat × (Option Addr) × (Option Addr) × Int × (Option Addr) × Nat × Nat × Int) (fun s w K1 =>
  glacierlaw2_DiskTwins_b1 s.1 s.2.1 s.2.2.1 s.2.2.2.1 s.2.2.2.2.1 s.2.2.2.2.2.1 s.2.2.2.2.2.2.1 s.2.2.2.2.2.2.2.1 s.2.2.2.2.2.2.2.2.1 s.2.2.2.2.2.2.2.2.2.1 s.2.2.2.2.2.2.2.2.2.2.1 s.2.2.2.2.2.2.2.2.2.2.2.1 s.2.2.2.2.2.2.2.2.2.2.2.2.1 s.2.2.2.2.2.2.2.2.2.2.2.2.2.1 s.2.2.2.2.2.2.2.2.2.2.2.2.2.2.1 s.2.2.2.2.2.2.2.2.2.2.2.2.2.2.2 K0 K1 w) (l18, l_n9, l_c9, left9, left_n9, left_c9, right9, right_n9, right_c9, d8, r_8, i7, b1, b_n, b_c, k2) w

def glacierlaw2_DiskTwins_b3 (l14 : Option Addr) (l_n8 : Nat) (l_c8 : Nat) (left8 : Option Addr) (left_n8 : Nat) (left_c8 : Nat) (right8 : Option Addr) (right_n8 : Nat) (right_c8 : Nat) (d7 : Option Addr) (r_7 : Option Addr) (i6 : Int) (K0 : ((Option Addr) × Nat × Nat × (Option Addr) × Nat × Nat × (Option Addr) × Nat × Nat × (Option Addr) × (Option Addr) × Int) → World → Prop) (w : World) : Prop :=
  IX l14 l_n8 i6 6 fun a4 =>
  LDS w (Addr.add a4 1) fun v18 =>
  CallR Try.prog fn_disk_Disk_Read #[(.pointer d7), (.string v18)] w fun res7 w_21 =>
  mTup res7 fun l15 =>
  mCons l15 fun v19 l16 =>
  mSlice v19 fun v20 v_n3 v_c3 =>
  mCons l16 fun v21 l17 =>
  mInt .i64 v21 fun _ =>
  mNil l17 (
  glacierlaw2_DiskTwins_b2 l14 l_n8 l_c8 left8 left_n8 left_c8 right8 right_n8 right_c8 d7 r_7 i6 v20 v_n3 v_c3 0 K0 w_21)

def glacierlaw2_DiskTwins_b4 (l13 : Option Addr) (l_n7 : Nat) (l_c7 : Nat) (left7 : Option Addr) (left_n7 : Nat) (left_c7 : Nat) (right7 : Option Addr) (right_n7 : Nat) (right_c7 : Nat) (d6 : Option Addr) (r_6 : Option Addr) (i5 : Int) (mine2 : Option Addr) (mine_n2 : Nat) (mine_c2 : Nat) (k1 : Int) (K0 : ((Option Addr) × Nat × Nat × (Option Addr) × Nat × Nat × (Option Addr) × Nat × Nat × (Option Addr) × (Option Addr) × Int) → World → Prop) (K1 : ((Option Addr) × Nat × Nat × (Option Addr) × Nat × Nat × (Option Addr) × Nat × Nat × (Option Addr) × (Option Addr) × Int × (Option Addr) × Nat × Nat × Int) → World → Prop) (w : World) : Prop :=
  Br (decide (k1 < (mine_n2 : Int))) (
  IX mine2 mine_n2 k1 1 fun a3 =>
  ST w a3 (.int .u8 122) fun w_20 =>
  K1 (l13, l_n7, l_c7, left7, left_n7, left_c7, right7, right_n7, right_c7, d6, r_6, i5, mine2, mine_n2, mine_c2, IntKind.wrap .i64 (k1 + 1)) w_20) (
  glacierlaw2_DiskTwins_b3 l13 l_n7 l_c7 left7 left_n7 left_c7 right7 right_n7 right_c7 d6 r_6 i5 K0 w)

def glacierlaw2_DiskTwins_b5 (l12 : Option Addr) (l_n6 : Nat) (l_c6 : Nat) (left6 : Option Addr) (left_n6 : Nat) (left_c6 : Nat) (right6 : Option Addr) (right_n6 : Nat) (right_c6 : Nat) (d5 : Option Addr) (r_5 : Option Addr) (i4 : Int) (mine1 : Option Addr) (mine_n1 : Nat) (mine_c1 : Nat) (k : Int) (K0 : ((Option Addr) × Nat × Nat × (Option Addr) × Nat × Nat × (Option Addr) × Nat × Nat × (Option Addr) × (Option Addr) × Int) → World → Prop) (w : World) : Prop :=
  LoopS (σ := (Option Addr) × Nat × Nat × (Option Addr) × Nat × Nat × (Option Addr) × Nat × Nat × (Option Addr) × (Option Addr) × Int × (Option Addr) × Nat × Nat × Int) (fun s w K1 =>
  glacierlaw2_DiskTwins_b4 s.1 s.2.1 s.2.2.1 s.2.2.2.1 s.2.2.2.2.1 s.2.2.2.2.2.1 s.2.2.2.2.2.2.1 s.2.2.2.2.2.2.2.1 s.2.2.2.2.2.2.2.2.1 s.2.2.2.2.2.2.2.2.2.1 s.2.2.2.2.2.2.2.2.2.2.1 s.2.2.2.2.2.2.2.2.2.2.2.1 s.2.2.2.2.2.2.2.2.2.2.2.2.1 s.2.2.2.2.2.2.2.2.2.2.2.2.2.1 s.2.2.2.2.2.2.2.2.2.2.2.2.2.2.1 s.2.2.2.2.2.2.2.2.2.2.2.2.2.2.2 K0 K1 w) (l12, l_n6, l_c6, left6, left_n6, left_c6, right6, right_n6, right_c6, d5, r_5, i4, mine1, mine_n1, mine_c1, k) w

def glacierlaw2_DiskTwins_b6 (l11 : Option Addr) (l_n5 : Nat) (l_c5 : Nat) (left5 : Option Addr) (left_n5 : Nat) (left_c5 : Nat) (right5 : Option Addr) (right_n5 : Nat) (right_c5 : Nat) (d4 : Option Addr) (r_4 : Option Addr) (i3 : Int) (mine : Option Addr) (mine_n : Nat) (mine_c : Nat) (K0 : ((Option Addr) × Nat × Nat × (Option Addr) × Nat × Nat × (Option Addr) × Nat × Nat × (Option Addr) × (Option Addr) × Int) → World → Prop) (w : World) : Prop :=
  glacierlaw2_DiskTwins_b5 l11 l_n5 l_c5 left5 left_n5 left_c5 right5 right_n5 right_c5 d4 r_4 i3 mine mine_n mine_c 0 K0 w

def glacierlaw2_DiskTwins_b7 (l10 : Option Addr) (l_n4 : Nat) (l_c4 : Nat) (left4 : Option Addr) (left_n4 : Nat) (left_c4 : Nat) (right4 : Option Addr) (right_n4 : Nat) (right_c4 : Nat) (d3 : Option Addr) (r_3 : Option Addr) (i2 : Int) (K0 : ((Option Addr) × Nat × Nat × (Option Addr) × Nat × Nat × (Option Addr) × Nat × Nat × (Option Addr) × (Option Addr) × Int) → World → Prop) (R : Value → World → Prop) (w : World) : Prop :=
  AL w (.cells #[] 5) fun b w_6 =>
  IX l10 l_n4 i2 6 fun a =>
  LDSl w_6 (Addr.add a 4) fun v12 v_n v_c =>
  rRun Try.prog (Builtin.append_ #[30, 30] 30 #[(.slice (some b) 0 0), (.slice v12 v_n v_c)]) w_6 fun sr w_7 =>
  mSlice sr fun v13 v_n1 v_c1 =>
  IX l10 l_n4 i2 6 fun a1 =>
  LDI .i64 w_7 a1 fun Op =>
  LDS w_7 (Addr.add a1 1) fun Name =>
  LDS w_7 (Addr.add a1 2) fun To =>
  LDSl w_7 (Addr.add a1 3) fun Names Names_n Names_c =>
  LDSl w_7 (Addr.add a1 4) fun Bytes Bytes_n Bytes_c =>
  LDSl w_7 (Addr.add a1 5) fun Picks Picks_n Picks_c =>
  AL w_7 (.cells #[(.int .i64 0), (.string (ByteArray.mk #[])), (.string (ByteArray.mk #[])), (.slice none 0 0), (.slice none 0 0), (.slice none 0 0)] 46) fun x w_8 =>
  ST w_8 x (.int .i64 Op) fun w_9 =>
  ST w_9 (Addr.add x 1) (.string Name) fun w_10 =>
  ST w_10 (Addr.add x 2) (.string To) fun w_11 =>
  ST w_11 (Addr.add x 3) (.slice Names Names_n Names_c) fun w_12 =>
  ST w_12 (Addr.add x 4) (.slice Bytes Bytes_n Bytes_c) fun w_13 =>
  ST w_13 (Addr.add x 5) (.slice Picks Picks_n Picks_c) fun w_14 =>
  ST w_14 (Addr.add x 4) (.slice v13 v_n1 v_c1) fun w_15 =>
  LDI .i64 w_15 x fun Op1 =>
  LDS w_15 (Addr.add x 1) fun Name1 =>
  LDS w_15 (Addr.add x 2) fun To1 =>
  LDSl w_15 (Addr.add x 3) fun Names1 Names_n1 Names_c1 =>
  LDSl w_15 (Addr.add x 4) fun Bytes1 Bytes_n1 Bytes_c1 =>
  LDSl w_15 (Addr.add x 5) fun Picks1 Picks_n1 Picks_c1 =>
  CallR Try.prog fn_glacierlaw2_step #[(.pointer d3), (.pointer r_3), (.agg #[(.int .i64 Op1), (.string Name1), (.string To1), (.slice Names1 Names_n1 Names_c1), (.slice Bytes1 Bytes_n1 Bytes_c1), (.slice Picks1 Picks_n1 Picks_c1)])] w_15 fun res6 w_16 =>
  mBool res6 fun _ =>
  LetW (World.drew w_16) fun w_17 =>
  rRun Try.prog (convert 30 9 (.slice v13 v_n1 v_c1)) w_17 fun sr1 w_18 =>
  mStr sr1 fun v15 =>
  (w_18 = w_17 ∧ 
  IX l10 l_n4 i2 6 fun a2 =>
  LDSl w_17 (Addr.add a2 4) fun v16 v_n2 v_c2 =>
  rRun Try.prog (convert 30 9 (.slice v16 v_n2 v_c2)) w_17 fun sr2 w_19 =>
  mStr sr2 fun v17 =>
  (w_19 = w_17 ∧ 
  Br (!(ByteArray.toList v15 == ByteArray.toList v17)) (
  R (.bool false) w_17) (
  glacierlaw2_DiskTwins_b6 l10 l_n4 l_c4 left4 left_n4 left_c4 right4 right_n4 right_c4 d3 r_3 i2 v13 v_n1 v_c1 K0 w_17)))

def glacierlaw2_DiskTwins_b8 (l21 : Option Addr) (l_n12 : Nat) (l_c12 : Nat) (left12 : Option Addr) (left_n12 : Nat) (left_c12 : Nat) (right12 : Option Addr) (right_n12 : Nat) (right_c12 : Nat) (d11 : Option Addr) (r_11 : Option Addr) (R : Value → World → Prop) (w : World) : Prop :=
  CallR Try.prog fn_glacierlaw2_same #[(.pointer d11), (.slice l21 l_n12 l_c12)] w fun res8 w_23 =>
  mBool res8 fun v23 =>
  Br (!v23) (
  R (.bool false) w_23) (
  CallR Try.prog fn_disk_Disk_Twin #[(.pointer d11)] w_23 fun res9 w_24 =>
  mPtr res9 fun v24 =>
  CallR Try.prog fn_glacierref2_Disk_Twin #[(.pointer r_11)] w_24 fun res10 w_25 =>
  mPtr res10 fun v25 =>
  Br (Option.isNone v24) (
  R (.bool false) w_25) (
  CallR Try.prog fn_glacierlaw2_play #[(.pointer d11), (.slice left12 left_n12 left_c12)] w_25 fun res11 w_26 =>
  mTup res11 fun l22 =>
  mNil l22 (
  CallR Try.prog fn_glacierlaw2_play #[(.pointer v24), (.slice right12 right_n12 right_c12)] w_26 fun res12 w_27 =>
  mTup res12 fun l23 =>
  mNil l23 (
  CallR Try.prog fn_disk_New #[(.int .i64 1048576)] w_27 fun res13 w_28 =>
  mTup res13 fun l24 =>
  mCons l24 fun v26 l25 =>
  mPtr v26 fun v27 =>
  mCons l25 fun v28 l26 =>
  mInt .i64 v28 fun _ =>
  mNil l26 (
  CallR Try.prog fn_disk_New #[(.int .i64 1048576)] w_28 fun res14 w_29 =>
  mTup res14 fun l27 =>
  mCons l27 fun v30 l28 =>
  mPtr v30 fun v31 =>
  mCons l28 fun v32 l29 =>
  mInt .i64 v32 fun _ =>
  mNil l29 (
  CallR Try.prog fn_glacierlaw2_play #[(.pointer v27), (.slice l21 l_n12 l_c12)] w_29 fun res15 w_30 =>
  mTup res15 fun l30 =>
  mNil l30 (
  CallR Try.prog fn_glacierlaw2_play #[(.pointer v27), (.slice left12 left_n12 left_c12)] w_30 fun res16 w_31 =>
  mTup res16 fun l31 =>
  mNil l31 (
  CallR Try.prog fn_glacierlaw2_play #[(.pointer v31), (.slice l21 l_n12 l_c12)] w_31 fun res17 w_32 =>
  mTup res17 fun l32 =>
  mNil l32 (
  CallR Try.prog fn_glacierlaw2_play #[(.pointer v31), (.slice right12 right_n12 right_c12)] w_32 fun res18 w_33 =>
  mTup res18 fun l33 =>
  mNil l33 (
  LetW (World.drew w_33) fun w_34 =>
  NN v25 fun p =>
  LDSl w_34 (Addr.add p 1) fun _ v_n4 _ =>
  (w_34 = w_34 ∧ 
  NN r_11 fun p1 =>
  LDSl w_34 (Addr.add p1 1) fun _ v_n5 _ =>
  (w_34 = w_34 ∧ 
  Br ((v_n4 : Int) == (v_n5 : Int)) (
  CallR Try.prog fn_glacierlaw2_equal #[(.pointer d11), (.pointer v27)] w_34 fun res19 w_35 =>
  mBool res19 fun v36 =>
  Br v36 (
  CallR Try.prog fn_glacierlaw2_equal #[(.pointer v24), (.pointer v31)] w_35 fun res20 w_36 =>
  mBool res20 fun v37 =>
  R (.bool v37) w_36) (
  R (.bool false) w_35)) (
  R (.bool false) w_34)))))))))))))

def glacierlaw2_DiskTwins_b9 (l9 : Option Addr) (l_n3 : Nat) (l_c3 : Nat) (left3 : Option Addr) (left_n3 : Nat) (left_c3 : Nat) (right3 : Option Addr) (right_n3 : Nat) (right_c3 : Nat) (d2 : Option Addr) (r_2 : Option Addr) (i1 : Int) (K0 : ((Option Addr) × Nat × Nat × (Option Addr) × Nat × Nat × (Option Addr) × Nat × Nat × (Option Addr) × (Option Addr) × Int) → World → Prop) (R : Value → World → Prop) (w : World) : Prop :=
  Br (decide (i1 < (l_n3 : Int))) (
  glacierlaw2_DiskTwins_b7 l9 l_n3 l_c3 left3 left_n3 left_c3 right3 right_n3 right_c3 d2 r_2 i1 K0 R w) (
  glacierlaw2_DiskTwins_b8 l9 l_n3 l_c3 left3 left_n3 left_c3 right3 right_n3 right_c3 d2 r_2 R w)

def glacierlaw2_DiskTwins_b10 (l8 : Option Addr) (l_n2 : Nat) (l_c2 : Nat) (left2 : Option Addr) (left_n2 : Nat) (left_c2 : Nat) (right2 : Option Addr) (right_n2 : Nat) (right_c2 : Nat) (d1 : Option Addr) (r_1 : Option Addr) (i : Int) (R : Value → World → Prop) (w : World) : Prop :=
  LoopS (σ := (Option Addr) × Nat × Nat × (Option Addr) × Nat × Nat × (Option Addr) × Nat × Nat × (Option Addr) × (Option Addr) × Int) (fun s w K0 =>
  glacierlaw2_DiskTwins_b9 s.1 s.2.1 s.2.2.1 s.2.2.2.1 s.2.2.2.2.1 s.2.2.2.2.2.1 s.2.2.2.2.2.2.1 s.2.2.2.2.2.2.2.1 s.2.2.2.2.2.2.2.2.1 s.2.2.2.2.2.2.2.2.2.1 s.2.2.2.2.2.2.2.2.2.2.1 s.2.2.2.2.2.2.2.2.2.2.2 K0 R w) (l8, l_n2, l_c2, left2, left_n2, left_c2, right2, right_n2, right_c2, d1, r_1, i) w

def glacierlaw2_DiskTwins_b11 (l7 : Option Addr) (l_n1 : Nat) (l_c1 : Nat) (left1 : Option Addr) (left_n1 : Nat) (left_c1 : Nat) (right1 : Option Addr) (right_n1 : Nat) (right_c1 : Nat) (d : Option Addr) (r_ : Option Addr) (R : Value → World → Prop) (w : World) : Prop :=
  glacierlaw2_DiskTwins_b10 l7 l_n1 l_c1 left1 left_n1 left_c1 right1 right_n1 right_c1 d r_ 0 R w

def glacierlaw2_DiskTwins_b12 (l : Option Addr) (l_n : Nat) (l_c : Nat) (left : Option Addr) (left_n : Nat) (left_c : Nat) (right : Option Addr) (right_n : Nat) (right_c : Nat) (R : Value → World → Prop) (w : World) : Prop :=
  CallR Try.prog fn_glacierlaw2_known #[] w fun res w_ =>
  mBool res fun v =>
  Br (!v) (
  R (.bool false) w_) (
  CallR Try.prog fn_glacierlaw2_few #[(.slice l l_n l_c)] w_ fun res1 w_1 =>
  mBool res1 fun v1 =>
  Br (!v1) (
  R (.bool true) w_1) (
  CallR Try.prog fn_glacierlaw2_few #[(.slice left left_n left_c)] w_1 fun res2 w_2 =>
  mBool res2 fun v2 =>
  Br (!v2) (
  R (.bool true) w_2) (
  CallR Try.prog fn_glacierlaw2_few #[(.slice right right_n right_c)] w_2 fun res3 w_3 =>
  mBool res3 fun v3 =>
  Br (!v3) (
  R (.bool true) w_3) (
  CallR Try.prog fn_disk_New #[(.int .i64 1048576)] w_3 fun res4 w_4 =>
  mTup res4 fun l1 =>
  mCons l1 fun v4 l2 =>
  mPtr v4 fun v5 =>
  mCons l2 fun v6 l3 =>
  mInt .i64 v6 fun v7 =>
  mNil l3 (
  CallR Try.prog fn_glacierref2_New #[(.int .i64 1048576)] w_4 fun res5 w_5 =>
  mTup res5 fun l4 =>
  mCons l4 fun v8 l5 =>
  mPtr v8 fun v9 =>
  mCons l5 fun v10 l6 =>
  mInt .i64 v10 fun _ =>
  mNil l6 (
  Br (v7 != 0) (
  R (.bool false) w_5) (
  Br (Option.isNone v5) (
  R (.bool false) w_5) (
  glacierlaw2_DiskTwins_b11 l l_n l_c left left_n left_c right right_n right_c v5 v9 R w_5))))))))

def glacierlaw2_DiskTwins_p0 : Point ((Option Addr) × Nat × Nat × (Option Addr) × Nat × Nat × (Option Addr) × Nat × Nat × (Option Addr) × (Option Addr)) := { slots := fun s => [(0, (.slice s.1 s.2.1 s.2.2.1)), (1, (.slice s.2.2.2.1 s.2.2.2.2.1 s.2.2.2.2.2.1)), (2, (.slice s.2.2.2.2.2.2.1 s.2.2.2.2.2.2.2.1 s.2.2.2.2.2.2.2.2.1)), (7, (.pointer s.2.2.2.2.2.2.2.2.2.1)), (9, (.pointer s.2.2.2.2.2.2.2.2.2.2))], dec := fun r K => mSlice (r 0) fun x x1 x2 => mSlice (r 1) fun x3 x4 x5 => mSlice (r 2) fun x6 x7 x8 => mPtr (r 7) fun x9 => mPtr (r 9) fun x10 => K (x, x1, x2, x3, x4, x5, x6, x7, x8, x9, x10) }
theorem glacierlaw2_DiskTwins_p0_ok : glacierlaw2_DiskTwins_p0.ok := by
  intro r K h
  unfold glacierlaw2_DiskTwins_p0 at h
  obtain ⟨x, x1, x2, e0, h⟩ := mSlice_elim h
  obtain ⟨x3, x4, x5, e1, h⟩ := mSlice_elim h
  obtain ⟨x6, x7, x8, e2, h⟩ := mSlice_elim h
  obtain ⟨x9, e3, h⟩ := mPtr_elim h
  obtain ⟨x10, e4, h⟩ := mPtr_elim h
  exact ⟨(x, x1, x2, x3, x4, x5, x6, x7, x8, x9, x10), regsOf_self (L := [(0, (.slice x x1 x2)), (1, (.slice x3 x4 x5)), (2, (.slice x6 x7 x8)), (7, (.pointer x9)), (9, (.pointer x10))]) (List.forall_mem_cons.2 ⟨e0, List.forall_mem_cons.2 ⟨e1, List.forall_mem_cons.2 ⟨e2, List.forall_mem_cons.2 ⟨e3, List.forall_mem_cons.2 ⟨e4, List.forall_mem_nil _⟩⟩⟩⟩⟩), h⟩
theorem glacierlaw2_DiskTwins_p0_re (s : (Option Addr) × Nat × Nat × (Option Addr) × Nat × Nat × (Option Addr) × Nat × Nat × (Option Addr) × (Option Addr)) (r : Regs) (K : ((Option Addr) × Nat × Nat × (Option Addr) × Nat × Nat × (Option Addr) × Nat × Nat × (Option Addr) × (Option Addr)) → Prop) (h : K s) : glacierlaw2_DiskTwins_p0.dec (regsOf (glacierlaw2_DiskTwins_p0.slots s) r) K := by
  obtain ⟨x11, x12, x13, x14, x15, x16, x17, x18, x19, x20, x21⟩ := s
  exact cast (show K (x11, x12, x13, x14, x15, x16, x17, x18, x19, x20, x21) = glacierlaw2_DiskTwins_p0.dec (regsOf (glacierlaw2_DiskTwins_p0.slots (x11, x12, x13, x14, x15, x16, x17, x18, x19, x20, x21)) r) K by kernel_rfl) h

def glacierlaw2_DiskTwins_p1 : Point ((Option Addr) × Nat × Nat × (Option Addr) × Nat × Nat × (Option Addr) × Nat × Nat × (Option Addr) × (Option Addr)) := { slots := fun s => [(0, (.slice s.1 s.2.1 s.2.2.1)), (1, (.slice s.2.2.2.1 s.2.2.2.2.1 s.2.2.2.2.2.1)), (2, (.slice s.2.2.2.2.2.2.1 s.2.2.2.2.2.2.2.1 s.2.2.2.2.2.2.2.2.1)), (7, (.pointer s.2.2.2.2.2.2.2.2.2.1)), (9, (.pointer s.2.2.2.2.2.2.2.2.2.2))], dec := fun r K => mSlice (r 0) fun x x1 x2 => mSlice (r 1) fun x3 x4 x5 => mSlice (r 2) fun x6 x7 x8 => mPtr (r 7) fun x9 => mPtr (r 9) fun x10 => K (x, x1, x2, x3, x4, x5, x6, x7, x8, x9, x10) }
theorem glacierlaw2_DiskTwins_p1_ok : glacierlaw2_DiskTwins_p1.ok := by
  intro r K h
  unfold glacierlaw2_DiskTwins_p1 at h
  obtain ⟨x, x1, x2, e0, h⟩ := mSlice_elim h
  obtain ⟨x3, x4, x5, e1, h⟩ := mSlice_elim h
  obtain ⟨x6, x7, x8, e2, h⟩ := mSlice_elim h
  obtain ⟨x9, e3, h⟩ := mPtr_elim h
  obtain ⟨x10, e4, h⟩ := mPtr_elim h
  exact ⟨(x, x1, x2, x3, x4, x5, x6, x7, x8, x9, x10), regsOf_self (L := [(0, (.slice x x1 x2)), (1, (.slice x3 x4 x5)), (2, (.slice x6 x7 x8)), (7, (.pointer x9)), (9, (.pointer x10))]) (List.forall_mem_cons.2 ⟨e0, List.forall_mem_cons.2 ⟨e1, List.forall_mem_cons.2 ⟨e2, List.forall_mem_cons.2 ⟨e3, List.forall_mem_cons.2 ⟨e4, List.forall_mem_nil _⟩⟩⟩⟩⟩), h⟩
theorem glacierlaw2_DiskTwins_p1_re (s : (Option Addr) × Nat × Nat × (Option Addr) × Nat × Nat × (Option Addr) × Nat × Nat × (Option Addr) × (Option Addr)) (r : Regs) (K : ((Option Addr) × Nat × Nat × (Option Addr) × Nat × Nat × (Option Addr) × Nat × Nat × (Option Addr) × (Option Addr)) → Prop) (h : K s) : glacierlaw2_DiskTwins_p1.dec (regsOf (glacierlaw2_DiskTwins_p1.slots s) r) K := by
  obtain ⟨x11, x12, x13, x14, x15, x16, x17, x18, x19, x20, x21⟩ := s
  exact cast (show K (x11, x12, x13, x14, x15, x16, x17, x18, x19, x20, x21) = glacierlaw2_DiskTwins_p1.dec (regsOf (glacierlaw2_DiskTwins_p1.slots (x11, x12, x13, x14, x15, x16, x17, x18, x19, x20, x21)) r) K by kernel_rfl) h

def glacierlaw2_DiskTwins_p2 : Point ((Option Addr) × Nat × Nat × (Option Addr) × Nat × Nat × (Option Addr) × Nat × Nat × (Option Addr) × (Option Addr) × Int) := { slots := fun s => [(0, (.slice s.1 s.2.1 s.2.2.1)), (1, (.slice s.2.2.2.1 s.2.2.2.2.1 s.2.2.2.2.2.1)), (2, (.slice s.2.2.2.2.2.2.1 s.2.2.2.2.2.2.2.1 s.2.2.2.2.2.2.2.2.1)), (7, (.pointer s.2.2.2.2.2.2.2.2.2.1)), (9, (.pointer s.2.2.2.2.2.2.2.2.2.2.1)), (11, (.int .i64 s.2.2.2.2.2.2.2.2.2.2.2))], dec := fun r K => mSlice (r 0) fun x x1 x2 => mSlice (r 1) fun x3 x4 x5 => mSlice (r 2) fun x6 x7 x8 => mPtr (r 7) fun x9 => mPtr (r 9) fun x10 => mInt .i64 (r 11) fun x11 => K (x, x1, x2, x3, x4, x5, x6, x7, x8, x9, x10, x11) }
theorem glacierlaw2_DiskTwins_p2_ok : glacierlaw2_DiskTwins_p2.ok := by
  intro r K h
  unfold glacierlaw2_DiskTwins_p2 at h
  obtain ⟨x, x1, x2, e0, h⟩ := mSlice_elim h
  obtain ⟨x3, x4, x5, e1, h⟩ := mSlice_elim h
  obtain ⟨x6, x7, x8, e2, h⟩ := mSlice_elim h
  obtain ⟨x9, e3, h⟩ := mPtr_elim h
  obtain ⟨x10, e4, h⟩ := mPtr_elim h
  obtain ⟨x11, e5, h⟩ := mInt_elim h
  exact ⟨(x, x1, x2, x3, x4, x5, x6, x7, x8, x9, x10, x11), regsOf_self (L := [(0, (.slice x x1 x2)), (1, (.slice x3 x4 x5)), (2, (.slice x6 x7 x8)), (7, (.pointer x9)), (9, (.pointer x10)), (11, (.int .i64 x11))]) (List.forall_mem_cons.2 ⟨e0, List.forall_mem_cons.2 ⟨e1, List.forall_mem_cons.2 ⟨e2, List.forall_mem_cons.2 ⟨e3, List.forall_mem_cons.2 ⟨e4, List.forall_mem_cons.2 ⟨e5, List.forall_mem_nil _⟩⟩⟩⟩⟩⟩), h⟩
theorem glacierlaw2_DiskTwins_p2_re (s : (Option Addr) × Nat × Nat × (Option Addr) × Nat × Nat × (Option Addr) × Nat × Nat × (Option Addr) × (Option Addr) × Int) (r : Regs) (K : ((Option Addr) × Nat × Nat × (Option Addr) × Nat × Nat × (Option Addr) × Nat × Nat × (Option Addr) × (Option Addr) × Int) → Prop) (h : K s) : glacierlaw2_DiskTwins_p2.dec (regsOf (glacierlaw2_DiskTwins_p2.slots s) r) K := by
  obtain ⟨x12, x13, x14, x15, x16, x17, x18, x19, x20, x21, x22, x23⟩ := s
  exact cast (show K (x12, x13, x14, x15, x16, x17, x18, x19, x20, x21, x22, x23) = glacierlaw2_DiskTwins_p2.dec (regsOf (glacierlaw2_DiskTwins_p2.slots (x12, x13, x14, x15, x16, x17, x18, x19, x20, x21, x22, x23)) r) K by kernel_rfl) h

def glacierlaw2_DiskTwins_p3 : Point ((Option Addr) × Nat × Nat × (Option Addr) × Nat × Nat × (Option Addr) × Nat × Nat × (Option Addr) × (Option Addr) × Int) := { slots := fun s => [(0, (.slice s.1 s.2.1 s.2.2.1)), (1, (.slice s.2.2.2.1 s.2.2.2.2.1 s.2.2.2.2.2.1)), (2, (.slice s.2.2.2.2.2.2.1 s.2.2.2.2.2.2.2.1 s.2.2.2.2.2.2.2.2.1)), (7, (.pointer s.2.2.2.2.2.2.2.2.2.1)), (9, (.pointer s.2.2.2.2.2.2.2.2.2.2.1)), (11, (.int .i64 s.2.2.2.2.2.2.2.2.2.2.2))], dec := fun r K => mSlice (r 0) fun x x1 x2 => mSlice (r 1) fun x3 x4 x5 => mSlice (r 2) fun x6 x7 x8 => mPtr (r 7) fun x9 => mPtr (r 9) fun x10 => mInt .i64 (r 11) fun x11 => K (x, x1, x2, x3, x4, x5, x6, x7, x8, x9, x10, x11) }
theorem glacierlaw2_DiskTwins_p3_ok : glacierlaw2_DiskTwins_p3.ok := by
  intro r K h
  unfold glacierlaw2_DiskTwins_p3 at h
  obtain ⟨x, x1, x2, e0, h⟩ := mSlice_elim h
  obtain ⟨x3, x4, x5, e1, h⟩ := mSlice_elim h
  obtain ⟨x6, x7, x8, e2, h⟩ := mSlice_elim h
  obtain ⟨x9, e3, h⟩ := mPtr_elim h
  obtain ⟨x10, e4, h⟩ := mPtr_elim h
  obtain ⟨x11, e5, h⟩ := mInt_elim h
  exact ⟨(x, x1, x2, x3, x4, x5, x6, x7, x8, x9, x10, x11), regsOf_self (L := [(0, (.slice x x1 x2)), (1, (.slice x3 x4 x5)), (2, (.slice x6 x7 x8)), (7, (.pointer x9)), (9, (.pointer x10)), (11, (.int .i64 x11))]) (List.forall_mem_cons.2 ⟨e0, List.forall_mem_cons.2 ⟨e1, List.forall_mem_cons.2 ⟨e2, List.forall_mem_cons.2 ⟨e3, List.forall_mem_cons.2 ⟨e4, List.forall_mem_cons.2 ⟨e5, List.forall_mem_nil _⟩⟩⟩⟩⟩⟩), h⟩
theorem glacierlaw2_DiskTwins_p3_re (s : (Option Addr) × Nat × Nat × (Option Addr) × Nat × Nat × (Option Addr) × Nat × Nat × (Option Addr) × (Option Addr) × Int) (r : Regs) (K : ((Option Addr) × Nat × Nat × (Option Addr) × Nat × Nat × (Option Addr) × Nat × Nat × (Option Addr) × (Option Addr) × Int) → Prop) (h : K s) : glacierlaw2_DiskTwins_p3.dec (regsOf (glacierlaw2_DiskTwins_p3.slots s) r) K := by
  obtain ⟨x12, x13, x14, x15, x16, x17, x18, x19, x20, x21, x22, x23⟩ := s
  exact cast (show K (x12, x13, x14, x15, x16, x17, x18, x19, x20, x21, x22, x23) = glacierlaw2_DiskTwins_p3.dec (regsOf (glacierlaw2_DiskTwins_p3.slots (x12, x13, x14, x15, x16, x17, x18, x19, x20, x21, x22, x23)) r) K by kernel_rfl) h

def glacierlaw2_DiskTwins_p4 : Point ((Option Addr) × Nat × Nat × (Option Addr) × Nat × Nat × (Option Addr) × Nat × Nat × (Option Addr) × (Option Addr) × Int) := { slots := fun s => [(0, (.slice s.1 s.2.1 s.2.2.1)), (1, (.slice s.2.2.2.1 s.2.2.2.2.1 s.2.2.2.2.2.1)), (2, (.slice s.2.2.2.2.2.2.1 s.2.2.2.2.2.2.2.1 s.2.2.2.2.2.2.2.2.1)), (7, (.pointer s.2.2.2.2.2.2.2.2.2.1)), (9, (.pointer s.2.2.2.2.2.2.2.2.2.2.1)), (11, (.int .i64 s.2.2.2.2.2.2.2.2.2.2.2))], dec := fun r K => mSlice (r 0) fun x x1 x2 => mSlice (r 1) fun x3 x4 x5 => mSlice (r 2) fun x6 x7 x8 => mPtr (r 7) fun x9 => mPtr (r 9) fun x10 => mInt .i64 (r 11) fun x11 => K (x, x1, x2, x3, x4, x5, x6, x7, x8, x9, x10, x11) }
theorem glacierlaw2_DiskTwins_p4_ok : glacierlaw2_DiskTwins_p4.ok := by
  intro r K h
  unfold glacierlaw2_DiskTwins_p4 at h
  obtain ⟨x, x1, x2, e0, h⟩ := mSlice_elim h
  obtain ⟨x3, x4, x5, e1, h⟩ := mSlice_elim h
  obtain ⟨x6, x7, x8, e2, h⟩ := mSlice_elim h
  obtain ⟨x9, e3, h⟩ := mPtr_elim h
  obtain ⟨x10, e4, h⟩ := mPtr_elim h
  obtain ⟨x11, e5, h⟩ := mInt_elim h
  exact ⟨(x, x1, x2, x3, x4, x5, x6, x7, x8, x9, x10, x11), regsOf_self (L := [(0, (.slice x x1 x2)), (1, (.slice x3 x4 x5)), (2, (.slice x6 x7 x8)), (7, (.pointer x9)), (9, (.pointer x10)), (11, (.int .i64 x11))]) (List.forall_mem_cons.2 ⟨e0, List.forall_mem_cons.2 ⟨e1, List.forall_mem_cons.2 ⟨e2, List.forall_mem_cons.2 ⟨e3, List.forall_mem_cons.2 ⟨e4, List.forall_mem_cons.2 ⟨e5, List.forall_mem_nil _⟩⟩⟩⟩⟩⟩), h⟩
theorem glacierlaw2_DiskTwins_p4_re (s : (Option Addr) × Nat × Nat × (Option Addr) × Nat × Nat × (Option Addr) × Nat × Nat × (Option Addr) × (Option Addr) × Int) (r : Regs) (K : ((Option Addr) × Nat × Nat × (Option Addr) × Nat × Nat × (Option Addr) × Nat × Nat × (Option Addr) × (Option Addr) × Int) → Prop) (h : K s) : glacierlaw2_DiskTwins_p4.dec (regsOf (glacierlaw2_DiskTwins_p4.slots s) r) K := by
  obtain ⟨x12, x13, x14, x15, x16, x17, x18, x19, x20, x21, x22, x23⟩ := s
  exact cast (show K (x12, x13, x14, x15, x16, x17, x18, x19, x20, x21, x22, x23) = glacierlaw2_DiskTwins_p4.dec (regsOf (glacierlaw2_DiskTwins_p4.slots (x12, x13, x14, x15, x16, x17, x18, x19, x20, x21, x22, x23)) r) K by kernel_rfl) h

def glacierlaw2_DiskTwins_p5 : Point ((Option Addr) × Nat × Nat × (Option Addr) × Nat × Nat × (Option Addr) × Nat × Nat × (Option Addr) × (Option Addr) × Int × (Option Addr) × Nat × Nat) := { slots := fun s => [(0, (.slice s.1 s.2.1 s.2.2.1)), (1, (.slice s.2.2.2.1 s.2.2.2.2.1 s.2.2.2.2.2.1)), (2, (.slice s.2.2.2.2.2.2.1 s.2.2.2.2.2.2.2.1 s.2.2.2.2.2.2.2.2.1)), (7, (.pointer s.2.2.2.2.2.2.2.2.2.1)), (9, (.pointer s.2.2.2.2.2.2.2.2.2.2.1)), (11, (.int .i64 s.2.2.2.2.2.2.2.2.2.2.2.1)), (12, (.slice s.2.2.2.2.2.2.2.2.2.2.2.2.1 s.2.2.2.2.2.2.2.2.2.2.2.2.2.1 s.2.2.2.2.2.2.2.2.2.2.2.2.2.2))], dec := fun r K => mSlice (r 0) fun x x1 x2 => mSlice (r 1) fun x3 x4 x5 => mSlice (r 2) fun x6 x7 x8 => mPtr (r 7) fun x9 => mPtr (r 9) fun x10 => mInt .i64 (r 11) fun x11 => mSlice (r 12) fun x12 x13 x14 => K (x, x1, x2, x3, x4, x5, x6, x7, x8, x9, x10, x11, x12, x13, x14) }
theorem glacierlaw2_DiskTwins_p5_ok : glacierlaw2_DiskTwins_p5.ok := by
  intro r K h
  unfold glacierlaw2_DiskTwins_p5 at h
  obtain ⟨x, x1, x2, e0, h⟩ := mSlice_elim h
  obtain ⟨x3, x4, x5, e1, h⟩ := mSlice_elim h
  obtain ⟨x6, x7, x8, e2, h⟩ := mSlice_elim h
  obtain ⟨x9, e3, h⟩ := mPtr_elim h
  obtain ⟨x10, e4, h⟩ := mPtr_elim h
  obtain ⟨x11, e5, h⟩ := mInt_elim h
  obtain ⟨x12, x13, x14, e6, h⟩ := mSlice_elim h
  exact ⟨(x, x1, x2, x3, x4, x5, x6, x7, x8, x9, x10, x11, x12, x13, x14), regsOf_self (L := [(0, (.slice x x1 x2)), (1, (.slice x3 x4 x5)), (2, (.slice x6 x7 x8)), (7, (.pointer x9)), (9, (.pointer x10)), (11, (.int .i64 x11)), (12, (.slice x12 x13 x14))]) (List.forall_mem_cons.2 ⟨e0, List.forall_mem_cons.2 ⟨e1, List.forall_mem_cons.2 ⟨e2, List.forall_mem_cons.2 ⟨e3, List.forall_mem_cons.2 ⟨e4, List.forall_mem_cons.2 ⟨e5, List.forall_mem_cons.2 ⟨e6, List.forall_mem_nil _⟩⟩⟩⟩⟩⟩⟩), h⟩
theorem glacierlaw2_DiskTwins_p5_re (s : (Option Addr) × Nat × Nat × (Option Addr) × Nat × Nat × (Option Addr) × Nat × Nat × (Option Addr) × (Option Addr) × Int × (Option Addr) × Nat × Nat) (r : Regs) (K : ((Option Addr) × Nat × Nat × (Option Addr) × Nat × Nat × (Option Addr) × Nat × Nat × (Option Addr) × (Option Addr) × Int × (Option Addr) × Nat × Nat) → Prop) (h : K s) : glacierlaw2_DiskTwins_p5.dec (regsOf (glacierlaw2_DiskTwins_p5.slots s) r) K := by
  obtain ⟨x15, x16, x17, x18, x19, x20, x21, x22, x23, x24, x25, x26, x27, x28, x29⟩ := s
  exact cast (show K (x15, x16, x17, x18, x19, x20, x21, x22, x23, x24, x25, x26, x27, x28, x29) = glacierlaw2_DiskTwins_p5.dec (regsOf (glacierlaw2_DiskTwins_p5.slots (x15, x16, x17, x18, x19, x20, x21, x22, x23, x24, x25, x26, x27, x28, x29)) r) K by kernel_rfl) h

def glacierlaw2_DiskTwins_p6 : Point ((Option Addr) × Nat × Nat × (Option Addr) × Nat × Nat × (Option Addr) × Nat × Nat × (Option Addr) × (Option Addr) × Int) := { slots := fun s => [(0, (.slice s.1 s.2.1 s.2.2.1)), (1, (.slice s.2.2.2.1 s.2.2.2.2.1 s.2.2.2.2.2.1)), (2, (.slice s.2.2.2.2.2.2.1 s.2.2.2.2.2.2.2.1 s.2.2.2.2.2.2.2.2.1)), (7, (.pointer s.2.2.2.2.2.2.2.2.2.1)), (9, (.pointer s.2.2.2.2.2.2.2.2.2.2.1)), (11, (.int .i64 s.2.2.2.2.2.2.2.2.2.2.2))], dec := fun r K => mSlice (r 0) fun x x1 x2 => mSlice (r 1) fun x3 x4 x5 => mSlice (r 2) fun x6 x7 x8 => mPtr (r 7) fun x9 => mPtr (r 9) fun x10 => mInt .i64 (r 11) fun x11 => K (x, x1, x2, x3, x4, x5, x6, x7, x8, x9, x10, x11) }
theorem glacierlaw2_DiskTwins_p6_ok : glacierlaw2_DiskTwins_p6.ok := by
  intro r K h
  unfold glacierlaw2_DiskTwins_p6 at h
  obtain ⟨x, x1, x2, e0, h⟩ := mSlice_elim h
  obtain ⟨x3, x4, x5, e1, h⟩ := mSlice_elim h
  obtain ⟨x6, x7, x8, e2, h⟩ := mSlice_elim h
  obtain ⟨x9, e3, h⟩ := mPtr_elim h
  obtain ⟨x10, e4, h⟩ := mPtr_elim h
  obtain ⟨x11, e5, h⟩ := mInt_elim h
  exact ⟨(x, x1, x2, x3, x4, x5, x6, x7, x8, x9, x10, x11), regsOf_self (L := [(0, (.slice x x1 x2)), (1, (.slice x3 x4 x5)), (2, (.slice x6 x7 x8)), (7, (.pointer x9)), (9, (.pointer x10)), (11, (.int .i64 x11))]) (List.forall_mem_cons.2 ⟨e0, List.forall_mem_cons.2 ⟨e1, List.forall_mem_cons.2 ⟨e2, List.forall_mem_cons.2 ⟨e3, List.forall_mem_cons.2 ⟨e4, List.forall_mem_cons.2 ⟨e5, List.forall_mem_nil _⟩⟩⟩⟩⟩⟩), h⟩
theorem glacierlaw2_DiskTwins_p6_re (s : (Option Addr) × Nat × Nat × (Option Addr) × Nat × Nat × (Option Addr) × Nat × Nat × (Option Addr) × (Option Addr) × Int) (r : Regs) (K : ((Option Addr) × Nat × Nat × (Option Addr) × Nat × Nat × (Option Addr) × Nat × Nat × (Option Addr) × (Option Addr) × Int) → Prop) (h : K s) : glacierlaw2_DiskTwins_p6.dec (regsOf (glacierlaw2_DiskTwins_p6.slots s) r) K := by
  obtain ⟨x12, x13, x14, x15, x16, x17, x18, x19, x20, x21, x22, x23⟩ := s
  exact cast (show K (x12, x13, x14, x15, x16, x17, x18, x19, x20, x21, x22, x23) = glacierlaw2_DiskTwins_p6.dec (regsOf (glacierlaw2_DiskTwins_p6.slots (x12, x13, x14, x15, x16, x17, x18, x19, x20, x21, x22, x23)) r) K by kernel_rfl) h

def glacierlaw2_DiskTwins_p7 : Point ((Option Addr) × Nat × Nat × (Option Addr) × Nat × Nat × (Option Addr) × Nat × Nat × (Option Addr) × (Option Addr) × Int × (Option Addr) × Nat × Nat × Int) := { slots := fun s => [(0, (.slice s.1 s.2.1 s.2.2.1)), (1, (.slice s.2.2.2.1 s.2.2.2.2.1 s.2.2.2.2.2.1)), (2, (.slice s.2.2.2.2.2.2.1 s.2.2.2.2.2.2.2.1 s.2.2.2.2.2.2.2.2.1)), (7, (.pointer s.2.2.2.2.2.2.2.2.2.1)), (9, (.pointer s.2.2.2.2.2.2.2.2.2.2.1)), (11, (.int .i64 s.2.2.2.2.2.2.2.2.2.2.2.1)), (15, (.slice s.2.2.2.2.2.2.2.2.2.2.2.2.1 s.2.2.2.2.2.2.2.2.2.2.2.2.2.1 s.2.2.2.2.2.2.2.2.2.2.2.2.2.2.1)), (17, (.int .i64 s.2.2.2.2.2.2.2.2.2.2.2.2.2.2.2))], dec := fun r K => mSlice (r 0) fun x x1 x2 => mSlice (r 1) fun x3 x4 x5 => mSlice (r 2) fun x6 x7 x8 => mPtr (r 7) fun x9 => mPtr (r 9) fun x10 => mInt .i64 (r 11) fun x11 => mSlice (r 15) fun x12 x13 x14 => mInt .i64 (r 17) fun x15 => K (x, x1, x2, x3, x4, x5, x6, x7, x8, x9, x10, x11, x12, x13, x14, x15) }
theorem glacierlaw2_DiskTwins_p7_ok : glacierlaw2_DiskTwins_p7.ok := by
  intro r K h
  unfold glacierlaw2_DiskTwins_p7 at h
  obtain ⟨x, x1, x2, e0, h⟩ := mSlice_elim h
  obtain ⟨x3, x4, x5, e1, h⟩ := mSlice_elim h
  obtain ⟨x6, x7, x8, e2, h⟩ := mSlice_elim h
  obtain ⟨x9, e3, h⟩ := mPtr_elim h
  obtain ⟨x10, e4, h⟩ := mPtr_elim h
  obtain ⟨x11, e5, h⟩ := mInt_elim h
  obtain ⟨x12, x13, x14, e6, h⟩ := mSlice_elim h
  obtain ⟨x15, e7, h⟩ := mInt_elim h
  exact ⟨(x, x1, x2, x3, x4, x5, x6, x7, x8, x9, x10, x11, x12, x13, x14, x15), regsOf_self (L := [(0, (.slice x x1 x2)), (1, (.slice x3 x4 x5)), (2, (.slice x6 x7 x8)), (7, (.pointer x9)), (9, (.pointer x10)), (11, (.int .i64 x11)), (15, (.slice x12 x13 x14)), (17, (.int .i64 x15))]) (List.forall_mem_cons.2 ⟨e0, List.forall_mem_cons.2 ⟨e1, List.forall_mem_cons.2 ⟨e2, List.forall_mem_cons.2 ⟨e3, List.forall_mem_cons.2 ⟨e4, List.forall_mem_cons.2 ⟨e5, List.forall_mem_cons.2 ⟨e6, List.forall_mem_cons.2 ⟨e7, List.forall_mem_nil _⟩⟩⟩⟩⟩⟩⟩⟩), h⟩
theorem glacierlaw2_DiskTwins_p7_re (s : (Option Addr) × Nat × Nat × (Option Addr) × Nat × Nat × (Option Addr) × Nat × Nat × (Option Addr) × (Option Addr) × Int × (Option Addr) × Nat × Nat × Int) (r : Regs) (K : ((Option Addr) × Nat × Nat × (Option Addr) × Nat × Nat × (Option Addr) × Nat × Nat × (Option Addr) × (Option Addr) × Int × (Option Addr) × Nat × Nat × Int) → Prop) (h : K s) : glacierlaw2_DiskTwins_p7.dec (regsOf (glacierlaw2_DiskTwins_p7.slots s) r) K := by
  obtain ⟨x16, x17, x18, x19, x20, x21, x22, x23, x24, x25, x26, x27, x28, x29, x30, x31⟩ := s
  exact cast (show K (x16, x17, x18, x19, x20, x21, x22, x23, x24, x25, x26, x27, x28, x29, x30, x31) = glacierlaw2_DiskTwins_p7.dec (regsOf (glacierlaw2_DiskTwins_p7.slots (x16, x17, x18, x19, x20, x21, x22, x23, x24, x25, x26, x27, x28, x29, x30, x31)) r) K by kernel_rfl) h

def glacierlaw2_DiskTwins_p8 : Point ((Option Addr) × Nat × Nat × (Option Addr) × Nat × Nat × (Option Addr) × Nat × Nat × (Option Addr) × (Option Addr) × Int × (Option Addr) × Nat × Nat × Int) := { slots := fun s => [(0, (.slice s.1 s.2.1 s.2.2.1)), (1, (.slice s.2.2.2.1 s.2.2.2.2.1 s.2.2.2.2.2.1)), (2, (.slice s.2.2.2.2.2.2.1 s.2.2.2.2.2.2.2.1 s.2.2.2.2.2.2.2.2.1)), (7, (.pointer s.2.2.2.2.2.2.2.2.2.1)), (9, (.pointer s.2.2.2.2.2.2.2.2.2.2.1)), (11, (.int .i64 s.2.2.2.2.2.2.2.2.2.2.2.1)), (12, (.slice s.2.2.2.2.2.2.2.2.2.2.2.2.1 s.2.2.2.2.2.2.2.2.2.2.2.2.2.1 s.2.2.2.2.2.2.2.2.2.2.2.2.2.2.1)), (14, (.int .i64 s.2.2.2.2.2.2.2.2.2.2.2.2.2.2.2))], dec := fun r K => mSlice (r 0) fun x x1 x2 => mSlice (r 1) fun x3 x4 x5 => mSlice (r 2) fun x6 x7 x8 => mPtr (r 7) fun x9 => mPtr (r 9) fun x10 => mInt .i64 (r 11) fun x11 => mSlice (r 12) fun x12 x13 x14 => mInt .i64 (r 14) fun x15 => K (x, x1, x2, x3, x4, x5, x6, x7, x8, x9, x10, x11, x12, x13, x14, x15) }
theorem glacierlaw2_DiskTwins_p8_ok : glacierlaw2_DiskTwins_p8.ok := by
  intro r K h
  unfold glacierlaw2_DiskTwins_p8 at h
  obtain ⟨x, x1, x2, e0, h⟩ := mSlice_elim h
  obtain ⟨x3, x4, x5, e1, h⟩ := mSlice_elim h
  obtain ⟨x6, x7, x8, e2, h⟩ := mSlice_elim h
  obtain ⟨x9, e3, h⟩ := mPtr_elim h
  obtain ⟨x10, e4, h⟩ := mPtr_elim h
  obtain ⟨x11, e5, h⟩ := mInt_elim h
  obtain ⟨x12, x13, x14, e6, h⟩ := mSlice_elim h
  obtain ⟨x15, e7, h⟩ := mInt_elim h
  exact ⟨(x, x1, x2, x3, x4, x5, x6, x7, x8, x9, x10, x11, x12, x13, x14, x15), regsOf_self (L := [(0, (.slice x x1 x2)), (1, (.slice x3 x4 x5)), (2, (.slice x6 x7 x8)), (7, (.pointer x9)), (9, (.pointer x10)), (11, (.int .i64 x11)), (12, (.slice x12 x13 x14)), (14, (.int .i64 x15))]) (List.forall_mem_cons.2 ⟨e0, List.forall_mem_cons.2 ⟨e1, List.forall_mem_cons.2 ⟨e2, List.forall_mem_cons.2 ⟨e3, List.forall_mem_cons.2 ⟨e4, List.forall_mem_cons.2 ⟨e5, List.forall_mem_cons.2 ⟨e6, List.forall_mem_cons.2 ⟨e7, List.forall_mem_nil _⟩⟩⟩⟩⟩⟩⟩⟩), h⟩
theorem glacierlaw2_DiskTwins_p8_re (s : (Option Addr) × Nat × Nat × (Option Addr) × Nat × Nat × (Option Addr) × Nat × Nat × (Option Addr) × (Option Addr) × Int × (Option Addr) × Nat × Nat × Int) (r : Regs) (K : ((Option Addr) × Nat × Nat × (Option Addr) × Nat × Nat × (Option Addr) × Nat × Nat × (Option Addr) × (Option Addr) × Int × (Option Addr) × Nat × Nat × Int) → Prop) (h : K s) : glacierlaw2_DiskTwins_p8.dec (regsOf (glacierlaw2_DiskTwins_p8.slots s) r) K := by
  obtain ⟨x16, x17, x18, x19, x20, x21, x22, x23, x24, x25, x26, x27, x28, x29, x30, x31⟩ := s
  exact cast (show K (x16, x17, x18, x19, x20, x21, x22, x23, x24, x25, x26, x27, x28, x29, x30, x31) = glacierlaw2_DiskTwins_p8.dec (regsOf (glacierlaw2_DiskTwins_p8.slots (x16, x17, x18, x19, x20, x21, x22, x23, x24, x25, x26, x27, x28, x29, x30, x31)) r) K by kernel_rfl) h

theorem glacierlaw2_DiskTwins_sound (l : Option Addr) (l_n : Nat) (l_c : Nat) (left : Option Addr) (left_n : Nat) (left_c : Nat) (right : Option Addr) (right_n : Nat) (right_c : Nat) (R : Value → World → Prop) (w : World) (h : glacierlaw2_DiskTwins_b12 l l_n l_c left left_n left_c right right_n right_c R w) :
    CallR Try.prog fn_glacierlaw2_DiskTwins #[(.slice l l_n l_c), (.slice left left_n left_c), (.slice right right_n right_c)] w R := by
  refine CallR_intro (args := [(.slice l l_n l_c), (.slice left left_n left_c), (.slice right right_n right_c)]) Try.func6 rfl (Nat.le_of_ble_eq_true (by kernel_rfl)) ?_
  refine Wp_glue glacierlaw2_DiskTwins_p0 (fun s w => glacierlaw2_DiskTwins_b11 s.1 s.2.1 s.2.2.1 s.2.2.2.1 s.2.2.2.2.1 s.2.2.2.2.2.1 s.2.2.2.2.2.2.1 s.2.2.2.2.2.2.2.1 s.2.2.2.2.2.2.2.2.1 s.2.2.2.2.2.2.2.2.2.1 s.2.2.2.2.2.2.2.2.2.2 R w) [_, _, _, _, _, _] (Q0 := fun e _ r w => match e with | .normal => glacierlaw2_DiskTwins_p0.dec r (fun s => glacierlaw2_DiskTwins_b11 s.1 s.2.1 s.2.2.1 s.2.2.2.1 s.2.2.2.2.1 s.2.2.2.2.2.1 s.2.2.2.2.2.2.1 s.2.2.2.2.2.2.2.1 s.2.2.2.2.2.2.2.2.1 s.2.2.2.2.2.2.2.2.2.1 s.2.2.2.2.2.2.2.2.2.2 R w) | .exit _ => False | .ret => retQ Try.prog Try.f6.results R .ret [] r w | _ => False) h (by kernel_rfl) (fun s r w h => ?_) glacierlaw2_DiskTwins_p0_ok (fun _ _ _ h => h) ?_
  · obtain ⟨l7, l_n1, l_c1, left1, left_n1, left_c1, right1, right_n1, right_c1, d, r_⟩ := s
    have h : glacierlaw2_DiskTwins_b11 l7 l_n1 l_c1 left1 left_n1 left_c1 right1 right_n1 right_c1 d r_ R w := h
    refine Wp_seq_via glacierlaw2_DiskTwins_p1 (fun s w => glacierlaw2_DiskTwins_b8 s.1 s.2.1 s.2.2.1 s.2.2.2.1 s.2.2.2.2.1 s.2.2.2.2.2.1 s.2.2.2.2.2.2.1 s.2.2.2.2.2.2.2.1 s.2.2.2.2.2.2.2.2.1 s.2.2.2.2.2.2.2.2.2.1 s.2.2.2.2.2.2.2.2.2.2 R w) (fun s r w h => ?_) (fun hN1 => ?_)
    · obtain ⟨l21, l_n12, l_c12, left12, left_n12, left_c12, right12, right_n12, right_c12, d11, r_11⟩ := s
      have h : glacierlaw2_DiskTwins_b8 l21 l_n12 l_c12 left12 left_n12 left_c12 right12 right_n12 right_c12 d11 r_11 R w := h
      refine Wp_leaf_end (Q0 := fun e _ r w => match e with | .normal => retQ Try.prog Try.f6.results R .normal [] r w | .exit _ => False | .ret => retQ Try.prog Try.f6.results R .ret [] r w | _ => False) h (by kernel_rfl) ?_
      intro e _ r w h
      cases e with
      | normal => exact h
      | exit i => exact h.elim
      | ret => exact h
      | goto i => exact h.elim
      | panic c => exact h.elim
      | outgrown => exact h.elim
    · refine Wp_glue glacierlaw2_DiskTwins_p2 (fun s w => glacierlaw2_DiskTwins_b10 s.1 s.2.1 s.2.2.1 s.2.2.2.1 s.2.2.2.2.1 s.2.2.2.2.2.1 s.2.2.2.2.2.2.1 s.2.2.2.2.2.2.2.1 s.2.2.2.2.2.2.2.2.1 s.2.2.2.2.2.2.2.2.2.1 s.2.2.2.2.2.2.2.2.2.2.1 s.2.2.2.2.2.2.2.2.2.2.2 R w) [_] (Q0 := fun e _ r w => match e with | .normal => glacierlaw2_DiskTwins_p2.dec r (fun s => glacierlaw2_DiskTwins_b10 s.1 s.2.1 s.2.2.1 s.2.2.2.1 s.2.2.2.2.1 s.2.2.2.2.2.1 s.2.2.2.2.2.2.1 s.2.2.2.2.2.2.2.1 s.2.2.2.2.2.2.2.2.1 s.2.2.2.2.2.2.2.2.2.1 s.2.2.2.2.2.2.2.2.2.2.1 s.2.2.2.2.2.2.2.2.2.2.2 R w) | .exit _ => False | .ret => retQ Try.prog Try.f6.results R .ret [] r w | _ => False) h (by kernel_rfl) (fun s r w h => ?_) glacierlaw2_DiskTwins_p2_ok (fun _ _ _ h => h) ?_
      · obtain ⟨l8, l_n2, l_c2, left2, left_n2, left_c2, right2, right_n2, right_c2, d1, r_1, i⟩ := s
        have h : glacierlaw2_DiskTwins_b10 l8 l_n2 l_c2 left2 left_n2 left_c2 right2 right_n2 right_c2 d1 r_1 i R w := h
        refine Wp_block_via glacierlaw2_DiskTwins_p1 (fun s w => glacierlaw2_DiskTwins_b8 s.1 s.2.1 s.2.2.1 s.2.2.2.1 s.2.2.2.2.1 s.2.2.2.2.2.1 s.2.2.2.2.2.2.1 s.2.2.2.2.2.2.2.1 s.2.2.2.2.2.2.2.2.1 s.2.2.2.2.2.2.2.2.2.1 s.2.2.2.2.2.2.2.2.2.2 R w) hN1 (fun hX2 => ?_)
        refine Wp_loop (p := glacierlaw2_DiskTwins_p2) glacierlaw2_DiskTwins_p2_ok (fun s r w K0 h => ?_) h
        obtain ⟨l9, l_n3, l_c3, left3, left_n3, left_c3, right3, right_n3, right_c3, d2, r_2, i1⟩ := s
        have h : glacierlaw2_DiskTwins_b9 l9 l_n3 l_c3 left3 left_n3 left_c3 right3 right_n3 right_c3 d2 r_2 i1 K0 R w := h
        have hK3 := fun (s : (Option Addr) × Nat × Nat × (Option Addr) × Nat × Nat × (Option Addr) × Nat × Nat × (Option Addr) × (Option Addr) × Int) (r : Regs) (w : World) (h : K0 s w) => glacierlaw2_DiskTwins_p2_re s r (fun s => K0 s w) h
        refine Wp_glue glacierlaw2_DiskTwins_p3 (fun s w => glacierlaw2_DiskTwins_b7 s.1 s.2.1 s.2.2.1 s.2.2.2.1 s.2.2.2.2.1 s.2.2.2.2.2.1 s.2.2.2.2.2.2.1 s.2.2.2.2.2.2.2.1 s.2.2.2.2.2.2.2.2.1 s.2.2.2.2.2.2.2.2.2.1 s.2.2.2.2.2.2.2.2.2.2.1 s.2.2.2.2.2.2.2.2.2.2.2 K0 R w) [_] (Q0 := fun e _ r w => match e with | .normal => glacierlaw2_DiskTwins_p3.dec r (fun s => glacierlaw2_DiskTwins_b7 s.1 s.2.1 s.2.2.1 s.2.2.2.1 s.2.2.2.2.1 s.2.2.2.2.2.1 s.2.2.2.2.2.2.1 s.2.2.2.2.2.2.2.1 s.2.2.2.2.2.2.2.2.1 s.2.2.2.2.2.2.2.2.2.1 s.2.2.2.2.2.2.2.2.2.2.1 s.2.2.2.2.2.2.2.2.2.2.2 K0 R w) | .exit i => exitQ i 0 (glacierlaw2_DiskTwins_p1.dec r (fun s => glacierlaw2_DiskTwins_b8 s.1 s.2.1 s.2.2.1 s.2.2.2.1 s.2.2.2.2.1 s.2.2.2.2.2.1 s.2.2.2.2.2.2.1 s.2.2.2.2.2.2.2.1 s.2.2.2.2.2.2.2.2.1 s.2.2.2.2.2.2.2.2.2.1 s.2.2.2.2.2.2.2.2.2.2 R w)) (False) | .ret => retQ Try.prog Try.f6.results R .ret [] r w | _ => False) h (by kernel_rfl) (fun s r w h => ?_) glacierlaw2_DiskTwins_p3_ok (fun _ _ _ h => h) ?_
        · obtain ⟨l10, l_n4, l_c4, left4, left_n4, left_c4, right4, right_n4, right_c4, d3, r_3, i2⟩ := s
          have h : glacierlaw2_DiskTwins_b7 l10 l_n4 l_c4 left4 left_n4 left_c4 right4 right_n4 right_c4 d3 r_3 i2 K0 R w := h
          refine Wp_seq_via glacierlaw2_DiskTwins_p4 (fun s w => glacierlaw2_DiskTwins_b0 s.1 s.2.1 s.2.2.1 s.2.2.2.1 s.2.2.2.2.1 s.2.2.2.2.2.1 s.2.2.2.2.2.2.1 s.2.2.2.2.2.2.2.1 s.2.2.2.2.2.2.2.2.1 s.2.2.2.2.2.2.2.2.2.1 s.2.2.2.2.2.2.2.2.2.2.1 s.2.2.2.2.2.2.2.2.2.2.2 K0 w) (fun s r w h => ?_) (fun hN4 => ?_)
          · obtain ⟨l20, l_n11, l_c11, left11, left_n11, left_c11, right11, right_n11, right_c11, d10, r_10, i9⟩ := s
            have h : glacierlaw2_DiskTwins_b0 l20 l_n11 l_c11 left11 left_n11 left_c11 right11 right_n11 right_c11 d10 r_10 i9 K0 w := h
            refine Wp_leaf_end (Q0 := fun e _ r w => match e with | .normal => glacierlaw2_DiskTwins_p2.dec r (fun s => K0 s w) | .exit i => exitQ i 0 (glacierlaw2_DiskTwins_p1.dec r (fun s => glacierlaw2_DiskTwins_b8 s.1 s.2.1 s.2.2.1 s.2.2.2.1 s.2.2.2.2.1 s.2.2.2.2.2.1 s.2.2.2.2.2.2.1 s.2.2.2.2.2.2.2.1 s.2.2.2.2.2.2.2.2.1 s.2.2.2.2.2.2.2.2.2.1 s.2.2.2.2.2.2.2.2.2.2 R w)) (False) | .ret => retQ Try.prog Try.f6.results R .ret [] r w | _ => False) h (by kernel_rfl) ?_
            intro e _ r w h
            cases e with
            | normal =>
              obtain ⟨s, hs, h⟩ := glacierlaw2_DiskTwins_p2_ok _ _ h
              rw [← hs]
              exact hK3 s r w h
            | exit i =>
              rcases exitQ_elim h with ⟨rfl, h⟩ | ⟨_, h⟩
              · obtain ⟨s, hs, h⟩ := glacierlaw2_DiskTwins_p1_ok _ _ h
                rw [← hs]
                exact hX2 s r w h
              exact h.elim
            | ret => exact h
            | goto i => exact h.elim
            | panic c => exact h.elim
            | outgrown => exact h.elim
          · refine Wp_block_via glacierlaw2_DiskTwins_p4 (fun s w => glacierlaw2_DiskTwins_b0 s.1 s.2.1 s.2.2.1 s.2.2.2.1 s.2.2.2.2.1 s.2.2.2.2.2.1 s.2.2.2.2.2.2.1 s.2.2.2.2.2.2.2.1 s.2.2.2.2.2.2.2.2.1 s.2.2.2.2.2.2.2.2.2.1 s.2.2.2.2.2.2.2.2.2.2.1 s.2.2.2.2.2.2.2.2.2.2.2 K0 w) hN4 (fun hX5 => ?_)
            refine Wp_glue glacierlaw2_DiskTwins_p5 (fun s w => glacierlaw2_DiskTwins_b6 s.1 s.2.1 s.2.2.1 s.2.2.2.1 s.2.2.2.2.1 s.2.2.2.2.2.1 s.2.2.2.2.2.2.1 s.2.2.2.2.2.2.2.1 s.2.2.2.2.2.2.2.2.1 s.2.2.2.2.2.2.2.2.2.1 s.2.2.2.2.2.2.2.2.2.2.1 s.2.2.2.2.2.2.2.2.2.2.2.1 s.2.2.2.2.2.2.2.2.2.2.2.2.1 s.2.2.2.2.2.2.2.2.2.2.2.2.2.1 s.2.2.2.2.2.2.2.2.2.2.2.2.2.2 K0 w) [_, _, _, _, _] (Q0 := fun e _ r w => match e with | .normal => glacierlaw2_DiskTwins_p5.dec r (fun s => glacierlaw2_DiskTwins_b6 s.1 s.2.1 s.2.2.1 s.2.2.2.1 s.2.2.2.2.1 s.2.2.2.2.2.1 s.2.2.2.2.2.2.1 s.2.2.2.2.2.2.2.1 s.2.2.2.2.2.2.2.2.1 s.2.2.2.2.2.2.2.2.2.1 s.2.2.2.2.2.2.2.2.2.2.1 s.2.2.2.2.2.2.2.2.2.2.2.1 s.2.2.2.2.2.2.2.2.2.2.2.2.1 s.2.2.2.2.2.2.2.2.2.2.2.2.2.1 s.2.2.2.2.2.2.2.2.2.2.2.2.2.2 K0 w) | .exit i => exitQ i 0 (glacierlaw2_DiskTwins_p1.dec r (fun s => glacierlaw2_DiskTwins_b8 s.1 s.2.1 s.2.2.1 s.2.2.2.1 s.2.2.2.2.1 s.2.2.2.2.2.1 s.2.2.2.2.2.2.1 s.2.2.2.2.2.2.2.1 s.2.2.2.2.2.2.2.2.1 s.2.2.2.2.2.2.2.2.2.1 s.2.2.2.2.2.2.2.2.2.2 R w)) (exitQ i 1 (glacierlaw2_DiskTwins_p4.dec r (fun s => glacierlaw2_DiskTwins_b0 s.1 s.2.1 s.2.2.1 s.2.2.2.1 s.2.2.2.2.1 s.2.2.2.2.2.1 s.2.2.2.2.2.2.1 s.2.2.2.2.2.2.2.1 s.2.2.2.2.2.2.2.2.1 s.2.2.2.2.2.2.2.2.2.1 s.2.2.2.2.2.2.2.2.2.2.1 s.2.2.2.2.2.2.2.2.2.2.2 K0 w)) (False)) | .ret => retQ Try.prog Try.f6.results R .ret [] r w | _ => False) h (by kernel_rfl) (fun s r w h => ?_) glacierlaw2_DiskTwins_p5_ok (fun _ _ _ h => h) ?_
            · obtain ⟨l11, l_n5, l_c5, left5, left_n5, left_c5, right5, right_n5, right_c5, d4, r_4, i3, mine, mine_n, mine_c⟩ := s
              have h : glacierlaw2_DiskTwins_b6 l11 l_n5 l_c5 left5 left_n5 left_c5 right5 right_n5 right_c5 d4 r_4 i3 mine mine_n mine_c K0 w := h
              refine Wp_seq_via glacierlaw2_DiskTwins_p6 (fun s w => glacierlaw2_DiskTwins_b3 s.1 s.2.1 s.2.2.1 s.2.2.2.1 s.2.2.2.2.1 s.2.2.2.2.2.1 s.2.2.2.2.2.2.1 s.2.2.2.2.2.2.2.1 s.2.2.2.2.2.2.2.2.1 s.2.2.2.2.2.2.2.2.2.1 s.2.2.2.2.2.2.2.2.2.2.1 s.2.2.2.2.2.2.2.2.2.2.2 K0 w) (fun s r w h => ?_) (fun hN6 => ?_)
              · obtain ⟨l14, l_n8, l_c8, left8, left_n8, left_c8, right8, right_n8, right_c8, d7, r_7, i6⟩ := s
                have h : glacierlaw2_DiskTwins_b3 l14 l_n8 l_c8 left8 left_n8 left_c8 right8 right_n8 right_c8 d7 r_7 i6 K0 w := h
                refine Wp_glue glacierlaw2_DiskTwins_p7 (fun s w => glacierlaw2_DiskTwins_b2 s.1 s.2.1 s.2.2.1 s.2.2.2.1 s.2.2.2.2.1 s.2.2.2.2.2.1 s.2.2.2.2.2.2.1 s.2.2.2.2.2.2.2.1 s.2.2.2.2.2.2.2.2.1 s.2.2.2.2.2.2.2.2.2.1 s.2.2.2.2.2.2.2.2.2.2.1 s.2.2.2.2.2.2.2.2.2.2.2.1 s.2.2.2.2.2.2.2.2.2.2.2.2.1 s.2.2.2.2.2.2.2.2.2.2.2.2.2.1 s.2.2.2.2.2.2.2.2.2.2.2.2.2.2.1 s.2.2.2.2.2.2.2.2.2.2.2.2.2.2.2 K0 w) [_, _] (Q0 := fun e _ r w => match e with | .normal => glacierlaw2_DiskTwins_p7.dec r (fun s => glacierlaw2_DiskTwins_b2 s.1 s.2.1 s.2.2.1 s.2.2.2.1 s.2.2.2.2.1 s.2.2.2.2.2.1 s.2.2.2.2.2.2.1 s.2.2.2.2.2.2.2.1 s.2.2.2.2.2.2.2.2.1 s.2.2.2.2.2.2.2.2.2.1 s.2.2.2.2.2.2.2.2.2.2.1 s.2.2.2.2.2.2.2.2.2.2.2.1 s.2.2.2.2.2.2.2.2.2.2.2.2.1 s.2.2.2.2.2.2.2.2.2.2.2.2.2.1 s.2.2.2.2.2.2.2.2.2.2.2.2.2.2.1 s.2.2.2.2.2.2.2.2.2.2.2.2.2.2.2 K0 w) | .exit i => exitQ i 0 (glacierlaw2_DiskTwins_p1.dec r (fun s => glacierlaw2_DiskTwins_b8 s.1 s.2.1 s.2.2.1 s.2.2.2.1 s.2.2.2.2.1 s.2.2.2.2.2.1 s.2.2.2.2.2.2.1 s.2.2.2.2.2.2.2.1 s.2.2.2.2.2.2.2.2.1 s.2.2.2.2.2.2.2.2.2.1 s.2.2.2.2.2.2.2.2.2.2 R w)) (exitQ i 1 (glacierlaw2_DiskTwins_p4.dec r (fun s => glacierlaw2_DiskTwins_b0 s.1 s.2.1 s.2.2.1 s.2.2.2.1 s.2.2.2.2.1 s.2.2.2.2.2.1 s.2.2.2.2.2.2.1 s.2.2.2.2.2.2.2.1 s.2.2.2.2.2.2.2.2.1 s.2.2.2.2.2.2.2.2.2.1 s.2.2.2.2.2.2.2.2.2.2.1 s.2.2.2.2.2.2.2.2.2.2.2 K0 w)) (False)) | .ret => retQ Try.prog Try.f6.results R .ret [] r w | _ => False) h (by kernel_rfl) (fun s r w h => ?_) glacierlaw2_DiskTwins_p7_ok (fun _ _ _ h => h) ?_
                · obtain ⟨l18, l_n9, l_c9, left9, left_n9, left_c9, right9, right_n9, right_c9, d8, r_8, i7, b1, b_n, b_c, k2⟩ := s
                  have h : glacierlaw2_DiskTwins_b2 l18 l_n9 l_c9 left9 left_n9 left_c9 right9 right_n9 right_c9 d8 r_8 i7 b1 b_n b_c k2 K0 w := h
                  refine Wp_block_via glacierlaw2_DiskTwins_p4 (fun s w => glacierlaw2_DiskTwins_b0 s.1 s.2.1 s.2.2.1 s.2.2.2.1 s.2.2.2.2.1 s.2.2.2.2.2.1 s.2.2.2.2.2.2.1 s.2.2.2.2.2.2.2.1 s.2.2.2.2.2.2.2.2.1 s.2.2.2.2.2.2.2.2.2.1 s.2.2.2.2.2.2.2.2.2.2.1 s.2.2.2.2.2.2.2.2.2.2.2 K0 w) hN4 (fun hX7 => ?_)
                  refine Wp_loop (p := glacierlaw2_DiskTwins_p7) glacierlaw2_DiskTwins_p7_ok (fun s r w K1 h => ?_) h
                  obtain ⟨l19, l_n10, l_c10, left10, left_n10, left_c10, right10, right_n10, right_c10, d9, r_9, i8, b2, b_n1, b_c1, k3⟩ := s
                  have h : glacierlaw2_DiskTwins_b1 l19 l_n10 l_c10 left10 left_n10 left_c10 right10 right_n10 right_c10 d9 r_9 i8 b2 b_n1 b_c1 k3 K0 K1 w := h
                  have hK8 := fun (s : (Option Addr) × Nat × Nat × (Option Addr) × Nat × Nat × (Option Addr) × Nat × Nat × (Option Addr) × (Option Addr) × Int × (Option Addr) × Nat × Nat × Int) (r : Regs) (w : World) (h : K1 s w) => glacierlaw2_DiskTwins_p7_re s r (fun s => K1 s w) h
                  refine Wp_leaf_end (Q0 := fun e _ r w => match e with | .normal => glacierlaw2_DiskTwins_p7.dec r (fun s => K1 s w) | .exit i => exitQ i 0 (glacierlaw2_DiskTwins_p1.dec r (fun s => glacierlaw2_DiskTwins_b8 s.1 s.2.1 s.2.2.1 s.2.2.2.1 s.2.2.2.2.1 s.2.2.2.2.2.1 s.2.2.2.2.2.2.1 s.2.2.2.2.2.2.2.1 s.2.2.2.2.2.2.2.2.1 s.2.2.2.2.2.2.2.2.2.1 s.2.2.2.2.2.2.2.2.2.2 R w)) (exitQ i 1 (glacierlaw2_DiskTwins_p4.dec r (fun s => glacierlaw2_DiskTwins_b0 s.1 s.2.1 s.2.2.1 s.2.2.2.1 s.2.2.2.2.1 s.2.2.2.2.2.1 s.2.2.2.2.2.2.1 s.2.2.2.2.2.2.2.1 s.2.2.2.2.2.2.2.2.1 s.2.2.2.2.2.2.2.2.2.1 s.2.2.2.2.2.2.2.2.2.2.1 s.2.2.2.2.2.2.2.2.2.2.2 K0 w)) (exitQ i 4 (glacierlaw2_DiskTwins_p4.dec r (fun s => glacierlaw2_DiskTwins_b0 s.1 s.2.1 s.2.2.1 s.2.2.2.1 s.2.2.2.2.1 s.2.2.2.2.2.1 s.2.2.2.2.2.2.1 s.2.2.2.2.2.2.2.1 s.2.2.2.2.2.2.2.2.1 s.2.2.2.2.2.2.2.2.2.1 s.2.2.2.2.2.2.2.2.2.2.1 s.2.2.2.2.2.2.2.2.2.2.2 K0 w)) (False))) | .ret => retQ Try.prog Try.f6.results R .ret [] r w | _ => False) h (by kernel_rfl) ?_
                  intro e _ r w h
                  cases e with
                  | normal =>
                    obtain ⟨s, hs, h⟩ := glacierlaw2_DiskTwins_p7_ok _ _ h
                    rw [← hs]
                    exact hK8 s r w h
                  | exit i =>
                    rcases exitQ_elim h with ⟨rfl, h⟩ | ⟨_, h⟩
                    · obtain ⟨s, hs, h⟩ := glacierlaw2_DiskTwins_p1_ok _ _ h
                      rw [← hs]
                      exact (fun s r w h => blockQ_other (id := 4) (j := 0) (by decide) ((fun s r w h => blockQ_other (id := 1) (j := 0) (by decide) (hX2 s r w h)) s r w h)) s r w h
                    rcases exitQ_elim h with ⟨rfl, h⟩ | ⟨_, h⟩
                    · obtain ⟨s, hs, h⟩ := glacierlaw2_DiskTwins_p4_ok _ _ h
                      rw [← hs]
                      exact (fun s r w h => blockQ_other (id := 4) (j := 1) (by decide) (hX5 s r w h)) s r w h
                    rcases exitQ_elim h with ⟨rfl, h⟩ | ⟨_, h⟩
                    · obtain ⟨s, hs, h⟩ := glacierlaw2_DiskTwins_p4_ok _ _ h
                      rw [← hs]
                      exact hX7 s r w h
                    exact h.elim
                  | ret => exact h
                  | goto i => exact h.elim
                  | panic c => exact h.elim
                  | outgrown => exact h.elim
                · intro e _ r w hne h
                  cases e with
                  | normal => exact absurd rfl hne
                  | exit i =>
                    rcases exitQ_elim h with ⟨rfl, h⟩ | ⟨_, h⟩
                    · obtain ⟨s, hs, h⟩ := glacierlaw2_DiskTwins_p1_ok _ _ h
                      rw [← hs]
                      exact (fun s r w h => blockQ_other (id := 1) (j := 0) (by decide) (hX2 s r w h)) s r w h
                    rcases exitQ_elim h with ⟨rfl, h⟩ | ⟨_, h⟩
                    · obtain ⟨s, hs, h⟩ := glacierlaw2_DiskTwins_p4_ok _ _ h
                      rw [← hs]
                      exact hX5 s r w h
                    exact h.elim
                  | ret => exact h
                  | goto i => exact h.elim
                  | panic c => exact h.elim
                  | outgrown => exact h.elim
              · refine Wp_glue glacierlaw2_DiskTwins_p8 (fun s w => glacierlaw2_DiskTwins_b5 s.1 s.2.1 s.2.2.1 s.2.2.2.1 s.2.2.2.2.1 s.2.2.2.2.2.1 s.2.2.2.2.2.2.1 s.2.2.2.2.2.2.2.1 s.2.2.2.2.2.2.2.2.1 s.2.2.2.2.2.2.2.2.2.1 s.2.2.2.2.2.2.2.2.2.2.1 s.2.2.2.2.2.2.2.2.2.2.2.1 s.2.2.2.2.2.2.2.2.2.2.2.2.1 s.2.2.2.2.2.2.2.2.2.2.2.2.2.1 s.2.2.2.2.2.2.2.2.2.2.2.2.2.2.1 s.2.2.2.2.2.2.2.2.2.2.2.2.2.2.2 K0 w) [_] (Q0 := fun e _ r w => match e with | .normal => glacierlaw2_DiskTwins_p8.dec r (fun s => glacierlaw2_DiskTwins_b5 s.1 s.2.1 s.2.2.1 s.2.2.2.1 s.2.2.2.2.1 s.2.2.2.2.2.1 s.2.2.2.2.2.2.1 s.2.2.2.2.2.2.2.1 s.2.2.2.2.2.2.2.2.1 s.2.2.2.2.2.2.2.2.2.1 s.2.2.2.2.2.2.2.2.2.2.1 s.2.2.2.2.2.2.2.2.2.2.2.1 s.2.2.2.2.2.2.2.2.2.2.2.2.1 s.2.2.2.2.2.2.2.2.2.2.2.2.2.1 s.2.2.2.2.2.2.2.2.2.2.2.2.2.2.1 s.2.2.2.2.2.2.2.2.2.2.2.2.2.2.2 K0 w) | .exit i => exitQ i 0 (glacierlaw2_DiskTwins_p1.dec r (fun s => glacierlaw2_DiskTwins_b8 s.1 s.2.1 s.2.2.1 s.2.2.2.1 s.2.2.2.2.1 s.2.2.2.2.2.1 s.2.2.2.2.2.2.1 s.2.2.2.2.2.2.2.1 s.2.2.2.2.2.2.2.2.1 s.2.2.2.2.2.2.2.2.2.1 s.2.2.2.2.2.2.2.2.2.2 R w)) (exitQ i 1 (glacierlaw2_DiskTwins_p4.dec r (fun s => glacierlaw2_DiskTwins_b0 s.1 s.2.1 s.2.2.1 s.2.2.2.1 s.2.2.2.2.1 s.2.2.2.2.2.1 s.2.2.2.2.2.2.1 s.2.2.2.2.2.2.2.1 s.2.2.2.2.2.2.2.2.1 s.2.2.2.2.2.2.2.2.2.1 s.2.2.2.2.2.2.2.2.2.2.1 s.2.2.2.2.2.2.2.2.2.2.2 K0 w)) (False)) | .ret => retQ Try.prog Try.f6.results R .ret [] r w | _ => False) h (by kernel_rfl) (fun s r w h => ?_) glacierlaw2_DiskTwins_p8_ok (fun _ _ _ h => h) ?_
                · obtain ⟨l12, l_n6, l_c6, left6, left_n6, left_c6, right6, right_n6, right_c6, d5, r_5, i4, mine1, mine_n1, mine_c1, k⟩ := s
                  have h : glacierlaw2_DiskTwins_b5 l12 l_n6 l_c6 left6 left_n6 left_c6 right6 right_n6 right_c6 d5 r_5 i4 mine1 mine_n1 mine_c1 k K0 w := h
                  refine Wp_block_via glacierlaw2_DiskTwins_p6 (fun s w => glacierlaw2_DiskTwins_b3 s.1 s.2.1 s.2.2.1 s.2.2.2.1 s.2.2.2.2.1 s.2.2.2.2.2.1 s.2.2.2.2.2.2.1 s.2.2.2.2.2.2.2.1 s.2.2.2.2.2.2.2.2.1 s.2.2.2.2.2.2.2.2.2.1 s.2.2.2.2.2.2.2.2.2.2.1 s.2.2.2.2.2.2.2.2.2.2.2 K0 w) hN6 (fun hX9 => ?_)
                  refine Wp_loop (p := glacierlaw2_DiskTwins_p8) glacierlaw2_DiskTwins_p8_ok (fun s r w K1 h => ?_) h
                  obtain ⟨l13, l_n7, l_c7, left7, left_n7, left_c7, right7, right_n7, right_c7, d6, r_6, i5, mine2, mine_n2, mine_c2, k1⟩ := s
                  have h : glacierlaw2_DiskTwins_b4 l13 l_n7 l_c7 left7 left_n7 left_c7 right7 right_n7 right_c7 d6 r_6 i5 mine2 mine_n2 mine_c2 k1 K0 K1 w := h
                  have hK10 := fun (s : (Option Addr) × Nat × Nat × (Option Addr) × Nat × Nat × (Option Addr) × Nat × Nat × (Option Addr) × (Option Addr) × Int × (Option Addr) × Nat × Nat × Int) (r : Regs) (w : World) (h : K1 s w) => glacierlaw2_DiskTwins_p8_re s r (fun s => K1 s w) h
                  refine Wp_leaf_end (Q0 := fun e _ r w => match e with | .normal => glacierlaw2_DiskTwins_p8.dec r (fun s => K1 s w) | .exit i => exitQ i 0 (glacierlaw2_DiskTwins_p1.dec r (fun s => glacierlaw2_DiskTwins_b8 s.1 s.2.1 s.2.2.1 s.2.2.2.1 s.2.2.2.2.1 s.2.2.2.2.2.1 s.2.2.2.2.2.2.1 s.2.2.2.2.2.2.2.1 s.2.2.2.2.2.2.2.2.1 s.2.2.2.2.2.2.2.2.2.1 s.2.2.2.2.2.2.2.2.2.2 R w)) (exitQ i 1 (glacierlaw2_DiskTwins_p4.dec r (fun s => glacierlaw2_DiskTwins_b0 s.1 s.2.1 s.2.2.1 s.2.2.2.1 s.2.2.2.2.1 s.2.2.2.2.2.1 s.2.2.2.2.2.2.1 s.2.2.2.2.2.2.2.1 s.2.2.2.2.2.2.2.2.1 s.2.2.2.2.2.2.2.2.2.1 s.2.2.2.2.2.2.2.2.2.2.1 s.2.2.2.2.2.2.2.2.2.2.2 K0 w)) (exitQ i 2 (glacierlaw2_DiskTwins_p6.dec r (fun s => glacierlaw2_DiskTwins_b3 s.1 s.2.1 s.2.2.1 s.2.2.2.1 s.2.2.2.2.1 s.2.2.2.2.2.1 s.2.2.2.2.2.2.1 s.2.2.2.2.2.2.2.1 s.2.2.2.2.2.2.2.2.1 s.2.2.2.2.2.2.2.2.2.1 s.2.2.2.2.2.2.2.2.2.2.1 s.2.2.2.2.2.2.2.2.2.2.2 K0 w)) (False))) | .ret => retQ Try.prog Try.f6.results R .ret [] r w | _ => False) h (by kernel_rfl) ?_
                  intro e _ r w h
                  cases e with
                  | normal =>
                    obtain ⟨s, hs, h⟩ := glacierlaw2_DiskTwins_p8_ok _ _ h
                    rw [← hs]
                    exact hK10 s r w h
                  | exit i =>
                    rcases exitQ_elim h with ⟨rfl, h⟩ | ⟨_, h⟩
                    · obtain ⟨s, hs, h⟩ := glacierlaw2_DiskTwins_p1_ok _ _ h
                      rw [← hs]
                      exact (fun s r w h => blockQ_other (id := 2) (j := 0) (by decide) ((fun s r w h => blockQ_other (id := 1) (j := 0) (by decide) (hX2 s r w h)) s r w h)) s r w h
                    rcases exitQ_elim h with ⟨rfl, h⟩ | ⟨_, h⟩
                    · obtain ⟨s, hs, h⟩ := glacierlaw2_DiskTwins_p4_ok _ _ h
                      rw [← hs]
                      exact (fun s r w h => blockQ_other (id := 2) (j := 1) (by decide) (hX5 s r w h)) s r w h
                    rcases exitQ_elim h with ⟨rfl, h⟩ | ⟨_, h⟩
                    · obtain ⟨s, hs, h⟩ := glacierlaw2_DiskTwins_p6_ok _ _ h
                      rw [← hs]
                      exact hX9 s r w h
                    exact h.elim
                  | ret => exact h
                  | goto i => exact h.elim
                  | panic c => exact h.elim
                  | outgrown => exact h.elim
                · intro e _ r w hne h
                  cases e with
                  | normal => exact absurd rfl hne
                  | exit i =>
                    rcases exitQ_elim h with ⟨rfl, h⟩ | ⟨_, h⟩
                    · obtain ⟨s, hs, h⟩ := glacierlaw2_DiskTwins_p1_ok _ _ h
                      rw [← hs]
                      exact (fun s r w h => blockQ_other (id := 1) (j := 0) (by decide) (hX2 s r w h)) s r w h
                    rcases exitQ_elim h with ⟨rfl, h⟩ | ⟨_, h⟩
                    · obtain ⟨s, hs, h⟩ := glacierlaw2_DiskTwins_p4_ok _ _ h
                      rw [← hs]
                      exact hX5 s r w h
                    exact h.elim
                  | ret => exact h
                  | goto i => exact h.elim
                  | panic c => exact h.elim
                  | outgrown => exact h.elim
            · intro e _ r w hne h
              cases e with
              | normal => exact absurd rfl hne
              | exit i =>
                rcases exitQ_elim h with ⟨rfl, h⟩ | ⟨_, h⟩
                · obtain ⟨s, hs, h⟩ := glacierlaw2_DiskTwins_p1_ok _ _ h
                  rw [← hs]
                  exact (fun s r w h => blockQ_other (id := 1) (j := 0) (by decide) (hX2 s r w h)) s r w h
                rcases exitQ_elim h with ⟨rfl, h⟩ | ⟨_, h⟩
                · obtain ⟨s, hs, h⟩ := glacierlaw2_DiskTwins_p4_ok _ _ h
                  rw [← hs]
                  exact hX5 s r w h
                exact h.elim
              | ret => exact h
              | goto i => exact h.elim
              | panic c => exact h.elim
              | outgrown => exact h.elim
        · intro e _ r w hne h
          cases e with
          | normal => exact absurd rfl hne
          | exit i =>
            rcases exitQ_elim h with ⟨rfl, h⟩ | ⟨_, h⟩
            · obtain ⟨s, hs, h⟩ := glacierlaw2_DiskTwins_p1_ok _ _ h
              rw [← hs]
              exact hX2 s r w h
            exact h.elim
          | ret => exact h
          | goto i => exact h.elim
          | panic c => exact h.elim
          | outgrown => exact h.elim
      · intro e _ r w hne h
        cases e with
        | normal => exact absurd rfl hne
        | exit i => exact h.elim
        | ret => exact h
        | goto i => exact h.elim
        | panic c => exact h.elim
        | outgrown => exact h.elim
  · intro e _ r w hne h
    cases e with
    | normal => exact absurd rfl hne
    | exit i => exact h.elim
    | ret => exact h
    | goto i => exact h.elim
    | panic c => exact h.elim
    | outgrown => exact h.elim

/- glacier/glacierlaw2.DiskPlays -/
def glacierlaw2_DiskPlays_b0 (l22 : Option Addr) (l_n10 : Nat) (l_c10 : Nat) (d9 : Option Addr) (r_9 : Option Addr) (i8 : Int) (K0 : ((Option Addr) × Nat × Nat × (Option Addr) × (Option Addr) × Int) → World → Prop) (w : World) : Prop :=
  K0 (l22, l_n10, l_c10, d9, r_9, IntKind.wrap .i64 (i8 + 1)) w

def glacierlaw2_DiskPlays_b1 (l15 : Option Addr) (l_n9 : Nat) (l_c9 : Nat) (d8 : Option Addr) (r_8 : Option Addr) (i7 : Int) (x5 : Addr) (K0 : ((Option Addr) × Nat × Nat × (Option Addr) × (Option Addr) × Int) → World → Prop) (R : Value → World → Prop) (w : World) : Prop :=
  LDS w (Addr.add x5 1) fun v23 =>
  CallR Try.prog fn_disk_Disk_Read #[(.pointer d8), (.string v23)] w fun res10 w_18 =>
  mTup res10 fun l16 =>
  mCons l16 fun v24 l17 =>
  mSlice v24 fun _ _ _ =>
  mCons l17 fun v26 l18 =>
  mInt .i64 v26 fun v27 =>
  mNil l18 (
  LDS w_18 (Addr.add x5 1) fun v28 =>
  CallR Try.prog fn_glacierref2_Disk_Read #[(.pointer r_8), (.string v28)] w_18 fun res11 w_19 =>
  mTup res11 fun l19 =>
  mCons l19 fun v29 l20 =>
  mSlice v29 fun _ _ _ =>
  mCons l20 fun v31 l21 =>
  mInt .i64 v31 fun v32 =>
  mNil l21 (
  LetW (World.drew w_19) fun w_20 =>
  Br (v27 != v32) (
  R (.bool false) w_20) (
  LDS w_20 (Addr.add x5 1) fun v33 =>
  LDS w_20 (Addr.add x5 1) fun v34 =>
  CallR Try.prog fn_disk_Name #[(.string v33)] w_20 fun res12 w_21 =>
  mBool res12 fun v35 =>
  (World.cell? w_21 (Addr.add x5 1) = some (.string v34) ∧ 
  CallR Try.prog fn_glacierref2_Name #[(.string v34)] w_21 fun res13 w_22 =>
  mBool res13 fun v36 =>
  (w_22 = w_22 ∧ 
  Br (!(v35 == v36)) (
  R (.bool false) w_22) (
  LDS w_22 (Addr.add x5 1) fun v37 =>
  LDS w_22 (Addr.add x5 1) fun v38 =>
  CallR Try.prog fn_disk_Disk_Unsynced #[(.pointer d8), (.string v37)] w_22 fun res14 w_23 =>
  mInt .i64 res14 fun v39 =>
  (World.cell? w_23 (Addr.add x5 1) = some (.string v38) ∧ 
  CallR Try.prog fn_glacierref2_Disk_Unsynced #[(.pointer r_8), (.string v38)] w_23 fun res15 w_24 =>
  mInt .i64 res15 fun v40 =>
  Br (v39 != v40) (
  R (.bool false) w_24) (
  glacierlaw2_DiskPlays_b0 l15 l_n9 l_c9 d8 r_8 i7 K0 w_24))))))))

def glacierlaw2_DiskPlays_b2 (l14 : Option Addr) (l_n8 : Nat) (l_c8 : Nat) (d7 : Option Addr) (r_7 : Option Addr) (i6 : Int) (x4 : Addr) (K0 : ((Option Addr) × Nat × Nat × (Option Addr) × (Option Addr) × Int) → World → Prop) (R : Value → World → Prop) (w : World) : Prop :=
  LDI .i64 w x4 fun v20 =>
  Br (v20 == 7) (
  CallR Try.prog fn_disk_Disk_Twin #[(.pointer d7)] w fun res8 w_16 =>
  mPtr res8 fun v21 =>
  CallR Try.prog fn_glacierref2_Disk_Twin #[(.pointer r_7)] w_16 fun res9 w_17 =>
  mPtr res9 fun v22 =>
  glacierlaw2_DiskPlays_b1 l14 l_n8 l_c8 v21 v22 i6 x4 K0 R w_17) (
  glacierlaw2_DiskPlays_b1 l14 l_n8 l_c8 d7 r_7 i6 x4 K0 R w)

def glacierlaw2_DiskPlays_b3 (l13 : Option Addr) (l_n7 : Nat) (l_c7 : Nat) (d6 : Option Addr) (r_6 : Option Addr) (i5 : Int) (x3 : Addr) (p2 : Option Addr) (p_n2 : Nat) (p_c2 : Nat) (q2 : Option Addr) (q_n2 : Nat) (q_c2 : Nat) (k1 : Int) (K0 : ((Option Addr) × Nat × Nat × (Option Addr) × (Option Addr) × Int) → World → Prop) (K1 : ((Option Addr) × Nat × Nat × (Option Addr) × (Option Addr) × Int × Addr × (Option Addr) × Nat × Nat × (Option Addr) × Nat × Nat × Int) → World → Prop) (R : Value → World → Prop) (w : World) : Prop :=
  Br (decide (k1 < (p_n2 : Int))) (
  LDSl w (Addr.add x3 3) fun _ v_n5 _ =>
  Br (decide ((v_n5 : Int) > 0)) (
  LetW (World.drew w) fun w_15 =>
  IX p2 p_n2 k1 1 fun a1 =>
  LDS w_15 a1 fun v18 =>
  IX q2 q_n2 k1 1 fun a2 =>
  LDS w_15 a2 fun v19 =>
  Br (!(ByteArray.toList v18 == ByteArray.toList v19)) (
  R (.bool false) w_15) (
  K1 (l13, l_n7, l_c7, d6, r_6, i5, x3, p2, p_n2, p_c2, q2, q_n2, q_c2, IntKind.wrap .i64 (k1 + 1)) w_15)) (
  glacierlaw2_DiskPlays_b2 l13 l_n7 l_c7 d6 r_6 i5 x3 K0 R w)) (
  glacierlaw2_DiskPlays_b2 l13 l_n7 l_c7 d6 r_6 i5 x3 K0 R w)

def glacierlaw2_DiskPlays_b4 (l12 : Option Addr) (l_n6 : Nat) (l_c6 : Nat) (d5 : Option Addr) (r_5 : Option Addr) (i4 : Int) (x2 : Addr) (p1 : Option Addr) (p_n1 : Nat) (p_c1 : Nat) (q1 : Option Addr) (q_n1 : Nat) (q_c1 : Nat) (k : Int) (K0 : ((Option Addr) × Nat × Nat × (Option Addr) × (Option Addr) × Int) → World → Prop) (R : Value → World → Prop) (w : World) : Prop :=
  LoopS (σ := (Option Addr) × Nat × Nat × (Option Addr) × (Option Addr) × Int × Addr × (Option Addr) × Nat × Nat × (Option Addr) × Nat × Nat × Int) (fun s w K1 =>
  glacierlaw2_DiskPlays_b3 s.1 s.2.1 s.2.2.1 s.2.2.2.1 s.2.2.2.2.1 s.2.2.2.2.2.1 s.2.2.2.2.2.2.1 s.2.2.2.2.2.2.2.1 s.2.2.2.2.2.2.2.2.1 s.2.2.2.2.2.2.2.2.2.1 s.2.2.2.2.2.2.2.2.2.2.1 s.2.2.2.2.2.2.2.2.2.2.2.1 s.2.2.2.2.2.2.2.2.2.2.2.2.1 s.2.2.2.2.2.2.2.2.2.2.2.2.2 K0 K1 R w) (l12, l_n6, l_c6, d5, r_5, i4, x2, p1, p_n1, p_c1, q1, q_n1, q_c1, k) w

def glacierlaw2_DiskPlays_b5 (l11 : Option Addr) (l_n5 : Nat) (l_c5 : Nat) (d4 : Option Addr) (r_4 : Option Addr) (i3 : Int) (x1 : Addr) (p : Option Addr) (p_n : Nat) (p_c : Nat) (q : Option Addr) (q_n : Nat) (q_c : Nat) (K0 : ((Option Addr) × Nat × Nat × (Option Addr) × (Option Addr) × Int) → World → Prop) (R : Value → World → Prop) (w : World) : Prop :=
  glacierlaw2_DiskPlays_b4 l11 l_n5 l_c5 d4 r_4 i3 x1 p p_n p_c q q_n q_c 0 K0 R w

def glacierlaw2_DiskPlays_b6 (l10 : Option Addr) (l_n4 : Nat) (l_c4 : Nat) (d3 : Option Addr) (r_3 : Option Addr) (i2 : Int) (K0 : ((Option Addr) × Nat × Nat × (Option Addr) × (Option Addr) × Int) → World → Prop) (R : Value → World → Prop) (w : World) : Prop :=
  IX l10 l_n4 i2 6 fun a =>
  LDI .i64 w a fun Op =>
  LDS w (Addr.add a 1) fun Name =>
  LDS w (Addr.add a 2) fun To =>
  LDSl w (Addr.add a 3) fun Names Names_n Names_c =>
  LDSl w (Addr.add a 4) fun Bytes Bytes_n Bytes_c =>
  LDSl w (Addr.add a 5) fun Picks Picks_n Picks_c =>
  AL w (.cells #[(.int .i64 0), (.string (ByteArray.mk #[])), (.string (ByteArray.mk #[])), (.slice none 0 0), (.slice none 0 0), (.slice none 0 0)] 46) fun x w_4 =>
  ST w_4 x (.int .i64 Op) fun w_5 =>
  ST w_5 (Addr.add x 1) (.string Name) fun w_6 =>
  ST w_6 (Addr.add x 2) (.string To) fun w_7 =>
  ST w_7 (Addr.add x 3) (.slice Names Names_n Names_c) fun w_8 =>
  ST w_8 (Addr.add x 4) (.slice Bytes Bytes_n Bytes_c) fun w_9 =>
  ST w_9 (Addr.add x 5) (.slice Picks Picks_n Picks_c) fun w_10 =>
  LDI .i64 w_10 x fun Op1 =>
  LDS w_10 (Addr.add x 1) fun Name1 =>
  LDS w_10 (Addr.add x 2) fun To1 =>
  LDSl w_10 (Addr.add x 3) fun Names1 Names_n1 Names_c1 =>
  LDSl w_10 (Addr.add x 4) fun Bytes1 Bytes_n1 Bytes_c1 =>
  LDSl w_10 (Addr.add x 5) fun Picks1 Picks_n1 Picks_c1 =>
  CallR Try.prog fn_glacierlaw2_step #[(.pointer d3), (.pointer r_3), (.agg #[(.int .i64 Op1), (.string Name1), (.string To1), (.slice Names1 Names_n1 Names_c1), (.slice Bytes1 Bytes_n1 Bytes_c1), (.slice Picks1 Picks_n1 Picks_c1)])] w_10 fun res4 w_11 =>
  mBool res4 fun v10 =>
  Br (!v10) (
  R (.bool false) w_11) (
  CallR Try.prog fn_glacierlaw2_Alike #[(.pointer d3), (.pointer r_3)] w_11 fun res5 w_12 =>
  mBool res5 fun v11 =>
  Br (!v11) (
  R (.bool false) w_12) (
  LDSl w_12 (Addr.add x 3) fun v12 v_n v_c =>
  CallR Try.prog fn_disk_Disk_List #[(.pointer d3), (.slice v12 v_n v_c)] w_12 fun res6 w_13 =>
  mSlice res6 fun v13 v_n1 v_c1 =>
  LDSl w_13 (Addr.add x 3) fun v14 v_n2 v_c2 =>
  CallR Try.prog fn_glacierref2_Disk_List #[(.pointer r_3), (.slice v14 v_n2 v_c2)] w_13 fun res7 w_14 =>
  mSlice res7 fun v15 v_n3 v_c3 =>
  LDSl w_14 (Addr.add x 3) fun _ v_n4 _ =>
  Br (decide ((v_n4 : Int) > 0)) (
  Br ((v_n1 : Int) != (v_n3 : Int)) (
  R (.bool false) w_14) (
  glacierlaw2_DiskPlays_b5 l10 l_n4 l_c4 d3 r_3 i2 x v13 v_n1 v_c1 v15 v_n3 v_c3 K0 R w_14)) (
  glacierlaw2_DiskPlays_b5 l10 l_n4 l_c4 d3 r_3 i2 x v13 v_n1 v_c1 v15 v_n3 v_c3 K0 R w_14)))

def glacierlaw2_DiskPlays_b7 (R : Value → World → Prop) (w : World) : Prop :=
  R (.bool true) w

def glacierlaw2_DiskPlays_b8 (l9 : Option Addr) (l_n3 : Nat) (l_c3 : Nat) (d2 : Option Addr) (r_2 : Option Addr) (i1 : Int) (K0 : ((Option Addr) × Nat × Nat × (Option Addr) × (Option Addr) × Int) → World → Prop) (R : Value → World → Prop) (w : World) : Prop :=
  Br (decide (i1 < (l_n3 : Int))) (
  glacierlaw2_DiskPlays_b6 l9 l_n3 l_c3 d2 r_2 i1 K0 R w) (
  glacierlaw2_DiskPlays_b7 R w)

def glacierlaw2_DiskPlays_b9 (l8 : Option Addr) (l_n2 : Nat) (l_c2 : Nat) (d1 : Option Addr) (r_1 : Option Addr) (i : Int) (R : Value → World → Prop) (w : World) : Prop :=
  LoopS (σ := (Option Addr) × Nat × Nat × (Option Addr) × (Option Addr) × Int) (fun s w K0 =>
  glacierlaw2_DiskPlays_b8 s.1 s.2.1 s.2.2.1 s.2.2.2.1 s.2.2.2.2.1 s.2.2.2.2.2 K0 R w) (l8, l_n2, l_c2, d1, r_1, i) w

def glacierlaw2_DiskPlays_b10 (l7 : Option Addr) (l_n1 : Nat) (l_c1 : Nat) (d : Option Addr) (r_ : Option Addr) (R : Value → World → Prop) (w : World) : Prop :=
  glacierlaw2_DiskPlays_b9 l7 l_n1 l_c1 d r_ 0 R w

def glacierlaw2_DiskPlays_b11 (size : Int) (l : Option Addr) (l_n : Nat) (l_c : Nat) (R : Value → World → Prop) (w : World) : Prop :=
  CallR Try.prog fn_glacierlaw2_known #[] w fun res w_ =>
  mBool res fun v =>
  Br (!v) (
  R (.bool false) w_) (
  CallR Try.prog fn_glacierlaw2_few #[(.slice l l_n l_c)] w_ fun res1 w_1 =>
  mBool res1 fun v1 =>
  Br (!v1) (
  R (.bool true) w_1) (
  CallR Try.prog fn_disk_New #[(.int .i64 size)] w_1 fun res2 w_2 =>
  mTup res2 fun l1 =>
  mCons l1 fun v2 l2 =>
  mPtr v2 fun v3 =>
  mCons l2 fun v4 l3 =>
  mInt .i64 v4 fun v5 =>
  mNil l3 (
  CallR Try.prog fn_glacierref2_New #[(.int .i64 size)] w_2 fun res3 w_3 =>
  mTup res3 fun l4 =>
  mCons l4 fun v6 l5 =>
  mPtr v6 fun v7 =>
  mCons l5 fun v8 l6 =>
  mInt .i64 v8 fun v9 =>
  mNil l6 (
  Br (v5 != v9) (
  R (.bool false) w_3) (
  Br (!((Option.isNone v3) == (Option.isNone v7))) (
  R (.bool false) w_3) (
  Br (Option.isNone v3) (
  R (.bool true) w_3) (
  glacierlaw2_DiskPlays_b10 l l_n l_c v3 v7 R w_3)))))))

def glacierlaw2_DiskPlays_p0 : Point ((Option Addr) × Nat × Nat × (Option Addr) × (Option Addr)) := { slots := fun s => [(1, (.slice s.1 s.2.1 s.2.2.1)), (5, (.pointer s.2.2.2.1)), (7, (.pointer s.2.2.2.2))], dec := fun r K => mSlice (r 1) fun x x1 x2 => mPtr (r 5) fun x3 => mPtr (r 7) fun x4 => K (x, x1, x2, x3, x4) }
theorem glacierlaw2_DiskPlays_p0_ok : glacierlaw2_DiskPlays_p0.ok := by
  intro r K h
  unfold glacierlaw2_DiskPlays_p0 at h
  obtain ⟨x, x1, x2, e0, h⟩ := mSlice_elim h
  obtain ⟨x3, e1, h⟩ := mPtr_elim h
  obtain ⟨x4, e2, h⟩ := mPtr_elim h
  exact ⟨(x, x1, x2, x3, x4), regsOf_self (L := [(1, (.slice x x1 x2)), (5, (.pointer x3)), (7, (.pointer x4))]) (List.forall_mem_cons.2 ⟨e0, List.forall_mem_cons.2 ⟨e1, List.forall_mem_cons.2 ⟨e2, List.forall_mem_nil _⟩⟩⟩), h⟩
theorem glacierlaw2_DiskPlays_p0_re (s : (Option Addr) × Nat × Nat × (Option Addr) × (Option Addr)) (r : Regs) (K : ((Option Addr) × Nat × Nat × (Option Addr) × (Option Addr)) → Prop) (h : K s) : glacierlaw2_DiskPlays_p0.dec (regsOf (glacierlaw2_DiskPlays_p0.slots s) r) K := by
  obtain ⟨x5, x6, x7, x8, x9⟩ := s
  exact cast (show K (x5, x6, x7, x8, x9) = glacierlaw2_DiskPlays_p0.dec (regsOf (glacierlaw2_DiskPlays_p0.slots (x5, x6, x7, x8, x9)) r) K by kernel_rfl) h

def glacierlaw2_DiskPlays_p1 : Point (Unit) := { slots := fun _ => [], dec := fun _ K => K () }
theorem glacierlaw2_DiskPlays_p1_ok : glacierlaw2_DiskPlays_p1.ok := by
  intro r K h
  unfold glacierlaw2_DiskPlays_p1 at h
  exact ⟨(), regsOf_self (L := []) (List.forall_mem_nil _), h⟩
theorem glacierlaw2_DiskPlays_p1_re (s : Unit) (r : Regs) (K : Unit → Prop) (h : K s) : glacierlaw2_DiskPlays_p1.dec (regsOf (glacierlaw2_DiskPlays_p1.slots s) r) K := by
  exact cast (show K () = glacierlaw2_DiskPlays_p1.dec (regsOf (glacierlaw2_DiskPlays_p1.slots ()) r) K by kernel_rfl) h

def glacierlaw2_DiskPlays_p2 : Point ((Option Addr) × Nat × Nat × (Option Addr) × (Option Addr) × Int) := { slots := fun s => [(1, (.slice s.1 s.2.1 s.2.2.1)), (5, (.pointer s.2.2.2.1)), (7, (.pointer s.2.2.2.2.1)), (9, (.int .i64 s.2.2.2.2.2))], dec := fun r K => mSlice (r 1) fun x x1 x2 => mPtr (r 5) fun x3 => mPtr (r 7) fun x4 => mInt .i64 (r 9) fun x5 => K (x, x1, x2, x3, x4, x5) }
theorem glacierlaw2_DiskPlays_p2_ok : glacierlaw2_DiskPlays_p2.ok := by
  intro r K h
  unfold glacierlaw2_DiskPlays_p2 at h
  obtain ⟨x, x1, x2, e0, h⟩ := mSlice_elim h
  obtain ⟨x3, e1, h⟩ := mPtr_elim h
  obtain ⟨x4, e2, h⟩ := mPtr_elim h
  obtain ⟨x5, e3, h⟩ := mInt_elim h
  exact ⟨(x, x1, x2, x3, x4, x5), regsOf_self (L := [(1, (.slice x x1 x2)), (5, (.pointer x3)), (7, (.pointer x4)), (9, (.int .i64 x5))]) (List.forall_mem_cons.2 ⟨e0, List.forall_mem_cons.2 ⟨e1, List.forall_mem_cons.2 ⟨e2, List.forall_mem_cons.2 ⟨e3, List.forall_mem_nil _⟩⟩⟩⟩), h⟩
theorem glacierlaw2_DiskPlays_p2_re (s : (Option Addr) × Nat × Nat × (Option Addr) × (Option Addr) × Int) (r : Regs) (K : ((Option Addr) × Nat × Nat × (Option Addr) × (Option Addr) × Int) → Prop) (h : K s) : glacierlaw2_DiskPlays_p2.dec (regsOf (glacierlaw2_DiskPlays_p2.slots s) r) K := by
  obtain ⟨x6, x7, x8, x9, x10, x11⟩ := s
  exact cast (show K (x6, x7, x8, x9, x10, x11) = glacierlaw2_DiskPlays_p2.dec (regsOf (glacierlaw2_DiskPlays_p2.slots (x6, x7, x8, x9, x10, x11)) r) K by kernel_rfl) h

def glacierlaw2_DiskPlays_p3 : Point ((Option Addr) × Nat × Nat × (Option Addr) × (Option Addr) × Int) := { slots := fun s => [(1, (.slice s.1 s.2.1 s.2.2.1)), (5, (.pointer s.2.2.2.1)), (7, (.pointer s.2.2.2.2.1)), (9, (.int .i64 s.2.2.2.2.2))], dec := fun r K => mSlice (r 1) fun x x1 x2 => mPtr (r 5) fun x3 => mPtr (r 7) fun x4 => mInt .i64 (r 9) fun x5 => K (x, x1, x2, x3, x4, x5) }
theorem glacierlaw2_DiskPlays_p3_ok : glacierlaw2_DiskPlays_p3.ok := by
  intro r K h
  unfold glacierlaw2_DiskPlays_p3 at h
  obtain ⟨x, x1, x2, e0, h⟩ := mSlice_elim h
  obtain ⟨x3, e1, h⟩ := mPtr_elim h
  obtain ⟨x4, e2, h⟩ := mPtr_elim h
  obtain ⟨x5, e3, h⟩ := mInt_elim h
  exact ⟨(x, x1, x2, x3, x4, x5), regsOf_self (L := [(1, (.slice x x1 x2)), (5, (.pointer x3)), (7, (.pointer x4)), (9, (.int .i64 x5))]) (List.forall_mem_cons.2 ⟨e0, List.forall_mem_cons.2 ⟨e1, List.forall_mem_cons.2 ⟨e2, List.forall_mem_cons.2 ⟨e3, List.forall_mem_nil _⟩⟩⟩⟩), h⟩
theorem glacierlaw2_DiskPlays_p3_re (s : (Option Addr) × Nat × Nat × (Option Addr) × (Option Addr) × Int) (r : Regs) (K : ((Option Addr) × Nat × Nat × (Option Addr) × (Option Addr) × Int) → Prop) (h : K s) : glacierlaw2_DiskPlays_p3.dec (regsOf (glacierlaw2_DiskPlays_p3.slots s) r) K := by
  obtain ⟨x6, x7, x8, x9, x10, x11⟩ := s
  exact cast (show K (x6, x7, x8, x9, x10, x11) = glacierlaw2_DiskPlays_p3.dec (regsOf (glacierlaw2_DiskPlays_p3.slots (x6, x7, x8, x9, x10, x11)) r) K by kernel_rfl) h

def glacierlaw2_DiskPlays_p4 : Point ((Option Addr) × Nat × Nat × (Option Addr) × (Option Addr) × Int) := { slots := fun s => [(1, (.slice s.1 s.2.1 s.2.2.1)), (5, (.pointer s.2.2.2.1)), (7, (.pointer s.2.2.2.2.1)), (9, (.int .i64 s.2.2.2.2.2))], dec := fun r K => mSlice (r 1) fun x x1 x2 => mPtr (r 5) fun x3 => mPtr (r 7) fun x4 => mInt .i64 (r 9) fun x5 => K (x, x1, x2, x3, x4, x5) }
theorem glacierlaw2_DiskPlays_p4_ok : glacierlaw2_DiskPlays_p4.ok := by
  intro r K h
  unfold glacierlaw2_DiskPlays_p4 at h
  obtain ⟨x, x1, x2, e0, h⟩ := mSlice_elim h
  obtain ⟨x3, e1, h⟩ := mPtr_elim h
  obtain ⟨x4, e2, h⟩ := mPtr_elim h
  obtain ⟨x5, e3, h⟩ := mInt_elim h
  exact ⟨(x, x1, x2, x3, x4, x5), regsOf_self (L := [(1, (.slice x x1 x2)), (5, (.pointer x3)), (7, (.pointer x4)), (9, (.int .i64 x5))]) (List.forall_mem_cons.2 ⟨e0, List.forall_mem_cons.2 ⟨e1, List.forall_mem_cons.2 ⟨e2, List.forall_mem_cons.2 ⟨e3, List.forall_mem_nil _⟩⟩⟩⟩), h⟩
theorem glacierlaw2_DiskPlays_p4_re (s : (Option Addr) × Nat × Nat × (Option Addr) × (Option Addr) × Int) (r : Regs) (K : ((Option Addr) × Nat × Nat × (Option Addr) × (Option Addr) × Int) → Prop) (h : K s) : glacierlaw2_DiskPlays_p4.dec (regsOf (glacierlaw2_DiskPlays_p4.slots s) r) K := by
  obtain ⟨x6, x7, x8, x9, x10, x11⟩ := s
  exact cast (show K (x6, x7, x8, x9, x10, x11) = glacierlaw2_DiskPlays_p4.dec (regsOf (glacierlaw2_DiskPlays_p4.slots (x6, x7, x8, x9, x10, x11)) r) K by kernel_rfl) h

def glacierlaw2_DiskPlays_p5 : Point ((Option Addr) × Nat × Nat × (Option Addr) × (Option Addr) × Int × Addr × (Option Addr) × Nat × Nat × (Option Addr) × Nat × Nat) := { slots := fun s => [(1, (.slice s.1 s.2.1 s.2.2.1)), (5, (.pointer s.2.2.2.1)), (7, (.pointer s.2.2.2.2.1)), (9, (.int .i64 s.2.2.2.2.2.1)), (10, (.pointer (some s.2.2.2.2.2.2.1))), (11, (.slice s.2.2.2.2.2.2.2.1 s.2.2.2.2.2.2.2.2.1 s.2.2.2.2.2.2.2.2.2.1)), (12, (.slice s.2.2.2.2.2.2.2.2.2.2.1 s.2.2.2.2.2.2.2.2.2.2.2.1 s.2.2.2.2.2.2.2.2.2.2.2.2))], dec := fun r K => mSlice (r 1) fun x x1 x2 => mPtr (r 5) fun x3 => mPtr (r 7) fun x4 => mInt .i64 (r 9) fun x5 => mPA (r 10) fun x6 => mSlice (r 11) fun x7 x8 x9 => mSlice (r 12) fun x10 x11 x12 => K (x, x1, x2, x3, x4, x5, x6, x7, x8, x9, x10, x11, x12) }
theorem glacierlaw2_DiskPlays_p5_ok : glacierlaw2_DiskPlays_p5.ok := by
  intro r K h
  unfold glacierlaw2_DiskPlays_p5 at h
  obtain ⟨x, x1, x2, e0, h⟩ := mSlice_elim h
  obtain ⟨x3, e1, h⟩ := mPtr_elim h
  obtain ⟨x4, e2, h⟩ := mPtr_elim h
  obtain ⟨x5, e3, h⟩ := mInt_elim h
  obtain ⟨x6, e4, h⟩ := mPA_elim h
  obtain ⟨x7, x8, x9, e5, h⟩ := mSlice_elim h
  obtain ⟨x10, x11, x12, e6, h⟩ := mSlice_elim h
  exact ⟨(x, x1, x2, x3, x4, x5, x6, x7, x8, x9, x10, x11, x12), regsOf_self (L := [(1, (.slice x x1 x2)), (5, (.pointer x3)), (7, (.pointer x4)), (9, (.int .i64 x5)), (10, (.pointer (some x6))), (11, (.slice x7 x8 x9)), (12, (.slice x10 x11 x12))]) (List.forall_mem_cons.2 ⟨e0, List.forall_mem_cons.2 ⟨e1, List.forall_mem_cons.2 ⟨e2, List.forall_mem_cons.2 ⟨e3, List.forall_mem_cons.2 ⟨e4, List.forall_mem_cons.2 ⟨e5, List.forall_mem_cons.2 ⟨e6, List.forall_mem_nil _⟩⟩⟩⟩⟩⟩⟩), h⟩
theorem glacierlaw2_DiskPlays_p5_re (s : (Option Addr) × Nat × Nat × (Option Addr) × (Option Addr) × Int × Addr × (Option Addr) × Nat × Nat × (Option Addr) × Nat × Nat) (r : Regs) (K : ((Option Addr) × Nat × Nat × (Option Addr) × (Option Addr) × Int × Addr × (Option Addr) × Nat × Nat × (Option Addr) × Nat × Nat) → Prop) (h : K s) : glacierlaw2_DiskPlays_p5.dec (regsOf (glacierlaw2_DiskPlays_p5.slots s) r) K := by
  obtain ⟨x13, x14, x15, x16, x17, x18, x19, x20, x21, x22, x23, x24, x25⟩ := s
  exact cast (show K (x13, x14, x15, x16, x17, x18, x19, x20, x21, x22, x23, x24, x25) = glacierlaw2_DiskPlays_p5.dec (regsOf (glacierlaw2_DiskPlays_p5.slots (x13, x14, x15, x16, x17, x18, x19, x20, x21, x22, x23, x24, x25)) r) K by kernel_rfl) h

def glacierlaw2_DiskPlays_p6 : Point ((Option Addr) × Nat × Nat × (Option Addr) × (Option Addr) × Int × Addr) := { slots := fun s => [(1, (.slice s.1 s.2.1 s.2.2.1)), (5, (.pointer s.2.2.2.1)), (7, (.pointer s.2.2.2.2.1)), (9, (.int .i64 s.2.2.2.2.2.1)), (10, (.pointer (some s.2.2.2.2.2.2)))], dec := fun r K => mSlice (r 1) fun x x1 x2 => mPtr (r 5) fun x3 => mPtr (r 7) fun x4 => mInt .i64 (r 9) fun x5 => mPA (r 10) fun x6 => K (x, x1, x2, x3, x4, x5, x6) }
theorem glacierlaw2_DiskPlays_p6_ok : glacierlaw2_DiskPlays_p6.ok := by
  intro r K h
  unfold glacierlaw2_DiskPlays_p6 at h
  obtain ⟨x, x1, x2, e0, h⟩ := mSlice_elim h
  obtain ⟨x3, e1, h⟩ := mPtr_elim h
  obtain ⟨x4, e2, h⟩ := mPtr_elim h
  obtain ⟨x5, e3, h⟩ := mInt_elim h
  obtain ⟨x6, e4, h⟩ := mPA_elim h
  exact ⟨(x, x1, x2, x3, x4, x5, x6), regsOf_self (L := [(1, (.slice x x1 x2)), (5, (.pointer x3)), (7, (.pointer x4)), (9, (.int .i64 x5)), (10, (.pointer (some x6)))]) (List.forall_mem_cons.2 ⟨e0, List.forall_mem_cons.2 ⟨e1, List.forall_mem_cons.2 ⟨e2, List.forall_mem_cons.2 ⟨e3, List.forall_mem_cons.2 ⟨e4, List.forall_mem_nil _⟩⟩⟩⟩⟩), h⟩
theorem glacierlaw2_DiskPlays_p6_re (s : (Option Addr) × Nat × Nat × (Option Addr) × (Option Addr) × Int × Addr) (r : Regs) (K : ((Option Addr) × Nat × Nat × (Option Addr) × (Option Addr) × Int × Addr) → Prop) (h : K s) : glacierlaw2_DiskPlays_p6.dec (regsOf (glacierlaw2_DiskPlays_p6.slots s) r) K := by
  obtain ⟨x7, x8, x9, x10, x11, x12, x13⟩ := s
  exact cast (show K (x7, x8, x9, x10, x11, x12, x13) = glacierlaw2_DiskPlays_p6.dec (regsOf (glacierlaw2_DiskPlays_p6.slots (x7, x8, x9, x10, x11, x12, x13)) r) K by kernel_rfl) h

def glacierlaw2_DiskPlays_p7 : Point ((Option Addr) × Nat × Nat × (Option Addr) × (Option Addr) × Int × Addr) := { slots := fun s => [(1, (.slice s.1 s.2.1 s.2.2.1)), (5, (.pointer s.2.2.2.1)), (7, (.pointer s.2.2.2.2.1)), (9, (.int .i64 s.2.2.2.2.2.1)), (10, (.pointer (some s.2.2.2.2.2.2)))], dec := fun r K => mSlice (r 1) fun x x1 x2 => mPtr (r 5) fun x3 => mPtr (r 7) fun x4 => mInt .i64 (r 9) fun x5 => mPA (r 10) fun x6 => K (x, x1, x2, x3, x4, x5, x6) }
theorem glacierlaw2_DiskPlays_p7_ok : glacierlaw2_DiskPlays_p7.ok := by
  intro r K h
  unfold glacierlaw2_DiskPlays_p7 at h
  obtain ⟨x, x1, x2, e0, h⟩ := mSlice_elim h
  obtain ⟨x3, e1, h⟩ := mPtr_elim h
  obtain ⟨x4, e2, h⟩ := mPtr_elim h
  obtain ⟨x5, e3, h⟩ := mInt_elim h
  obtain ⟨x6, e4, h⟩ := mPA_elim h
  exact ⟨(x, x1, x2, x3, x4, x5, x6), regsOf_self (L := [(1, (.slice x x1 x2)), (5, (.pointer x3)), (7, (.pointer x4)), (9, (.int .i64 x5)), (10, (.pointer (some x6)))]) (List.forall_mem_cons.2 ⟨e0, List.forall_mem_cons.2 ⟨e1, List.forall_mem_cons.2 ⟨e2, List.forall_mem_cons.2 ⟨e3, List.forall_mem_cons.2 ⟨e4, List.forall_mem_nil _⟩⟩⟩⟩⟩), h⟩
theorem glacierlaw2_DiskPlays_p7_re (s : (Option Addr) × Nat × Nat × (Option Addr) × (Option Addr) × Int × Addr) (r : Regs) (K : ((Option Addr) × Nat × Nat × (Option Addr) × (Option Addr) × Int × Addr) → Prop) (h : K s) : glacierlaw2_DiskPlays_p7.dec (regsOf (glacierlaw2_DiskPlays_p7.slots s) r) K := by
  obtain ⟨x7, x8, x9, x10, x11, x12, x13⟩ := s
  exact cast (show K (x7, x8, x9, x10, x11, x12, x13) = glacierlaw2_DiskPlays_p7.dec (regsOf (glacierlaw2_DiskPlays_p7.slots (x7, x8, x9, x10, x11, x12, x13)) r) K by kernel_rfl) h

def glacierlaw2_DiskPlays_p8 : Point ((Option Addr) × Nat × Nat × (Option Addr) × (Option Addr) × Int × Addr × (Option Addr) × Nat × Nat × (Option Addr) × Nat × Nat × Int) := { slots := fun s => [(1, (.slice s.1 s.2.1 s.2.2.1)), (5, (.pointer s.2.2.2.1)), (7, (.pointer s.2.2.2.2.1)), (9, (.int .i64 s.2.2.2.2.2.1)), (10, (.pointer (some s.2.2.2.2.2.2.1))), (11, (.slice s.2.2.2.2.2.2.2.1 s.2.2.2.2.2.2.2.2.1 s.2.2.2.2.2.2.2.2.2.1)), (12, (.slice s.2.2.2.2.2.2.2.2.2.2.1 s.2.2.2.2.2.2.2.2.2.2.2.1 s.2.2.2.2.2.2.2.2.2.2.2.2.1)), (13, (.int .i64 s.2.2.2.2.2.2.2.2.2.2.2.2.2))], dec := fun r K => mSlice (r 1) fun x x1 x2 => mPtr (r 5) fun x3 => mPtr (r 7) fun x4 => mInt .i64 (r 9) fun x5 => mPA (r 10) fun x6 => mSlice (r 11) fun x7 x8 x9 => mSlice (r 12) fun x10 x11 x12 => mInt .i64 (r 13) fun x13 => K (x, x1, x2, x3, x4, x5, x6, x7, x8, x9, x10, x11, x12, x13) }
theorem glacierlaw2_DiskPlays_p8_ok : glacierlaw2_DiskPlays_p8.ok := by
  intro r K h
  unfold glacierlaw2_DiskPlays_p8 at h
  obtain ⟨x, x1, x2, e0, h⟩ := mSlice_elim h
  obtain ⟨x3, e1, h⟩ := mPtr_elim h
  obtain ⟨x4, e2, h⟩ := mPtr_elim h
  obtain ⟨x5, e3, h⟩ := mInt_elim h
  obtain ⟨x6, e4, h⟩ := mPA_elim h
  obtain ⟨x7, x8, x9, e5, h⟩ := mSlice_elim h
  obtain ⟨x10, x11, x12, e6, h⟩ := mSlice_elim h
  obtain ⟨x13, e7, h⟩ := mInt_elim h
  exact ⟨(x, x1, x2, x3, x4, x5, x6, x7, x8, x9, x10, x11, x12, x13), regsOf_self (L := [(1, (.slice x x1 x2)), (5, (.pointer x3)), (7, (.pointer x4)), (9, (.int .i64 x5)), (10, (.pointer (some x6))), (11, (.slice x7 x8 x9)), (12, (.slice x10 x11 x12)), (13, (.int .i64 x13))]) (List.forall_mem_cons.2 ⟨e0, List.forall_mem_cons.2 ⟨e1, List.forall_mem_cons.2 ⟨e2, List.forall_mem_cons.2 ⟨e3, List.forall_mem_cons.2 ⟨e4, List.forall_mem_cons.2 ⟨e5, List.forall_mem_cons.2 ⟨e6, List.forall_mem_cons.2 ⟨e7, List.forall_mem_nil _⟩⟩⟩⟩⟩⟩⟩⟩), h⟩
theorem glacierlaw2_DiskPlays_p8_re (s : (Option Addr) × Nat × Nat × (Option Addr) × (Option Addr) × Int × Addr × (Option Addr) × Nat × Nat × (Option Addr) × Nat × Nat × Int) (r : Regs) (K : ((Option Addr) × Nat × Nat × (Option Addr) × (Option Addr) × Int × Addr × (Option Addr) × Nat × Nat × (Option Addr) × Nat × Nat × Int) → Prop) (h : K s) : glacierlaw2_DiskPlays_p8.dec (regsOf (glacierlaw2_DiskPlays_p8.slots s) r) K := by
  obtain ⟨x14, x15, x16, x17, x18, x19, x20, x21, x22, x23, x24, x25, x26, x27⟩ := s
  exact cast (show K (x14, x15, x16, x17, x18, x19, x20, x21, x22, x23, x24, x25, x26, x27) = glacierlaw2_DiskPlays_p8.dec (regsOf (glacierlaw2_DiskPlays_p8.slots (x14, x15, x16, x17, x18, x19, x20, x21, x22, x23, x24, x25, x26, x27)) r) K by kernel_rfl) h

theorem glacierlaw2_DiskPlays_sound (size : Int) (l : Option Addr) (l_n : Nat) (l_c : Nat) (R : Value → World → Prop) (w : World) (h : glacierlaw2_DiskPlays_b11 size l l_n l_c R w) :
    CallR Try.prog fn_glacierlaw2_DiskPlays #[(.int .i64 size), (.slice l l_n l_c)] w R := by
  refine CallR_intro (args := [(.int .i64 size), (.slice l l_n l_c)]) Try.func7 rfl (Nat.le_of_ble_eq_true (by kernel_rfl)) ?_
  refine Wp_glue glacierlaw2_DiskPlays_p0 (fun s w => glacierlaw2_DiskPlays_b10 s.1 s.2.1 s.2.2.1 s.2.2.2.1 s.2.2.2.2 R w) [_, _, _, _, _, _, _] (Q0 := fun e _ r w => match e with | .normal => glacierlaw2_DiskPlays_p0.dec r (fun s => glacierlaw2_DiskPlays_b10 s.1 s.2.1 s.2.2.1 s.2.2.2.1 s.2.2.2.2 R w) | .exit _ => False | .ret => retQ Try.prog Try.f7.results R .ret [] r w | _ => False) h (by kernel_rfl) (fun s r w h => ?_) glacierlaw2_DiskPlays_p0_ok (fun _ _ _ h => h) ?_
  · obtain ⟨l7, l_n1, l_c1, d, r_⟩ := s
    have h : glacierlaw2_DiskPlays_b10 l7 l_n1 l_c1 d r_ R w := h
    refine Wp_seq_via glacierlaw2_DiskPlays_p1 (fun _ w => glacierlaw2_DiskPlays_b7 R w) (fun s r w h => ?_) (fun hN1 => ?_)
    · cases s
      have h : glacierlaw2_DiskPlays_b7 R w := h
      refine Wp_leaf_end (Q0 := fun e _ r w => match e with | .normal => retQ Try.prog Try.f7.results R .normal [] r w | .exit _ => False | .ret => retQ Try.prog Try.f7.results R .ret [] r w | _ => False) h (by kernel_rfl) ?_
      intro e _ r w h
      cases e with
      | normal => exact h
      | exit i => exact h.elim
      | ret => exact h
      | goto i => exact h.elim
      | panic c => exact h.elim
      | outgrown => exact h.elim
    · refine Wp_glue glacierlaw2_DiskPlays_p2 (fun s w => glacierlaw2_DiskPlays_b9 s.1 s.2.1 s.2.2.1 s.2.2.2.1 s.2.2.2.2.1 s.2.2.2.2.2 R w) [_] (Q0 := fun e _ r w => match e with | .normal => glacierlaw2_DiskPlays_p2.dec r (fun s => glacierlaw2_DiskPlays_b9 s.1 s.2.1 s.2.2.1 s.2.2.2.1 s.2.2.2.2.1 s.2.2.2.2.2 R w) | .exit _ => False | .ret => retQ Try.prog Try.f7.results R .ret [] r w | _ => False) h (by kernel_rfl) (fun s r w h => ?_) glacierlaw2_DiskPlays_p2_ok (fun _ _ _ h => h) ?_
      · obtain ⟨l8, l_n2, l_c2, d1, r_1, i⟩ := s
        have h : glacierlaw2_DiskPlays_b9 l8 l_n2 l_c2 d1 r_1 i R w := h
        refine Wp_block_via glacierlaw2_DiskPlays_p1 (fun _ w => glacierlaw2_DiskPlays_b7 R w) hN1 (fun hX2 => ?_)
        refine Wp_loop (p := glacierlaw2_DiskPlays_p2) glacierlaw2_DiskPlays_p2_ok (fun s r w K0 h => ?_) h
        obtain ⟨l9, l_n3, l_c3, d2, r_2, i1⟩ := s
        have h : glacierlaw2_DiskPlays_b8 l9 l_n3 l_c3 d2 r_2 i1 K0 R w := h
        have hK3 := fun (s : (Option Addr) × Nat × Nat × (Option Addr) × (Option Addr) × Int) (r : Regs) (w : World) (h : K0 s w) => glacierlaw2_DiskPlays_p2_re s r (fun s => K0 s w) h
        refine Wp_glue glacierlaw2_DiskPlays_p3 (fun s w => glacierlaw2_DiskPlays_b6 s.1 s.2.1 s.2.2.1 s.2.2.2.1 s.2.2.2.2.1 s.2.2.2.2.2 K0 R w) [_] (Q0 := fun e _ r w => match e with | .normal => glacierlaw2_DiskPlays_p3.dec r (fun s => glacierlaw2_DiskPlays_b6 s.1 s.2.1 s.2.2.1 s.2.2.2.1 s.2.2.2.2.1 s.2.2.2.2.2 K0 R w) | .exit i => exitQ i 0 (glacierlaw2_DiskPlays_p1.dec r (fun _ => glacierlaw2_DiskPlays_b7 R w)) (False) | .ret => retQ Try.prog Try.f7.results R .ret [] r w | _ => False) h (by kernel_rfl) (fun s r w h => ?_) glacierlaw2_DiskPlays_p3_ok (fun _ _ _ h => h) ?_
        · obtain ⟨l10, l_n4, l_c4, d3, r_3, i2⟩ := s
          have h : glacierlaw2_DiskPlays_b6 l10 l_n4 l_c4 d3 r_3 i2 K0 R w := h
          refine Wp_seq_via glacierlaw2_DiskPlays_p4 (fun s w => glacierlaw2_DiskPlays_b0 s.1 s.2.1 s.2.2.1 s.2.2.2.1 s.2.2.2.2.1 s.2.2.2.2.2 K0 w) (fun s r w h => ?_) (fun hN4 => ?_)
          · obtain ⟨l22, l_n10, l_c10, d9, r_9, i8⟩ := s
            have h : glacierlaw2_DiskPlays_b0 l22 l_n10 l_c10 d9 r_9 i8 K0 w := h
            refine Wp_leaf_end (Q0 := fun e _ r w => match e with | .normal => glacierlaw2_DiskPlays_p2.dec r (fun s => K0 s w) | .exit i => exitQ i 0 (glacierlaw2_DiskPlays_p1.dec r (fun _ => glacierlaw2_DiskPlays_b7 R w)) (False) | .ret => retQ Try.prog Try.f7.results R .ret [] r w | _ => False) h (by kernel_rfl) ?_
            intro e _ r w h
            cases e with
            | normal =>
              obtain ⟨s, hs, h⟩ := glacierlaw2_DiskPlays_p2_ok _ _ h
              rw [← hs]
              exact hK3 s r w h
            | exit i =>
              rcases exitQ_elim h with ⟨rfl, h⟩ | ⟨_, h⟩
              · obtain ⟨s, hs, h⟩ := glacierlaw2_DiskPlays_p1_ok _ _ h
                rw [← hs]
                exact hX2 s r w h
              exact h.elim
            | ret => exact h
            | goto i => exact h.elim
            | panic c => exact h.elim
            | outgrown => exact h.elim
          · refine Wp_block_via glacierlaw2_DiskPlays_p4 (fun s w => glacierlaw2_DiskPlays_b0 s.1 s.2.1 s.2.2.1 s.2.2.2.1 s.2.2.2.2.1 s.2.2.2.2.2 K0 w) hN4 (fun hX5 => ?_)
            refine Wp_glue glacierlaw2_DiskPlays_p5 (fun s w => glacierlaw2_DiskPlays_b5 s.1 s.2.1 s.2.2.1 s.2.2.2.1 s.2.2.2.2.1 s.2.2.2.2.2.1 s.2.2.2.2.2.2.1 s.2.2.2.2.2.2.2.1 s.2.2.2.2.2.2.2.2.1 s.2.2.2.2.2.2.2.2.2.1 s.2.2.2.2.2.2.2.2.2.2.1 s.2.2.2.2.2.2.2.2.2.2.2.1 s.2.2.2.2.2.2.2.2.2.2.2.2 K0 R w) [_, _, _, _, _] (Q0 := fun e _ r w => match e with | .normal => glacierlaw2_DiskPlays_p5.dec r (fun s => glacierlaw2_DiskPlays_b5 s.1 s.2.1 s.2.2.1 s.2.2.2.1 s.2.2.2.2.1 s.2.2.2.2.2.1 s.2.2.2.2.2.2.1 s.2.2.2.2.2.2.2.1 s.2.2.2.2.2.2.2.2.1 s.2.2.2.2.2.2.2.2.2.1 s.2.2.2.2.2.2.2.2.2.2.1 s.2.2.2.2.2.2.2.2.2.2.2.1 s.2.2.2.2.2.2.2.2.2.2.2.2 K0 R w) | .exit i => exitQ i 0 (glacierlaw2_DiskPlays_p1.dec r (fun _ => glacierlaw2_DiskPlays_b7 R w)) (exitQ i 1 (glacierlaw2_DiskPlays_p4.dec r (fun s => glacierlaw2_DiskPlays_b0 s.1 s.2.1 s.2.2.1 s.2.2.2.1 s.2.2.2.2.1 s.2.2.2.2.2 K0 w)) (False)) | .ret => retQ Try.prog Try.f7.results R .ret [] r w | _ => False) h (by kernel_rfl) (fun s r w h => ?_) glacierlaw2_DiskPlays_p5_ok (fun _ _ _ h => h) ?_
            · obtain ⟨l11, l_n5, l_c5, d4, r_4, i3, x1, p, p_n, p_c, q, q_n, q_c⟩ := s
              have h : glacierlaw2_DiskPlays_b5 l11 l_n5 l_c5 d4 r_4 i3 x1 p p_n p_c q q_n q_c K0 R w := h
              refine Wp_seq_via glacierlaw2_DiskPlays_p6 (fun s w => glacierlaw2_DiskPlays_b2 s.1 s.2.1 s.2.2.1 s.2.2.2.1 s.2.2.2.2.1 s.2.2.2.2.2.1 s.2.2.2.2.2.2 K0 R w) (fun s r w h => ?_) (fun hN6 => ?_)
              · obtain ⟨l14, l_n8, l_c8, d7, r_7, i6, x4⟩ := s
                have h : glacierlaw2_DiskPlays_b2 l14 l_n8 l_c8 d7 r_7 i6 x4 K0 R w := h
                refine Wp_glue glacierlaw2_DiskPlays_p7 (fun s w => glacierlaw2_DiskPlays_b1 s.1 s.2.1 s.2.2.1 s.2.2.2.1 s.2.2.2.2.1 s.2.2.2.2.2.1 s.2.2.2.2.2.2 K0 R w) [_] (Q0 := fun e _ r w => match e with | .normal => glacierlaw2_DiskPlays_p7.dec r (fun s => glacierlaw2_DiskPlays_b1 s.1 s.2.1 s.2.2.1 s.2.2.2.1 s.2.2.2.2.1 s.2.2.2.2.2.1 s.2.2.2.2.2.2 K0 R w) | .exit i => exitQ i 0 (glacierlaw2_DiskPlays_p1.dec r (fun _ => glacierlaw2_DiskPlays_b7 R w)) (exitQ i 1 (glacierlaw2_DiskPlays_p4.dec r (fun s => glacierlaw2_DiskPlays_b0 s.1 s.2.1 s.2.2.1 s.2.2.2.1 s.2.2.2.2.1 s.2.2.2.2.2 K0 w)) (False)) | .ret => retQ Try.prog Try.f7.results R .ret [] r w | _ => False) h (by kernel_rfl) (fun s r w h => ?_) glacierlaw2_DiskPlays_p7_ok (fun _ _ _ h => h) ?_
                · obtain ⟨l15, l_n9, l_c9, d8, r_8, i7, x5⟩ := s
                  have h : glacierlaw2_DiskPlays_b1 l15 l_n9 l_c9 d8 r_8 i7 x5 K0 R w := h
                  refine Wp_leaf_end (Q0 := fun e _ r w => match e with | .normal => glacierlaw2_DiskPlays_p4.dec r (fun s => glacierlaw2_DiskPlays_b0 s.1 s.2.1 s.2.2.1 s.2.2.2.1 s.2.2.2.2.1 s.2.2.2.2.2 K0 w) | .exit i => exitQ i 0 (glacierlaw2_DiskPlays_p1.dec r (fun _ => glacierlaw2_DiskPlays_b7 R w)) (exitQ i 1 (glacierlaw2_DiskPlays_p4.dec r (fun s => glacierlaw2_DiskPlays_b0 s.1 s.2.1 s.2.2.1 s.2.2.2.1 s.2.2.2.2.1 s.2.2.2.2.2 K0 w)) (False)) | .ret => retQ Try.prog Try.f7.results R .ret [] r w | _ => False) h (by kernel_rfl) ?_
                  intro e _ r w h
                  cases e with
                  | normal =>
                    obtain ⟨s, hs, h⟩ := glacierlaw2_DiskPlays_p4_ok _ _ h
                    rw [← hs]
                    exact hN4 s r w h
                  | exit i =>
                    rcases exitQ_elim h with ⟨rfl, h⟩ | ⟨_, h⟩
                    · obtain ⟨s, hs, h⟩ := glacierlaw2_DiskPlays_p1_ok _ _ h
                      rw [← hs]
                      exact (fun s r w h => blockQ_other (id := 1) (j := 0) (by decide) (hX2 s r w h)) s r w h
                    rcases exitQ_elim h with ⟨rfl, h⟩ | ⟨_, h⟩
                    · obtain ⟨s, hs, h⟩ := glacierlaw2_DiskPlays_p4_ok _ _ h
                      rw [← hs]
                      exact hX5 s r w h
                    exact h.elim
                  | ret => exact h
                  | goto i => exact h.elim
                  | panic c => exact h.elim
                  | outgrown => exact h.elim
                · intro e _ r w hne h
                  cases e with
                  | normal => exact absurd rfl hne
                  | exit i =>
                    rcases exitQ_elim h with ⟨rfl, h⟩ | ⟨_, h⟩
                    · obtain ⟨s, hs, h⟩ := glacierlaw2_DiskPlays_p1_ok _ _ h
                      rw [← hs]
                      exact (fun s r w h => blockQ_other (id := 1) (j := 0) (by decide) (hX2 s r w h)) s r w h
                    rcases exitQ_elim h with ⟨rfl, h⟩ | ⟨_, h⟩
                    · obtain ⟨s, hs, h⟩ := glacierlaw2_DiskPlays_p4_ok _ _ h
                      rw [← hs]
                      exact hX5 s r w h
                    exact h.elim
                  | ret => exact h
                  | goto i => exact h.elim
                  | panic c => exact h.elim
                  | outgrown => exact h.elim
              · refine Wp_glue glacierlaw2_DiskPlays_p8 (fun s w => glacierlaw2_DiskPlays_b4 s.1 s.2.1 s.2.2.1 s.2.2.2.1 s.2.2.2.2.1 s.2.2.2.2.2.1 s.2.2.2.2.2.2.1 s.2.2.2.2.2.2.2.1 s.2.2.2.2.2.2.2.2.1 s.2.2.2.2.2.2.2.2.2.1 s.2.2.2.2.2.2.2.2.2.2.1 s.2.2.2.2.2.2.2.2.2.2.2.1 s.2.2.2.2.2.2.2.2.2.2.2.2.1 s.2.2.2.2.2.2.2.2.2.2.2.2.2 K0 R w) [_] (Q0 := fun e _ r w => match e with | .normal => glacierlaw2_DiskPlays_p8.dec r (fun s => glacierlaw2_DiskPlays_b4 s.1 s.2.1 s.2.2.1 s.2.2.2.1 s.2.2.2.2.1 s.2.2.2.2.2.1 s.2.2.2.2.2.2.1 s.2.2.2.2.2.2.2.1 s.2.2.2.2.2.2.2.2.1 s.2.2.2.2.2.2.2.2.2.1 s.2.2.2.2.2.2.2.2.2.2.1 s.2.2.2.2.2.2.2.2.2.2.2.1 s.2.2.2.2.2.2.2.2.2.2.2.2.1 s.2.2.2.2.2.2.2.2.2.2.2.2.2 K0 R w) | .exit i => exitQ i 0 (glacierlaw2_DiskPlays_p1.dec r (fun _ => glacierlaw2_DiskPlays_b7 R w)) (exitQ i 1 (glacierlaw2_DiskPlays_p4.dec r (fun s => glacierlaw2_DiskPlays_b0 s.1 s.2.1 s.2.2.1 s.2.2.2.1 s.2.2.2.2.1 s.2.2.2.2.2 K0 w)) (False)) | .ret => retQ Try.prog Try.f7.results R .ret [] r w | _ => False) h (by kernel_rfl) (fun s r w h => ?_) glacierlaw2_DiskPlays_p8_ok (fun _ _ _ h => h) ?_
                · obtain ⟨l12, l_n6, l_c6, d5, r_5, i4, x2, p1, p_n1, p_c1, q1, q_n1, q_c1, k⟩ := s
                  have h : glacierlaw2_DiskPlays_b4 l12 l_n6 l_c6 d5 r_5 i4 x2 p1 p_n1 p_c1 q1 q_n1 q_c1 k K0 R w := h
                  refine Wp_block_via glacierlaw2_DiskPlays_p6 (fun s w => glacierlaw2_DiskPlays_b2 s.1 s.2.1 s.2.2.1 s.2.2.2.1 s.2.2.2.2.1 s.2.2.2.2.2.1 s.2.2.2.2.2.2 K0 R w) hN6 (fun hX7 => ?_)
                  refine Wp_loop (p := glacierlaw2_DiskPlays_p8) glacierlaw2_DiskPlays_p8_ok (fun s r w K1 h => ?_) h
                  obtain ⟨l13, l_n7, l_c7, d6, r_6, i5, x3, p2, p_n2, p_c2, q2, q_n2, q_c2, k1⟩ := s
                  have h : glacierlaw2_DiskPlays_b3 l13 l_n7 l_c7 d6 r_6 i5 x3 p2 p_n2 p_c2 q2 q_n2 q_c2 k1 K0 K1 R w := h
                  have hK8 := fun (s : (Option Addr) × Nat × Nat × (Option Addr) × (Option Addr) × Int × Addr × (Option Addr) × Nat × Nat × (Option Addr) × Nat × Nat × Int) (r : Regs) (w : World) (h : K1 s w) => glacierlaw2_DiskPlays_p8_re s r (fun s => K1 s w) h
                  refine Wp_leaf_end (Q0 := fun e _ r w => match e with | .normal => glacierlaw2_DiskPlays_p8.dec r (fun s => K1 s w) | .exit i => exitQ i 0 (glacierlaw2_DiskPlays_p1.dec r (fun _ => glacierlaw2_DiskPlays_b7 R w)) (exitQ i 1 (glacierlaw2_DiskPlays_p4.dec r (fun s => glacierlaw2_DiskPlays_b0 s.1 s.2.1 s.2.2.1 s.2.2.2.1 s.2.2.2.2.1 s.2.2.2.2.2 K0 w)) (exitQ i 2 (glacierlaw2_DiskPlays_p6.dec r (fun s => glacierlaw2_DiskPlays_b2 s.1 s.2.1 s.2.2.1 s.2.2.2.1 s.2.2.2.2.1 s.2.2.2.2.2.1 s.2.2.2.2.2.2 K0 R w)) (False))) | .ret => retQ Try.prog Try.f7.results R .ret [] r w | _ => False) h (by kernel_rfl) ?_
                  intro e _ r w h
                  cases e with
                  | normal =>
                    obtain ⟨s, hs, h⟩ := glacierlaw2_DiskPlays_p8_ok _ _ h
                    rw [← hs]
                    exact hK8 s r w h
                  | exit i =>
                    rcases exitQ_elim h with ⟨rfl, h⟩ | ⟨_, h⟩
                    · obtain ⟨s, hs, h⟩ := glacierlaw2_DiskPlays_p1_ok _ _ h
                      rw [← hs]
                      exact (fun s r w h => blockQ_other (id := 2) (j := 0) (by decide) ((fun s r w h => blockQ_other (id := 1) (j := 0) (by decide) (hX2 s r w h)) s r w h)) s r w h
                    rcases exitQ_elim h with ⟨rfl, h⟩ | ⟨_, h⟩
                    · obtain ⟨s, hs, h⟩ := glacierlaw2_DiskPlays_p4_ok _ _ h
                      rw [← hs]
                      exact (fun s r w h => blockQ_other (id := 2) (j := 1) (by decide) (hX5 s r w h)) s r w h
                    rcases exitQ_elim h with ⟨rfl, h⟩ | ⟨_, h⟩
                    · obtain ⟨s, hs, h⟩ := glacierlaw2_DiskPlays_p6_ok _ _ h
                      rw [← hs]
                      exact hX7 s r w h
                    exact h.elim
                  | ret => exact h
                  | goto i => exact h.elim
                  | panic c => exact h.elim
                  | outgrown => exact h.elim
                · intro e _ r w hne h
                  cases e with
                  | normal => exact absurd rfl hne
                  | exit i =>
                    rcases exitQ_elim h with ⟨rfl, h⟩ | ⟨_, h⟩
                    · obtain ⟨s, hs, h⟩ := glacierlaw2_DiskPlays_p1_ok _ _ h
                      rw [← hs]
                      exact (fun s r w h => blockQ_other (id := 1) (j := 0) (by decide) (hX2 s r w h)) s r w h
                    rcases exitQ_elim h with ⟨rfl, h⟩ | ⟨_, h⟩
                    · obtain ⟨s, hs, h⟩ := glacierlaw2_DiskPlays_p4_ok _ _ h
                      rw [← hs]
                      exact hX5 s r w h
                    exact h.elim
                  | ret => exact h
                  | goto i => exact h.elim
                  | panic c => exact h.elim
                  | outgrown => exact h.elim
            · intro e _ r w hne h
              cases e with
              | normal => exact absurd rfl hne
              | exit i =>
                rcases exitQ_elim h with ⟨rfl, h⟩ | ⟨_, h⟩
                · obtain ⟨s, hs, h⟩ := glacierlaw2_DiskPlays_p1_ok _ _ h
                  rw [← hs]
                  exact (fun s r w h => blockQ_other (id := 1) (j := 0) (by decide) (hX2 s r w h)) s r w h
                rcases exitQ_elim h with ⟨rfl, h⟩ | ⟨_, h⟩
                · obtain ⟨s, hs, h⟩ := glacierlaw2_DiskPlays_p4_ok _ _ h
                  rw [← hs]
                  exact hX5 s r w h
                exact h.elim
              | ret => exact h
              | goto i => exact h.elim
              | panic c => exact h.elim
              | outgrown => exact h.elim
        · intro e _ r w hne h
          cases e with
          | normal => exact absurd rfl hne
          | exit i =>
            rcases exitQ_elim h with ⟨rfl, h⟩ | ⟨_, h⟩
            · obtain ⟨s, hs, h⟩ := glacierlaw2_DiskPlays_p1_ok _ _ h
              rw [← hs]
              exact hX2 s r w h
            exact h.elim
          | ret => exact h
          | goto i => exact h.elim
          | panic c => exact h.elim
          | outgrown => exact h.elim
      · intro e _ r w hne h
        cases e with
        | normal => exact absurd rfl hne
        | exit i => exact h.elim
        | ret => exact h
        | goto i => exact h.elim
        | panic c => exact h.elim
        | outgrown => exact h.elim
  · intro e _ r w hne h
    cases e with
    | normal => exact absurd rfl hne
    | exit i => exact h.elim
    | ret => exact h
    | goto i => exact h.elim
    | panic c => exact h.elim
    | outgrown => exact h.elim

end Go.Proofs.Ytimgbkabfkdabaa
