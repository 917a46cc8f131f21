/- Printed by a program of this claim: the shallow readings of functions, and that they are sound. -/
import Derived.Test.YtimgbkabfkdabaaShNames
namespace Go.Proofs.Ytimgbkabfkdabaa
open Go.Sh

/- glacier/glacierref2.New -/
def glacierref2_New_b0 (size : Int) (R : Value → World → Prop) (w : World) : Prop :=
  Br (decide (size < 1)) (
  R (.tuple #[(.pointer none), (.int .i64 1)]) w) (
  Br (decide (size > 1073741824)) (
  R (.tuple #[(.pointer none), (.int .i64 1)]) w) (
  AL w (.cells #[(.int .i64 size), (.slice none 0 0), (.int .i64 0)] 56) fun p w_ =>
  R (.tuple #[(.pointer (some p)), (.int .i64 0)]) w_))

theorem glacierref2_New_sound (size : Int) (R : Value → World → Prop) (w : World) (h : glacierref2_New_b0 size R w) :
    CallR Try.prog fn_glacierref2_New #[(.int .i64 size)] w R := by
  refine CallR_intro (args := [(.int .i64 size)]) Try.func18 rfl (Nat.le_of_ble_eq_true (by kernel_rfl)) ?_
  refine Wp_leaf_end (Q0 := fun e _ r w => match e with | .normal => retQ Try.prog Try.f18.results R .normal [] r w | .exit _ => False | .ret => retQ Try.prog Try.f18.results R .ret [] r w | _ => False) h (by kernel_rfl) ?_
  intro e _ r w h
  cases e with
  | normal => exact h
  | exit i => exact h.elim
  | ret => exact h
  | goto i => exact h.elim
  | panic c => exact h.elim
  | outgrown => exact h.elim

/- (*glacier/glacierref2.Disk).find -/
def glacierref2_Disk_find_b0 (d3 : Option Addr) (name3 : ByteArray) (i2 : Int) (R : Value → World → Prop) (w : World) : Prop :=
  LetW (World.drew w) fun w_ =>
  NN d3 fun p2 =>
  LDSl w_ (Addr.add p2 1) fun _ v_n2 _ =>
  (w_ = w_ ∧ 
  Br (decide (i2 < (v_n2 : Int))) (
  NN d3 fun p3 =>
  LDSl w_ (Addr.add p3 1) fun v4 v_n3 _ =>
  IX v4 v_n3 i2 3 fun a1 =>
  LDS w_ a1 fun v5 =>
  R (.tuple #[(.int .i64 i2), (.bool (ByteArray.toList v5 == ByteArray.toList name3))]) w_) (
  R (.tuple #[(.int .i64 i2), (.bool false)]) w_))

def glacierref2_Disk_find_b1 (d2 : Option Addr) (name2 : ByteArray) (i1 : Int) (K0 : ((Option Addr) × ByteArray × Int) → World → Prop) (R : Value → World → Prop) (w : World) : Prop :=
  NN d2 fun p =>
  LDSl w (Addr.add p 1) fun _ v_n _ =>
  Br (decide (i1 < (v_n : Int))) (
  NN d2 fun p1 =>
  LDSl w (Addr.add p1 1) fun v1 v_n1 _ =>
  IX v1 v_n1 i1 3 fun a =>
  LDS w a fun v2 =>
  Br (Op.bytesLess (ByteArray.toList v2) (ByteArray.toList name2)) (
  K0 (d2, name2, IntKind.wrap .i64 (i1 + 1)) w) (
  glacierref2_Disk_find_b0 d2 name2 i1 R w)) (
  glacierref2_Disk_find_b0 d2 name2 i1 R w)

def glacierref2_Disk_find_b2 (d1 : Option Addr) (name1 : ByteArray) (i : Int) (R : Value → World → Prop) (w : World) : Prop :=
  LoopS (σ := (Option Addr) × ByteArray × Int) (fun s w K0 =>
  glacierref2_Disk_find_b1 s.1 s.2.1 s.2.2 K0 R w) (d1, name1, i) w

def glacierref2_Disk_find_b3 (d : Option Addr) (name : ByteArray) (R : Value → World → Prop) (w : World) : Prop :=
  glacierref2_Disk_find_b2 d name 0 R w

def glacierref2_Disk_find_p0 : Point ((Option Addr) × ByteArray × Int) := { slots := fun s => [(0, (.pointer s.1)), (1, (.string s.2.1)), (6, (.int .i64 s.2.2))], dec := fun r K => mPtr (r 0) fun x => mStr (r 1) fun x1 => mInt .i64 (r 6) fun x2 => K (x, x1, x2) }
theorem glacierref2_Disk_find_p0_ok : glacierref2_Disk_find_p0.ok := by
  intro r K h
  unfold glacierref2_Disk_find_p0 at h
  obtain ⟨x, e0, h⟩ := mPtr_elim h
  obtain ⟨x1, e1, h⟩ := mStr_elim h
  obtain ⟨x2, e2, h⟩ := mInt_elim h
  exact ⟨(x, x1, x2), regsOf_self (L := [(0, (.pointer x)), (1, (.string x1)), (6, (.int .i64 x2))]) (List.forall_mem_cons.2 ⟨e0, List.forall_mem_cons.2 ⟨e1, List.forall_mem_cons.2 ⟨e2, List.forall_mem_nil _⟩⟩⟩), h⟩
theorem glacierref2_Disk_find_p0_re (s : (Option Addr) × ByteArray × Int) (r : Regs) (K : ((Option Addr) × ByteArray × Int) → Prop) (h : K s) : glacierref2_Disk_find_p0.dec (regsOf (glacierref2_Disk_find_p0.slots s) r) K := by
  obtain ⟨x3, x4, x5⟩ := s
  exact cast (show K (x3, x4, x5) = glacierref2_Disk_find_p0.dec (regsOf (glacierref2_Disk_find_p0.slots (x3, x4, x5)) r) K by kernel_rfl) h

def glacierref2_Disk_find_p1 : Point ((Option Addr) × ByteArray × Int) := { slots := fun s => [(0, (.pointer s.1)), (1, (.string s.2.1)), (6, (.int .i64 s.2.2))], dec := fun r K => mPtr (r 0) fun x => mStr (r 1) fun x1 => mInt .i64 (r 6) fun x2 => K (x, x1, x2) }
theorem glacierref2_Disk_find_p1_ok : glacierref2_Disk_find_p1.ok := by
  intro r K h
  unfold glacierref2_Disk_find_p1 at h
  obtain ⟨x, e0, h⟩ := mPtr_elim h
  obtain ⟨x1, e1, h⟩ := mStr_elim h
  obtain ⟨x2, e2, h⟩ := mInt_elim h
  exact ⟨(x, x1, x2), regsOf_self (L := [(0, (.pointer x)), (1, (.string x1)), (6, (.int .i64 x2))]) (List.forall_mem_cons.2 ⟨e0, List.forall_mem_cons.2 ⟨e1, List.forall_mem_cons.2 ⟨e2, List.forall_mem_nil _⟩⟩⟩), h⟩
theorem glacierref2_Disk_find_p1_re (s : (Option Addr) × ByteArray × Int) (r : Regs) (K : ((Option Addr) × ByteArray × Int) → Prop) (h : K s) : glacierref2_Disk_find_p1.dec (regsOf (glacierref2_Disk_find_p1.slots s) r) K := by
  obtain ⟨x3, x4, x5⟩ := s
  exact cast (show K (x3, x4, x5) = glacierref2_Disk_find_p1.dec (regsOf (glacierref2_Disk_find_p1.slots (x3, x4, x5)) r) K by kernel_rfl) h

theorem glacierref2_Disk_find_sound (d : Option Addr) (name : ByteArray) (R : Value → World → Prop) (w : World) (h : glacierref2_Disk_find_b3 d name R w) :
    CallR Try.prog fn_glacierref2_Disk_find #[(.pointer d), (.string name)] w R := by
  refine CallR_intro (args := [(.pointer d), (.string name)]) Try.func49 rfl (Nat.le_of_ble_eq_true (by kernel_rfl)) ?_
  refine Wp_glue glacierref2_Disk_find_p0 (fun s w => glacierref2_Disk_find_b2 s.1 s.2.1 s.2.2 R w) [_, _] (Q0 := fun e _ r w => match e with | .normal => glacierref2_Disk_find_p0.dec r (fun s => glacierref2_Disk_find_b2 s.1 s.2.1 s.2.2 R w) | .exit _ => False | .ret => retQ Try.prog Try.f49.results R .ret [] r w | _ => False) h (by kernel_rfl) (fun s r w h => ?_) glacierref2_Disk_find_p0_ok (fun _ _ _ h => h) ?_
  · obtain ⟨d1, name1, i⟩ := s
    have h : glacierref2_Disk_find_b2 d1 name1 i R w := h
    refine Wp_seq_via glacierref2_Disk_find_p1 (fun s w => glacierref2_Disk_find_b0 s.1 s.2.1 s.2.2 R w) (fun s r w h => ?_) (fun hN1 => ?_)
    · obtain ⟨d3, name3, i2⟩ := s
      have h : glacierref2_Disk_find_b0 d3 name3 i2 R w := h
      refine Wp_leaf_end (Q0 := fun e _ r w => match e with | .normal => retQ Try.prog Try.f49.results R .normal [] r w | .exit _ => False | .ret => retQ Try.prog Try.f49.results R .ret [] r w | _ => False) h (by kernel_rfl) ?_
      intro e _ r w h
      cases e with
      | normal => exact h
      | exit i => exact h.elim
      | ret => exact h
      | goto i => exact h.elim
      | panic c => exact h.elim
      | outgrown => exact h.elim
    · refine Wp_block_via glacierref2_Disk_find_p1 (fun s w => glacierref2_Disk_find_b0 s.1 s.2.1 s.2.2 R w) hN1 (fun hX2 => ?_)
      refine Wp_loop (p := glacierref2_Disk_find_p0) glacierref2_Disk_find_p0_ok (fun s r w K0 h => ?_) h
      obtain ⟨d2, name2, i1⟩ := s
      have h : glacierref2_Disk_find_b1 d2 name2 i1 K0 R w := h
      have hK3 := fun (s : (Option Addr) × ByteArray × Int) (r : Regs) (w : World) (h : K0 s w) => glacierref2_Disk_find_p0_re s r (fun s => K0 s w) h
      refine Wp_leaf_end (Q0 := fun e _ r w => match e with | .normal => glacierref2_Disk_find_p0.dec r (fun s => K0 s w) | .exit i => exitQ i 0 (glacierref2_Disk_find_p1.dec r (fun s => glacierref2_Disk_find_b0 s.1 s.2.1 s.2.2 R w)) (False) | .ret => retQ Try.prog Try.f49.results R .ret [] r w | _ => False) h (by kernel_rfl) ?_
      intro e _ r w h
      cases e with
      | normal =>
        obtain ⟨s, hs, h⟩ := glacierref2_Disk_find_p0_ok _ _ h
        rw [← hs]
        exact hK3 s r w h
      | exit i =>
        rcases exitQ_elim h with ⟨rfl, h⟩ | ⟨_, h⟩
        · obtain ⟨s, hs, h⟩ := glacierref2_Disk_find_p1_ok _ _ h
          rw [← hs]
          exact hX2 s r w h
        exact h.elim
      | ret => exact h
      | goto i => exact h.elim
      | panic c => exact h.elim
      | outgrown => exact h.elim
  · intro e _ r w hne h
    cases e with
    | normal => exact absurd rfl hne
    | exit i => exact h.elim
    | ret => exact h
    | goto i => exact h.elim
    | panic c => exact h.elim
    | outgrown => exact h.elim

/- (*glacier/glacierref2.Disk).Used -/
def glacierref2_Disk_Used_b0 (n3 : Int) (R : Value → World → Prop) (w : World) : Prop :=
  R (.int .i64 n3) w

def glacierref2_Disk_Used_b1 (d3 : Option Addr) (n2 : Int) (i1 : Int) (K0 : ((Option Addr) × Int × Int) → World → Prop) (R : Value → World → Prop) (w : World) : Prop :=
  NN d3 fun p =>
  LDSl w (Addr.add p 1) fun _ v_n _ =>
  Br (decide (i1 < (v_n : Int))) (
  NN d3 fun p1 =>
  LDSl w (Addr.add p1 1) fun v1 v_n1 _ =>
  IX v1 v_n1 i1 3 fun a =>
  LDSl w (Addr.add a 1) fun _ v_n2 _ =>
  K0 (d3, IntKind.wrap .i64 (n2 + (v_n2 : Int)), IntKind.wrap .i64 (i1 + 1)) w) (
  glacierref2_Disk_Used_b0 n2 R w)

def glacierref2_Disk_Used_b2 (d2 : Option Addr) (n1 : Int) (i : Int) (R : Value → World → Prop) (w : World) : Prop :=
  LoopS (σ := (Option Addr) × Int × Int) (fun s w K0 =>
  glacierref2_Disk_Used_b1 s.1 s.2.1 s.2.2 K0 R w) (d2, n1, i) w

def glacierref2_Disk_Used_b3 (d1 : Option Addr) (n : Int) (R : Value → World → Prop) (w : World) : Prop :=
  glacierref2_Disk_Used_b2 d1 n 0 R w

def glacierref2_Disk_Used_b4 (d : Option Addr) (R : Value → World → Prop) (w : World) : Prop :=
  glacierref2_Disk_Used_b3 d 0 R w

def glacierref2_Disk_Used_p0 : Point ((Option Addr) × Int) := { slots := fun s => [(0, (.pointer s.1)), (3, (.int .i64 s.2))], dec := fun r K => mPtr (r 0) fun x => mInt .i64 (r 3) fun x1 => K (x, x1) }
theorem glacierref2_Disk_Used_p0_ok : glacierref2_Disk_Used_p0.ok := by
  intro r K h
  unfold glacierref2_Disk_Used_p0 at h
  obtain ⟨x, e0, h⟩ := mPtr_elim h
  obtain ⟨x1, e1, h⟩ := mInt_elim h
  exact ⟨(x, x1), regsOf_self (L := [(0, (.pointer x)), (3, (.int .i64 x1))]) (List.forall_mem_cons.2 ⟨e0, List.forall_mem_cons.2 ⟨e1, List.forall_mem_nil _⟩⟩), h⟩
theorem glacierref2_Disk_Used_p0_re (s : (Option Addr) × Int) (r : Regs) (K : ((Option Addr) × Int) → Prop) (h : K s) : glacierref2_Disk_Used_p0.dec (regsOf (glacierref2_Disk_Used_p0.slots s) r) K := by
  obtain ⟨x2, x3⟩ := s
  exact cast (show K (x2, x3) = glacierref2_Disk_Used_p0.dec (regsOf (glacierref2_Disk_Used_p0.slots (x2, x3)) r) K by kernel_rfl) h

def glacierref2_Disk_Used_p1 : Point (Int) := { slots := fun s => [(3, (.int .i64 s))], dec := fun r K => mInt .i64 (r 3) fun x => K x }
theorem glacierref2_Disk_Used_p1_ok : glacierref2_Disk_Used_p1.ok := by
  intro r K h
  unfold glacierref2_Disk_Used_p1 at h
  obtain ⟨x, e0, h⟩ := mInt_elim h
  exact ⟨x, regsOf_self (L := [(3, (.int .i64 x))]) (List.forall_mem_cons.2 ⟨e0, List.forall_mem_nil _⟩), h⟩
theorem glacierref2_Disk_Used_p1_re (s : Int) (r : Regs) (K : Int → Prop) (h : K s) : glacierref2_Disk_Used_p1.dec (regsOf (glacierref2_Disk_Used_p1.slots s) r) K := by
  exact cast (show K s = glacierref2_Disk_Used_p1.dec (regsOf (glacierref2_Disk_Used_p1.slots s) r) K by kernel_rfl) h

def glacierref2_Disk_Used_p2 : Point ((Option Addr) × Int × Int) := { slots := fun s => [(0, (.pointer s.1)), (3, (.int .i64 s.2.1)), (4, (.int .i64 s.2.2))], dec := fun r K => mPtr (r 0) fun x => mInt .i64 (r 3) fun x1 => mInt .i64 (r 4) fun x2 => K (x, x1, x2) }
theorem glacierref2_Disk_Used_p2_ok : glacierref2_Disk_Used_p2.ok := by
  intro r K h
  unfold glacierref2_Disk_Used_p2 at h
  obtain ⟨x, e0, h⟩ := mPtr_elim h
  obtain ⟨x1, e1, h⟩ := mInt_elim h
  obtain ⟨x2, e2, h⟩ := mInt_elim h
  exact ⟨(x, x1, x2), regsOf_self (L := [(0, (.pointer x)), (3, (.int .i64 x1)), (4, (.int .i64 x2))]) (List.forall_mem_cons.2 ⟨e0, List.forall_mem_cons.2 ⟨e1, List.forall_mem_cons.2 ⟨e2, List.forall_mem_nil _⟩⟩⟩), h⟩
theorem glacierref2_Disk_Used_p2_re (s : (Option Addr) × Int × Int) (r : Regs) (K : ((Option Addr) × Int × Int) → Prop) (h : K s) : glacierref2_Disk_Used_p2.dec (regsOf (glacierref2_Disk_Used_p2.slots s) r) K := by
  obtain ⟨x3, x4, x5⟩ := s
  exact cast (show K (x3, x4, x5) = glacierref2_Disk_Used_p2.dec (regsOf (glacierref2_Disk_Used_p2.slots (x3, x4, x5)) r) K by kernel_rfl) h

theorem glacierref2_Disk_Used_sound (d : Option Addr) (R : Value → World → Prop) (w : World) (h : glacierref2_Disk_Used_b4 d R w) :
    CallR Try.prog fn_glacierref2_Disk_Used #[(.pointer d)] w R := by
  refine CallR_intro (args := [(.pointer d)]) Try.func47 rfl (Nat.le_of_ble_eq_true (by kernel_rfl)) ?_
  refine Wp_glue glacierref2_Disk_Used_p0 (fun s w => glacierref2_Disk_Used_b3 s.1 s.2 R w) [_, _] (Q0 := fun e _ r w => match e with | .normal => glacierref2_Disk_Used_p0.dec r (fun s => glacierref2_Disk_Used_b3 s.1 s.2 R w) | .exit _ => False | .ret => retQ Try.prog Try.f47.results R .ret [] r w | _ => False) h (by kernel_rfl) (fun s r w h => ?_) glacierref2_Disk_Used_p0_ok (fun _ _ _ h => h) ?_
  · obtain ⟨d1, n⟩ := s
    have h : glacierref2_Disk_Used_b3 d1 n R w := h
    refine Wp_seq_via glacierref2_Disk_Used_p1 (fun s w => glacierref2_Disk_Used_b0 s R w) (fun s r w h => ?_) (fun hN1 => ?_)
    · obtain ⟨n3, rfl⟩ : ∃ y, y = s := ⟨s, rfl⟩
      have h : glacierref2_Disk_Used_b0 n3 R w := h
      refine Wp_leaf_end (Q0 := fun e _ r w => match e with | .normal => retQ Try.prog Try.f47.results R .normal [] r w | .exit _ => False | .ret => retQ Try.prog Try.f47.results R .ret [] r w | _ => False) h (by kernel_rfl) ?_
      intro e _ r w h
      cases e with
      | normal => exact h
      | exit i => exact h.elim
      | ret => exact h
      | goto i => exact h.elim
      | panic c => exact h.elim
      | outgrown => exact h.elim
    · refine Wp_glue glacierref2_Disk_Used_p2 (fun s w => glacierref2_Disk_Used_b2 s.1 s.2.1 s.2.2 R w) [_] (Q0 := fun e _ r w => match e with | .normal => glacierref2_Disk_Used_p2.dec r (fun s => glacierref2_Disk_Used_b2 s.1 s.2.1 s.2.2 R w) | .exit _ => False | .ret => retQ Try.prog Try.f47.results R .ret [] r w | _ => False) h (by kernel_rfl) (fun s r w h => ?_) glacierref2_Disk_Used_p2_ok (fun _ _ _ h => h) ?_
      · obtain ⟨d2, n1, i⟩ := s
        have h : glacierref2_Disk_Used_b2 d2 n1 i R w := h
        refine Wp_block_via glacierref2_Disk_Used_p1 (fun s w => glacierref2_Disk_Used_b0 s R w) hN1 (fun hX2 => ?_)
        refine Wp_loop (p := glacierref2_Disk_Used_p2) glacierref2_Disk_Used_p2_ok (fun s r w K0 h => ?_) h
        obtain ⟨d3, n2, i1⟩ := s
        have h : glacierref2_Disk_Used_b1 d3 n2 i1 K0 R w := h
        have hK3 := fun (s : (Option Addr) × Int × Int) (r : Regs) (w : World) (h : K0 s w) => glacierref2_Disk_Used_p2_re s r (fun s => K0 s w) h
        refine Wp_leaf_end (Q0 := fun e _ r w => match e with | .normal => glacierref2_Disk_Used_p2.dec r (fun s => K0 s w) | .exit i => exitQ i 0 (glacierref2_Disk_Used_p1.dec r (fun s => glacierref2_Disk_Used_b0 s R w)) (False) | .ret => retQ Try.prog Try.f47.results R .ret [] r w | _ => False) h (by kernel_rfl) ?_
        intro e _ r w h
        cases e with
        | normal =>
          obtain ⟨s, hs, h⟩ := glacierref2_Disk_Used_p2_ok _ _ h
          rw [← hs]
          exact hK3 s r w h
        | exit i =>
          rcases exitQ_elim h with ⟨rfl, h⟩ | ⟨_, h⟩
          · obtain ⟨s, hs, h⟩ := glacierref2_Disk_Used_p1_ok _ _ h
            rw [← hs]
            exact hX2 s r w h
          exact h.elim
        | ret => exact h
        | goto i => exact h.elim
        | panic c => exact h.elim
        | outgrown => exact h.elim
      · intro e _ r w hne h
        cases e with
        | normal => exact absurd rfl hne
        | exit i => exact h.elim
        | ret => exact h
        | goto i => exact h.elim
        | panic c => exact h.elim
        | outgrown => exact h.elim
  · intro e _ r w hne h
    cases e with
    | normal => exact absurd rfl hne
    | exit i => exact h.elim
    | ret => exact h
    | goto i => exact h.elim
    | panic c => exact h.elim
    | outgrown => exact h.elim

/- (*glacier/glacierref2.Disk).put -/
def glacierref2_Disk_put_b0 (d : Option Addr) (f_Name : ByteArray) (f_Bytes : Option Addr) (f_Bytes_n : Nat) (f_Bytes_c : Nat) (f_Synced : Int) (R : Value → World → Prop) (w : World) : Prop :=
  AL w (.cells #[(.string f_Name), (.slice f_Bytes f_Bytes_n f_Bytes_c), (.int .i64 f_Synced)] 82) fun f w_ =>
  LDS w_ f fun v =>
  CallR Try.prog fn_glacierref2_Disk_find #[(.pointer d), (.string v)] w_ fun res w_1 =>
  mTup res fun l =>
  mCons l fun v1 l1 =>
  mInt .i64 v1 fun v2 =>
  mCons l1 fun v3 l2 =>
  mBool v3 fun v4 =>
  mNil l2 (
  Br v4 (
  LetW (World.drew w_1) fun w_2 =>
  NN d fun p =>
  LDSl w_2 (Addr.add p 1) fun v5 v_n _ =>
  LDS w_2 f fun Name =>
  LDSl w_2 (Addr.add f 1) fun Bytes Bytes_n Bytes_c =>
  LDI .i64 w_2 (Addr.add f 2) fun Synced =>
  IX v5 v_n v2 3 fun a =>
  ST w_2 a (.string Name) fun w_3 =>
  ST w_3 (Addr.add a 1) (.slice Bytes Bytes_n Bytes_c) fun w_4 =>
  ST w_4 (Addr.add a 2) (.int .i64 Synced) fun w_5 =>
  R (.tuple #[]) w_5) (
  LetW (World.drew w_1) fun w_6 =>
  NN d fun p1 =>
  LDSl w_6 (Addr.add p1 1) fun v6 v_n1 v_c1 =>
  rRun Try.prog (Instr.sliceAt 54 (.slice v6 v_n1 v_c1) none (some (.int .i64 v2)) none) w_6 fun sr w_7 =>
  mSlice sr fun v7 v_n2 v_c2 =>
  (w_7 = w_6 ∧ 
  LDS w_6 f fun Name1 =>
  LDSl w_6 (Addr.add f 1) fun Bytes1 Bytes_n1 Bytes_c1 =>
  LDI .i64 w_6 (Addr.add f 2) fun Synced1 =>
  (
  AL w_6 (.cells #[] 82) fun b w_8 =>
  (World.cell? w_8 f = some (.string Name1) ∧ 
  (World.cell? w_8 (Addr.add f 1) = some (.slice Bytes1 Bytes_n1 Bytes_c1) ∧ 
  (World.cell? w_8 (Addr.add f 2) = some (.int .i64 Synced1) ∧ 
  ((rRun Try.prog (Instr.sliceAt 54 (.slice v6 v_n1 v_c1) none (some (.int .i64 v2)) none) w_8 fun sr1 w_9 =>
  mSlice sr1 fun v8 v_n3 v_c3 =>
  (w_9 = w_8 ∧ ((.slice v8 v_n3 v_c3) : Value) = (.slice v7 v_n2 v_c2))) ∧ 
  (World.cell? w_8 (Addr.add p1 1) = some (.slice v6 v_n1 v_c1) ∧ 
  (
  rRun Try.prog (Builtin.append_ #[54, 54] 54 #[(.slice (some b) 0 0), (.slice v7 v_n2 v_c2)]) w_8 fun sr2 w_10 =>
  mSlice sr2 fun v9 v_n4 v_c4 =>
  (World.cell? w_10 f = some (.string Name1) ∧ 
  (World.cell? w_10 (Addr.add f 1) = some (.slice Bytes1 Bytes_n1 Bytes_c1) ∧ 
  (World.cell? w_10 (Addr.add f 2) = some (.int .i64 Synced1) ∧ 
  AL w_10 (.cells #[(.string Name1), (.slice Bytes1 Bytes_n1 Bytes_c1), (.int .i64 Synced1)] 82) fun b1 w_11 =>
  rRun Try.prog (Builtin.append_ #[54, 54] 54 #[(.slice v9 v_n4 v_c4), (.slice (some b1) 1 1)]) w_11 fun sr3 w_12 =>
  mSlice sr3 fun v10 v_n5 v_c5 =>
  NN d fun p2 =>
  LDSl w_12 (Addr.add p2 1) fun v11 v_n6 v_c6 =>
  rRun Try.prog (Instr.sliceAt 54 (.slice v11 v_n6 v_c6) (some (.int .i64 v2)) none none) w_12 fun sr4 w_13 =>
  mSlice sr4 fun v12 v_n7 v_c7 =>
  rRun Try.prog (Builtin.append_ #[54, 54] 54 #[(.slice v10 v_n5 v_c5), (.slice v12 v_n7 v_c7)]) w_13 fun sr5 w_14 =>
  mSlice sr5 fun v13 v_n8 v_c8 =>
  NN d fun p3 =>
  ST w_14 (Addr.add p3 1) (.slice v13 v_n8 v_c8) fun w_15 =>
  R (.tuple #[]) w_15)))) ∧ (
  AL w_8 (.cells #[(.string Name1), (.slice Bytes1 Bytes_n1 Bytes_c1), (.int .i64 Synced1)] 82) fun b2 w_16 =>
  ((rRun Try.prog (Instr.sliceAt 54 (.slice v6 v_n1 v_c1) none (some (.int .i64 v2)) none) w_16 fun sr6 w_17 =>
  mSlice sr6 fun v14 v_n9 v_c9 =>
  (w_17 = w_16 ∧ ((.slice v14 v_n9 v_c9) : Value) = (.slice v7 v_n2 v_c2))) ∧ 
  (World.cell? w_16 (Addr.add p1 1) = some (.slice v6 v_n1 v_c1) ∧ 
  rRun Try.prog (Builtin.append_ #[54, 54] 54 #[(.slice (some b) 0 0), (.slice v7 v_n2 v_c2)]) w_16 fun sr7 w_18 =>
  mSlice sr7 fun v15 v_n10 v_c10 =>
  rRun Try.prog (Builtin.append_ #[54, 54] 54 #[(.slice v15 v_n10 v_c10), (.slice (some b2) 1 1)]) w_18 fun sr8 w_19 =>
  mSlice sr8 fun v16 v_n11 v_c11 =>
  NN d fun p4 =>
  LDSl w_19 (Addr.add p4 1) fun v17 v_n12 v_c12 =>
  rRun Try.prog (Instr.sliceAt 54 (.slice v17 v_n12 v_c12) (some (.int .i64 v2)) none none) w_19 fun sr9 w_20 =>
  mSlice sr9 fun v18 v_n13 v_c13 =>
  rRun Try.prog (Builtin.append_ #[54, 54] 54 #[(.slice v16 v_n11 v_c11), (.slice v18 v_n13 v_c13)]) w_20 fun sr10 w_21 =>
  mSlice sr10 fun v19 v_n14 v_c14 =>
  NN d fun p5 =>
  ST w_21 (Addr.add p5 1) (.slice v19 v_n14 v_c14) fun w_22 =>
  R (.tuple #[]) w_22))))))))) ∧ (
  AL w_6 (.cells #[(.string Name1), (.slice Bytes1 Bytes_n1 Bytes_c1), (.int .i64 Synced1)] 82) fun b3 w_23 =>
  ((rRun Try.prog (Instr.sliceAt 54 (.slice v6 v_n1 v_c1) none (some (.int .i64 v2)) none) w_23 fun sr11 w_24 =>
  mSlice sr11 fun v20 v_n15 v_c15 =>
  (w_24 = w_23 ∧ ((.slice v20 v_n15 v_c15) : Value) = (.slice v7 v_n2 v_c2))) ∧ 
  (World.cell? w_23 (Addr.add p1 1) = some (.slice v6 v_n1 v_c1) ∧ 
  AL w_23 (.cells #[] 82) fun b4 w_25 =>
  ((rRun Try.prog (Instr.sliceAt 54 (.slice v6 v_n1 v_c1) none (some (.int .i64 v2)) none) w_25 fun sr12 w_26 =>
  mSlice sr12 fun v21 v_n16 v_c16 =>
  (w_26 = w_25 ∧ ((.slice v21 v_n16 v_c16) : Value) = (.slice v7 v_n2 v_c2))) ∧ 
  (World.cell? w_25 (Addr.add p1 1) = some (.slice v6 v_n1 v_c1) ∧ 
  rRun Try.prog (Builtin.append_ #[54, 54] 54 #[(.slice (some b4) 0 0), (.slice v7 v_n2 v_c2)]) w_25 fun sr13 w_27 =>
  mSlice sr13 fun v22 v_n17 v_c17 =>
  rRun Try.prog (Builtin.append_ #[54, 54] 54 #[(.slice v22 v_n17 v_c17), (.slice (some b3) 1 1)]) w_27 fun sr14 w_28 =>
  mSlice sr14 fun v23 v_n18 v_c18 =>
  NN d fun p6 =>
  LDSl w_28 (Addr.add p6 1) fun v24 v_n19 v_c19 =>
  rRun Try.prog (Instr.sliceAt 54 (.slice v24 v_n19 v_c19) (some (.int .i64 v2)) none none) w_28 fun sr15 w_29 =>
  mSlice sr15 fun v25 v_n20 v_c20 =>
  rRun Try.prog (Builtin.append_ #[54, 54] 54 #[(.slice v23 v_n18 v_c18), (.slice v25 v_n20 v_c20)]) w_29 fun sr16 w_30 =>
  mSlice sr16 fun v26 v_n21 v_c21 =>
  NN d fun p7 =>
  ST w_30 (Addr.add p7 1) (.slice v26 v_n21 v_c21) fun w_31 =>
  R (.tuple #[]) w_31))))))))

theorem glacierref2_Disk_put_sound (d : Option Addr) (f_Name : ByteArray) (f_Bytes : Option Addr) (f_Bytes_n : Nat) (f_Bytes_c : Nat) (f_Synced : Int) (R : Value → World → Prop) (w : World) (h : glacierref2_Disk_put_b0 d f_Name f_Bytes f_Bytes_n f_Bytes_c f_Synced R w) :
    CallR Try.prog fn_glacierref2_Disk_put #[(.pointer d), (.agg #[(.string f_Name), (.slice f_Bytes f_Bytes_n f_Bytes_c), (.int .i64 f_Synced)])] w R := by
  refine CallR_intro (args := [(.pointer d), (.agg #[(.string f_Name), (.slice f_Bytes f_Bytes_n f_Bytes_c), (.int .i64 f_Synced)])]) Try.func51 rfl (Nat.le_of_ble_eq_true (by kernel_rfl)) ?_
  refine Wp_leaf_end (Q0 := fun e _ r w => match e with | .normal => retQ Try.prog Try.f51.results R .normal [] r w | .exit _ => False | .ret => retQ Try.prog Try.f51.results R .ret [] r w | _ => False) h (by kernel_rfl) ?_
  intro e _ r w h
  cases e with
  | normal => exact h
  | exit i => exact h.elim
  | ret => exact h
  | goto i => exact h.elim
  | panic c => exact h.elim
  | outgrown => exact h.elim

/- (*glacier/glacierref2.Disk).drop -/
def glacierref2_Disk_drop_b0 (d : Option Addr) (name : ByteArray) (R : Value → World → Prop) (w : World) : Prop :=
  CallR Try.prog fn_glacierref2_Disk_find #[(.pointer d), (.string name)] w fun res w_ =>
  mTup res fun l =>
  mCons l fun v l1 =>
  mInt .i64 v fun v1 =>
  mCons l1 fun v2 l2 =>
  mBool v2 fun v3 =>
  mNil l2 (
  Br v3 (
  LetW (World.drew w_) fun w_1 =>
  NN d fun p =>
  LDSl w_1 (Addr.add p 1) fun v4 v_n v_c =>
  rRun Try.prog (Instr.sliceAt 54 (.slice v4 v_n v_c) none (some (.int .i64 v1)) none) w_1 fun sr w_2 =>
  mSlice sr fun v5 v_n1 v_c1 =>
  (w_2 = w_1 ∧ 
  NN d fun p1 =>
  LDSl w_1 (Addr.add p1 1) fun v6 v_n2 v_c2 =>
  rRun Try.prog (Instr.sliceAt 54 (.slice v6 v_n2 v_c2) (some (.int .i64 (IntKind.wrap .i64 (v1 + 1)))) none none) w_1 fun sr1 w_3 =>
  mSlice sr1 fun v7 v_n3 v_c3 =>
  (w_3 = w_1 ∧ 
  AL w_1 (.cells #[] 82) fun b w_4 =>
  ((rRun Try.prog (Instr.sliceAt 54 (.slice v6 v_n2 v_c2) (some (.int .i64 (IntKind.wrap .i64 (v1 + 1)))) none none) w_4 fun sr2 w_5 =>
  mSlice sr2 fun v8 v_n4 v_c4 =>
  (w_5 = w_4 ∧ ((.slice v8 v_n4 v_c4) : Value) = (.slice v7 v_n3 v_c3))) ∧ 
  (World.cell? w_4 (Addr.add p1 1) = some (.slice v6 v_n2 v_c2) ∧ 
  ((rRun Try.prog (Instr.sliceAt 54 (.slice v4 v_n v_c) none (some (.int .i64 v1)) none) w_4 fun sr3 w_6 =>
  mSlice sr3 fun v9 v_n5 v_c5 =>
  (w_6 = w_4 ∧ ((.slice v9 v_n5 v_c5) : Value) = (.slice v5 v_n1 v_c1))) ∧ 
  (World.cell? w_4 (Addr.add p 1) = some (.slice v4 v_n v_c) ∧ 
  rRun Try.prog (Builtin.append_ #[54, 54] 54 #[(.slice (some b) 0 0), (.slice v5 v_n1 v_c1)]) w_4 fun sr4 w_7 =>
  mSlice sr4 fun v10 v_n6 v_c6 =>
  ((rRun Try.prog (Instr.sliceAt 54 (.slice v6 v_n2 v_c2) (some (.int .i64 (IntKind.wrap .i64 (v1 + 1)))) none none) w_7 fun sr5 w_8 =>
  mSlice sr5 fun v11 v_n7 v_c7 =>
  (w_8 = w_7 ∧ ((.slice v11 v_n7 v_c7) : Value) = (.slice v7 v_n3 v_c3))) ∧ 
  (World.cell? w_7 (Addr.add p1 1) = some (.slice v6 v_n2 v_c2) ∧ 
  rRun Try.prog (Builtin.append_ #[54, 54] 54 #[(.slice v10 v_n6 v_c6), (.slice v7 v_n3 v_c3)]) w_7 fun sr6 w_9 =>
  mSlice sr6 fun v12 v_n8 v_c8 =>
  NN d fun p2 =>
  ST w_9 (Addr.add p2 1) (.slice v12 v_n8 v_c8) fun w_10 =>
  R (.tuple #[]) w_10))))))))) (
  R (.tuple #[]) w_))

theorem glacierref2_Disk_drop_sound (d : Option Addr) (name : ByteArray) (R : Value → World → Prop) (w : World) (h : glacierref2_Disk_drop_b0 d name R w) :
    CallR Try.prog fn_glacierref2_Disk_drop #[(.pointer d), (.string name)] w R := by
  refine CallR_intro (args := [(.pointer d), (.string name)]) Try.func53 rfl (Nat.le_of_ble_eq_true (by kernel_rfl)) ?_
  refine Wp_leaf_end (Q0 := fun e _ r w => match e with | .normal => retQ Try.prog Try.f53.results R .normal [] r w | .exit _ => False | .ret => retQ Try.prog Try.f53.results R .ret [] r w | _ => False) h (by kernel_rfl) ?_
  intro e _ r w h
  cases e with
  | normal => exact h
  | exit i => exact h.elim
  | ret => exact h
  | goto i => exact h.elim
  | panic c => exact h.elim
  | outgrown => exact h.elim

/- glacier/glacierref2.Name -/
def glacierref2_Name_b0 (R : Value → World → Prop) (w : World) : Prop :=
  R (.bool true) w

def glacierref2_Name_b1 (s3 : ByteArray) (i1 : Int) (K0 : (ByteArray × Int) → World → Prop) (R : Value → World → Prop) (w : World) : Prop :=
  Br (decide (i1 < (ByteArray.size s3 : Int))) (
  SIX s3 i1 fun c =>
  Br (decide ((UInt8.toNat c : Int) ≥ 97)) (
  Br (decide ((UInt8.toNat c : Int) ≤ 122)) (
  Br (!true) (
  R (.bool false) w) (
  K0 (s3, IntKind.wrap .i64 (i1 + 1)) w)) (
  Br (decide ((UInt8.toNat c : Int) ≥ 48)) (
  Br (decide ((UInt8.toNat c : Int) ≤ 57)) (
  Br (!true) (
  R (.bool false) w) (
  K0 (s3, IntKind.wrap .i64 (i1 + 1)) w)) (
  Br ((UInt8.toNat c : Int) == 45) (
  Br (!true) (
  R (.bool false) w) (
  K0 (s3, IntKind.wrap .i64 (i1 + 1)) w)) (
  Br (!((UInt8.toNat c : Int) == 46)) (
  R (.bool false) w) (
  K0 (s3, IntKind.wrap .i64 (i1 + 1)) w)))) (
  Br ((UInt8.toNat c : Int) == 45) (
  Br (!true) (
  R (.bool false) w) (
  K0 (s3, IntKind.wrap .i64 (i1 + 1)) w)) (
  Br (!((UInt8.toNat c : Int) == 46)) (
  R (.bool false) w) (
  K0 (s3, IntKind.wrap .i64 (i1 + 1)) w))))) (
  Br (decide ((UInt8.toNat c : Int) ≥ 48)) (
  Br (decide ((UInt8.toNat c : Int) ≤ 57)) (
  Br (!true) (
  R (.bool false) w) (
  K0 (s3, IntKind.wrap .i64 (i1 + 1)) w)) (
  Br ((UInt8.toNat c : Int) == 45) (
  Br (!true) (
  R (.bool false) w) (
  K0 (s3, IntKind.wrap .i64 (i1 + 1)) w)) (
  Br (!((UInt8.toNat c : Int) == 46)) (
  R (.bool false) w) (
  K0 (s3, IntKind.wrap .i64 (i1 + 1)) w)))) (
  Br ((UInt8.toNat c : Int) == 45) (
  Br (!true) (
  R (.bool false) w) (
  K0 (s3, IntKind.wrap .i64 (i1 + 1)) w)) (
  Br (!((UInt8.toNat c : Int) == 46)) (
  R (.bool false) w) (
  K0 (s3, IntKind.wrap .i64 (i1 + 1)) w))))) (
  glacierref2_Name_b0 R w)

def glacierref2_Name_b2 (s2 : ByteArray) (i : Int) (R : Value → World → Prop) (w : World) : Prop :=
  LoopS (σ := ByteArray × Int) (fun s w K0 =>
  glacierref2_Name_b1 s.1 s.2 K0 R w) (s2, i) w

def glacierref2_Name_b3 (s1 : ByteArray) (R : Value → World → Prop) (w : World) : Prop :=
  glacierref2_Name_b2 s1 0 R w

def glacierref2_Name_b4 (s : ByteArray) (R : Value → World → Prop) (w : World) : Prop :=
  Br (decide ((ByteArray.size s : Int) < 1)) (
  R (.bool false) w) (
  Br (decide ((ByteArray.size s : Int) > 64)) (
  R (.bool false) w) (
  glacierref2_Name_b3 s R w))

def glacierref2_Name_p0 : Point (ByteArray) := { slots := fun s => [(0, (.string s))], dec := fun r K => mStr (r 0) fun x => K x }
theorem glacierref2_Name_p0_ok : glacierref2_Name_p0.ok := by
  intro r K h
  unfold glacierref2_Name_p0 at h
  obtain ⟨x, e0, h⟩ := mStr_elim h
  exact ⟨x, regsOf_self (L := [(0, (.string x))]) (List.forall_mem_cons.2 ⟨e0, List.forall_mem_nil _⟩), h⟩
theorem glacierref2_Name_p0_re (s : ByteArray) (r : Regs) (K : ByteArray → Prop) (h : K s) : glacierref2_Name_p0.dec (regsOf (glacierref2_Name_p0.slots s) r) K := by
  exact cast (show K s = glacierref2_Name_p0.dec (regsOf (glacierref2_Name_p0.slots s) r) K by kernel_rfl) h

def glacierref2_Name_p1 : Point (Unit) := { slots := fun _ => [], dec := fun _ K => K () }
theorem glacierref2_Name_p1_ok : glacierref2_Name_p1.ok := by
  intro r K h
  unfold glacierref2_Name_p1 at h
  exact ⟨(), regsOf_self (L := []) (List.forall_mem_nil _), h⟩
theorem glacierref2_Name_p1_re (s : Unit) (r : Regs) (K : Unit → Prop) (h : K s) : glacierref2_Name_p1.dec (regsOf (glacierref2_Name_p1.slots s) r) K := by
  exact cast (show K () = glacierref2_Name_p1.dec (regsOf (glacierref2_Name_p1.slots ()) r) K by kernel_rfl) h

def glacierref2_Name_p2 : Point (ByteArray × Int) := { slots := fun s => [(0, (.string s.1)), (3, (.int .i64 s.2))], dec := fun r K => mStr (r 0) fun x => mInt .i64 (r 3) fun x1 => K (x, x1) }
theorem glacierref2_Name_p2_ok : glacierref2_Name_p2.ok := by
  intro r K h
  unfold glacierref2_Name_p2 at h
  obtain ⟨x, e0, h⟩ := mStr_elim h
  obtain ⟨x1, e1, h⟩ := mInt_elim h
  exact ⟨(x, x1), regsOf_self (L := [(0, (.string x)), (3, (.int .i64 x1))]) (List.forall_mem_cons.2 ⟨e0, List.forall_mem_cons.2 ⟨e1, List.forall_mem_nil _⟩⟩), h⟩
theorem glacierref2_Name_p2_re (s : ByteArray × Int) (r : Regs) (K : (ByteArray × Int) → Prop) (h : K s) : glacierref2_Name_p2.dec (regsOf (glacierref2_Name_p2.slots s) r) K := by
  obtain ⟨x2, x3⟩ := s
  exact cast (show K (x2, x3) = glacierref2_Name_p2.dec (regsOf (glacierref2_Name_p2.slots (x2, x3)) r) K by kernel_rfl) h

theorem glacierref2_Name_sound (s : ByteArray) (R : Value → World → Prop) (w : World) (h : glacierref2_Name_b4 s R w) :
    CallR Try.prog fn_glacierref2_Name #[(.string s)] w R := by
  refine CallR_intro (args := [(.string s)]) Try.func31 rfl (Nat.le_of_ble_eq_true (by kernel_rfl)) ?_
  refine Wp_glue glacierref2_Name_p0 (fun s w => glacierref2_Name_b3 s R w) [_, _] (Q0 := fun e _ r w => match e with | .normal => glacierref2_Name_p0.dec r (fun s => glacierref2_Name_b3 s R w) | .exit _ => False | .ret => retQ Try.prog Try.f31.results R .ret [] r w | _ => False) h (by kernel_rfl) (fun s r w h => ?_) glacierref2_Name_p0_ok (fun _ _ _ h => h) ?_
  · obtain ⟨s1, rfl⟩ : ∃ y, y = s := ⟨s, rfl⟩
    have h : glacierref2_Name_b3 s1 R w := h
    refine Wp_seq_via glacierref2_Name_p1 (fun _ w => glacierref2_Name_b0 R w) (fun s r w h => ?_) (fun hN1 => ?_)
    · cases s
      have h : glacierref2_Name_b0 R w := h
      refine Wp_leaf_end (Q0 := fun e _ r w => match e with | .normal => retQ Try.prog Try.f31.results R .normal [] r w | .exit _ => False | .ret => retQ Try.prog Try.f31.results R .ret [] r w | _ => False) h (by kernel_rfl) ?_
      intro e _ r w h
      cases e with
      | normal => exact h
      | exit i => exact h.elim
      | ret => exact h
      | goto i => exact h.elim
      | panic c => exact h.elim
      | outgrown => exact h.elim
    · refine Wp_glue glacierref2_Name_p2 (fun s w => glacierref2_Name_b2 s.1 s.2 R w) [_] (Q0 := fun e _ r w => match e with | .normal => glacierref2_Name_p2.dec r (fun s => glacierref2_Name_b2 s.1 s.2 R w) | .exit _ => False | .ret => retQ Try.prog Try.f31.results R .ret [] r w | _ => False) h (by kernel_rfl) (fun s r w h => ?_) glacierref2_Name_p2_ok (fun _ _ _ h => h) ?_
      · obtain ⟨s2, i⟩ := s
        have h : glacierref2_Name_b2 s2 i R w := h
        refine Wp_block_via glacierref2_Name_p1 (fun _ w => glacierref2_Name_b0 R w) hN1 (fun hX2 => ?_)
        refine Wp_loop (p := glacierref2_Name_p2) glacierref2_Name_p2_ok (fun s r w K0 h => ?_) h
        obtain ⟨s3, i1⟩ := s
        have h : glacierref2_Name_b1 s3 i1 K0 R w := h
        have hK3 := fun (s : ByteArray × Int) (r : Regs) (w : World) (h : K0 s w) => glacierref2_Name_p2_re s r (fun s => K0 s w) h
        refine Wp_leaf_end (Q0 := fun e _ r w => match e with | .normal => glacierref2_Name_p2.dec r (fun s => K0 s w) | .exit i => exitQ i 0 (glacierref2_Name_p1.dec r (fun _ => glacierref2_Name_b0 R w)) (False) | .ret => retQ Try.prog Try.f31.results R .ret [] r w | _ => False) h (by kernel_rfl) ?_
        intro e _ r w h
        cases e with
        | normal =>
          obtain ⟨s, hs, h⟩ := glacierref2_Name_p2_ok _ _ h
          rw [← hs]
          exact hK3 s r w h
        | exit i =>
          rcases exitQ_elim h with ⟨rfl, h⟩ | ⟨_, h⟩
          · obtain ⟨s, hs, h⟩ := glacierref2_Name_p1_ok _ _ h
            rw [← hs]
            exact hX2 s r w h
          exact h.elim
        | ret => exact h
        | goto i => exact h.elim
        | panic c => exact h.elim
        | outgrown => exact h.elim
      · intro e _ r w hne h
        cases e with
        | normal => exact absurd rfl hne
        | exit i => exact h.elim
        | ret => exact h
        | goto i => exact h.elim
        | panic c => exact h.elim
        | outgrown => exact h.elim
  · intro e _ r w hne h
    cases e with
    | normal => exact absurd rfl hne
    | exit i => exact h.elim
    | ret => exact h
    | goto i => exact h.elim
    | panic c => exact h.elim
    | outgrown => exact h.elim

/- (*glacier/glacierref2.Disk).Append -/
def glacierref2_Disk_Append_b0 (d1 : Option Addr) (b1 : Option Addr) (b_n1 : Nat) (b_c1 : Nat) (f1 : Addr) (R : Value → World → Prop) (w : World) : Prop :=
  AL w (.cells #[] 5) fun b2 w_11 =>
  LDSl w_11 (Addr.add f1 1) fun v8 v_n1 v_c1 =>
  rRun Try.prog (Builtin.append_ #[30, 30] 30 #[(.slice (some b2) 0 0), (.slice v8 v_n1 v_c1)]) w_11 fun sr w_12 =>
  mSlice sr fun v9 v_n2 v_c2 =>
  rRun Try.prog (Builtin.append_ #[30, 30] 30 #[(.slice v9 v_n2 v_c2), (.slice b1 b_n1 b_c1)]) w_12 fun sr1 w_13 =>
  mSlice sr1 fun v10 v_n3 v_c3 =>
  ST w_13 (Addr.add f1 1) (.slice v10 v_n3 v_c3) fun w_14 =>
  LDS w_14 f1 fun Name1 =>
  LDSl w_14 (Addr.add f1 1) fun Bytes1 Bytes_n1 Bytes_c1 =>
  LDI .i64 w_14 (Addr.add f1 2) fun Synced1 =>
  CallR Try.prog fn_glacierref2_Disk_put #[(.pointer d1), (.agg #[(.string Name1), (.slice Bytes1 Bytes_n1 Bytes_c1), (.int .i64 Synced1)])] w_14 fun res3 w_15 =>
  mTup res3 fun l3 =>
  mNil l3 (
  R (.int .i64 0) w_15)

def glacierref2_Disk_Append_b1 (d : Option Addr) (name : ByteArray) (b : Option Addr) (b_n : Nat) (b_c : Nat) (R : Value → World → Prop) (w : World) : Prop :=
  CallR Try.prog fn_glacierref2_Name #[(.string name)] w fun res w_ =>
  mBool res fun v =>
  Br (!v) (
  R (.int .i64 1) w_) (
  LetW (World.drew w_) fun w_1 =>
  (w_1 = w_1 ∧ 
  NN d fun p =>
  LDI .i64 w_1 p fun v1 =>
  CallR Try.prog fn_glacierref2_Disk_Used #[(.pointer d)] w_1 fun res1 w_2 =>
  mInt .i64 res1 fun v2 =>
  (World.cell? w_2 p = some (.int .i64 v1) ∧ 
  (((w_2 = w_2 ∧ ((.int .i64 (b_n : Int)) : Value) = (.int .i64 (b_n : Int)))) ∧ 
  Br (decide ((b_n : Int) > (IntKind.wrap .i64 (v1 - v2)))) (
  R (.int .i64 5) w_2) (
  CallR Try.prog fn_glacierref2_Disk_find #[(.pointer d), (.string name)] w_2 fun res2 w_3 =>
  mTup res2 fun l =>
  mCons l fun v3 l1 =>
  mInt .i64 v3 fun v4 =>
  mCons l1 fun v5 l2 =>
  mBool v5 fun v6 =>
  mNil l2 (
  AL w_3 (.cells #[(.string (ByteArray.mk #[])), (.slice none 0 0), (.int .i64 0)] 82) fun f w_4 =>
  ST w_4 f (.string name) fun w_5 =>
  ST w_5 (Addr.add f 1) (.slice none 0 0) fun w_6 =>
  ST w_6 (Addr.add f 2) (.int .i64 0) fun w_7 =>
  Br v6 (
  NN d fun p1 =>
  LDSl w_7 (Addr.add p1 1) fun v7 v_n _ =>
  IX v7 v_n v4 3 fun a =>
  LDS w_7 a fun Name =>
  LDSl w_7 (Addr.add a 1) fun Bytes Bytes_n Bytes_c =>
  LDI .i64 w_7 (Addr.add a 2) fun Synced =>
  ST w_7 f (.string Name) fun w_8 =>
  ST w_8 (Addr.add f 1) (.slice Bytes Bytes_n Bytes_c) fun w_9 =>
  ST w_9 (Addr.add f 2) (.int .i64 Synced) fun w_10 =>
  glacierref2_Disk_Append_b0 d b b_n b_c f R w_10) (
  glacierref2_Disk_Append_b0 d b b_n b_c f R w_7)))))))

def glacierref2_Disk_Append_p0 : Point ((Option Addr) × (Option Addr) × Nat × Nat × Addr) := { slots := fun s => [(0, (.pointer s.1)), (2, (.slice s.2.1 s.2.2.1 s.2.2.2.1)), (9, (.pointer (some s.2.2.2.2)))], dec := fun r K => mPtr (r 0) fun x => mSlice (r 2) fun x1 x2 x3 => mPA (r 9) fun x4 => K (x, x1, x2, x3, x4) }
theorem glacierref2_Disk_Append_p0_ok : glacierref2_Disk_Append_p0.ok := by
  intro r K h
  unfold glacierref2_Disk_Append_p0 at h
  obtain ⟨x, e0, h⟩ := mPtr_elim h
  obtain ⟨x1, x2, x3, e1, h⟩ := mSlice_elim h
  obtain ⟨x4, e2, h⟩ := mPA_elim h
  exact ⟨(x, x1, x2, x3, x4), regsOf_self (L := [(0, (.pointer x)), (2, (.slice x1 x2 x3)), (9, (.pointer (some x4)))]) (List.forall_mem_cons.2 ⟨e0, List.forall_mem_cons.2 ⟨e1, List.forall_mem_cons.2 ⟨e2, List.forall_mem_nil _⟩⟩⟩), h⟩
theorem glacierref2_Disk_Append_p0_re (s : (Option Addr) × (Option Addr) × Nat × Nat × Addr) (r : Regs) (K : ((Option Addr) × (Option Addr) × Nat × Nat × Addr) → Prop) (h : K s) : glacierref2_Disk_Append_p0.dec (regsOf (glacierref2_Disk_Append_p0.slots s) r) K := by
  obtain ⟨x5, x6, x7, x8, x9⟩ := s
  exact cast (show K (x5, x6, x7, x8, x9) = glacierref2_Disk_Append_p0.dec (regsOf (glacierref2_Disk_Append_p0.slots (x5, x6, x7, x8, x9)) r) K by kernel_rfl) h

theorem glacierref2_Disk_Append_sound (d : Option Addr) (name : ByteArray) (b : Option Addr) (b_n : Nat) (b_c : Nat) (R : Value → World → Prop) (w : World) (h : glacierref2_Disk_Append_b1 d name b b_n b_c R w) :
    CallR Try.prog fn_glacierref2_Disk_Append #[(.pointer d), (.string name), (.slice b b_n b_c)] w R := by
  refine CallR_intro (args := [(.pointer d), (.string name), (.slice b b_n b_c)]) Try.func35 rfl (Nat.le_of_ble_eq_true (by kernel_rfl)) ?_
  refine Wp_glue glacierref2_Disk_Append_p0 (fun s w => glacierref2_Disk_Append_b0 s.1 s.2.1 s.2.2.1 s.2.2.2.1 s.2.2.2.2 R w) [_, _, _, _, _, _] (Q0 := fun e _ r w => match e with | .normal => glacierref2_Disk_Append_p0.dec r (fun s => glacierref2_Disk_Append_b0 s.1 s.2.1 s.2.2.1 s.2.2.2.1 s.2.2.2.2 R w) | .exit _ => False | .ret => retQ Try.prog Try.f35.results R .ret [] r w | _ => False) h (by kernel_rfl) (fun s r w h => ?_) glacierref2_Disk_Append_p0_ok (fun _ _ _ h => h) ?_
  · obtain ⟨d1, b1, b_n1, b_c1, f1⟩ := s
    have h : glacierref2_Disk_Append_b0 d1 b1 b_n1 b_c1 f1 R w := h
    refine Wp_leaf_end (Q0 := fun e _ r w => match e with | .normal => retQ Try.prog Try.f35.results R .normal [] r w | .exit _ => False | .ret => retQ Try.prog Try.f35.results R .ret [] r w | _ => False) h (by kernel_rfl) ?_
    intro e _ r w h
    cases e with
    | normal => exact h
    | exit i => exact h.elim
    | ret => exact h
    | goto i => exact h.elim
    | panic c => exact h.elim
    | outgrown => exact h.elim
  · intro e _ r w hne h
    cases e with
    | normal => exact absurd rfl hne
    | exit i => exact h.elim
    | ret => exact h
    | goto i => exact h.elim
    | panic c => exact h.elim
    | outgrown => exact h.elim

/- (*glacier/glacierref2.Disk).all -/
def glacierref2_Disk_all_b0 (R : Value → World → Prop) (w : World) : Prop :=
  R (.bool true) w

def glacierref2_Disk_all_b1 (d3 : Option Addr) (names3 : Option Addr) (names_n3 : Nat) (names_c3 : Nat) (i1 : Int) (K0 : ((Option Addr) × (Option Addr) × Nat × Nat × Int) → World → Prop) (R : Value → World → Prop) (w : World) : Prop :=
  Br (decide (i1 < (names_n3 : Int))) (
  IX names3 names_n3 i1 1 fun a =>
  LDS w a fun v =>
  CallR Try.prog fn_glacierref2_Disk_find #[(.pointer d3), (.string v)] w fun res w_ =>
  mTup res fun l =>
  mCons l fun v1 l1 =>
  mInt .i64 v1 fun _ =>
  mCons l1 fun v3 l2 =>
  mBool v3 fun v4 =>
  mNil l2 (
  Br (!v4) (
  R (.bool false) w_) (
  K0 (d3, names3, names_n3, names_c3, IntKind.wrap .i64 (i1 + 1)) w_))) (
  glacierref2_Disk_all_b0 R w)

def glacierref2_Disk_all_b2 (d2 : Option Addr) (names2 : Option Addr) (names_n2 : Nat) (names_c2 : Nat) (i : Int) (R : Value → World → Prop) (w : World) : Prop :=
  LoopS (σ := (Option Addr) × (Option Addr) × Nat × Nat × Int) (fun s w K0 =>
  glacierref2_Disk_all_b1 s.1 s.2.1 s.2.2.1 s.2.2.2.1 s.2.2.2.2 K0 R w) (d2, names2, names_n2, names_c2, i) w

def glacierref2_Disk_all_b3 (d1 : Option Addr) (names1 : Option Addr) (names_n1 : Nat) (names_c1 : Nat) (R : Value → World → Prop) (w : World) : Prop :=
  glacierref2_Disk_all_b2 d1 names1 names_n1 names_c1 0 R w

def glacierref2_Disk_all_b4 (d : Option Addr) (names : Option Addr) (names_n : Nat) (names_c : Nat) (R : Value → World → Prop) (w : World) : Prop :=
  glacierref2_Disk_all_b3 d names names_n names_c R w

def glacierref2_Disk_all_p0 : Point ((Option Addr) × (Option Addr) × Nat × Nat) := { slots := fun s => [(0, (.pointer s.1)), (1, (.slice s.2.1 s.2.2.1 s.2.2.2))], dec := fun r K => mPtr (r 0) fun x => mSlice (r 1) fun x1 x2 x3 => K (x, x1, x2, x3) }
theorem glacierref2_Disk_all_p0_ok : glacierref2_Disk_all_p0.ok := by
  intro r K h
  unfold glacierref2_Disk_all_p0 at h
  obtain ⟨x, e0, h⟩ := mPtr_elim h
  obtain ⟨x1, x2, x3, e1, h⟩ := mSlice_elim h
  exact ⟨(x, x1, x2, x3), regsOf_self (L := [(0, (.pointer x)), (1, (.slice x1 x2 x3))]) (List.forall_mem_cons.2 ⟨e0, List.forall_mem_cons.2 ⟨e1, List.forall_mem_nil _⟩⟩), h⟩
theorem glacierref2_Disk_all_p0_re (s : (Option Addr) × (Option Addr) × Nat × Nat) (r : Regs) (K : ((Option Addr) × (Option Addr) × Nat × Nat) → Prop) (h : K s) : glacierref2_Disk_all_p0.dec (regsOf (glacierref2_Disk_all_p0.slots s) r) K := by
  obtain ⟨x4, x5, x6, x7⟩ := s
  exact cast (show K (x4, x5, x6, x7) = glacierref2_Disk_all_p0.dec (regsOf (glacierref2_Disk_all_p0.slots (x4, x5, x6, x7)) r) K by kernel_rfl) h

def glacierref2_Disk_all_p1 : Point (Unit) := { slots := fun _ => [], dec := fun _ K => K () }
theorem glacierref2_Disk_all_p1_ok : glacierref2_Disk_all_p1.ok := by
  intro r K h
  unfold glacierref2_Disk_all_p1 at h
  exact ⟨(), regsOf_self (L := []) (List.forall_mem_nil _), h⟩
theorem glacierref2_Disk_all_p1_re (s : Unit) (r : Regs) (K : Unit → Prop) (h : K s) : glacierref2_Disk_all_p1.dec (regsOf (glacierref2_Disk_all_p1.slots s) r) K := by
  exact cast (show K () = glacierref2_Disk_all_p1.dec (regsOf (glacierref2_Disk_all_p1.slots ()) r) K by kernel_rfl) h

def glacierref2_Disk_all_p2 : Point ((Option Addr) × (Option Addr) × Nat × Nat × Int) := { slots := fun s => [(0, (.pointer s.1)), (1, (.slice s.2.1 s.2.2.1 s.2.2.2.1)), (5, (.int .i64 s.2.2.2.2))], dec := fun r K => mPtr (r 0) fun x => mSlice (r 1) fun x1 x2 x3 => mInt .i64 (r 5) fun x4 => K (x, x1, x2, x3, x4) }
theorem glacierref2_Disk_all_p2_ok : glacierref2_Disk_all_p2.ok := by
  intro r K h
  unfold glacierref2_Disk_all_p2 at h
  obtain ⟨x, e0, h⟩ := mPtr_elim h
  obtain ⟨x1, x2, x3, e1, h⟩ := mSlice_elim h
  obtain ⟨x4, e2, h⟩ := mInt_elim h
  exact ⟨(x, x1, x2, x3, x4), regsOf_self (L := [(0, (.pointer x)), (1, (.slice x1 x2 x3)), (5, (.int .i64 x4))]) (List.forall_mem_cons.2 ⟨e0, List.forall_mem_cons.2 ⟨e1, List.forall_mem_cons.2 ⟨e2, List.forall_mem_nil _⟩⟩⟩), h⟩
theorem glacierref2_Disk_all_p2_re (s : (Option Addr) × (Option Addr) × Nat × Nat × Int) (r : Regs) (K : ((Option Addr) × (Option Addr) × Nat × Nat × Int) → Prop) (h : K s) : glacierref2_Disk_all_p2.dec (regsOf (glacierref2_Disk_all_p2.slots s) r) K := by
  obtain ⟨x5, x6, x7, x8, x9⟩ := s
  exact cast (show K (x5, x6, x7, x8, x9) = glacierref2_Disk_all_p2.dec (regsOf (glacierref2_Disk_all_p2.slots (x5, x6, x7, x8, x9)) r) K by kernel_rfl) h

theorem glacierref2_Disk_all_sound (d : Option Addr) (names : Option Addr) (names_n : Nat) (names_c : Nat) (R : Value → World → Prop) (w : World) (h : glacierref2_Disk_all_b4 d names names_n names_c R w) :
    CallR Try.prog fn_glacierref2_Disk_all #[(.pointer d), (.slice names names_n names_c)] w R := by
  refine CallR_intro (args := [(.pointer d), (.slice names names_n names_c)]) Try.func52 rfl (Nat.le_of_ble_eq_true (by kernel_rfl)) ?_
  refine Wp_glue glacierref2_Disk_all_p0 (fun s w => glacierref2_Disk_all_b3 s.1 s.2.1 s.2.2.1 s.2.2.2 R w) [_] (Q0 := fun e _ r w => match e with | .normal => glacierref2_Disk_all_p0.dec r (fun s => glacierref2_Disk_all_b3 s.1 s.2.1 s.2.2.1 s.2.2.2 R w) | .exit _ => False | .ret => retQ Try.prog Try.f52.results R .ret [] r w | _ => False) h (by kernel_rfl) (fun s r w h => ?_) glacierref2_Disk_all_p0_ok (fun _ _ _ h => h) ?_
  · obtain ⟨d1, names1, names_n1, names_c1⟩ := s
    have h : glacierref2_Disk_all_b3 d1 names1 names_n1 names_c1 R w := h
    refine Wp_seq_via glacierref2_Disk_all_p1 (fun _ w => glacierref2_Disk_all_b0 R w) (fun s r w h => ?_) (fun hN1 => ?_)
    · cases s
      have h : glacierref2_Disk_all_b0 R w := h
      refine Wp_leaf_end (Q0 := fun e _ r w => match e with | .normal => retQ Try.prog Try.f52.results R .normal [] r w | .exit _ => False | .ret => retQ Try.prog Try.f52.results R .ret [] r w | _ => False) h (by kernel_rfl) ?_
      intro e _ r w h
      cases e with
      | normal => exact h
      | exit i => exact h.elim
      | ret => exact h
      | goto i => exact h.elim
      | panic c => exact h.elim
      | outgrown => exact h.elim
    · refine Wp_glue glacierref2_Disk_all_p2 (fun s w => glacierref2_Disk_all_b2 s.1 s.2.1 s.2.2.1 s.2.2.2.1 s.2.2.2.2 R w) [_] (Q0 := fun e _ r w => match e with | .normal => glacierref2_Disk_all_p2.dec r (fun s => glacierref2_Disk_all_b2 s.1 s.2.1 s.2.2.1 s.2.2.2.1 s.2.2.2.2 R w) | .exit _ => False | .ret => retQ Try.prog Try.f52.results R .ret [] r w | _ => False) h (by kernel_rfl) (fun s r w h => ?_) glacierref2_Disk_all_p2_ok (fun _ _ _ h => h) ?_
      · obtain ⟨d2, names2, names_n2, names_c2, i⟩ := s
        have h : glacierref2_Disk_all_b2 d2 names2 names_n2 names_c2 i R w := h
        refine Wp_block_via glacierref2_Disk_all_p1 (fun _ w => glacierref2_Disk_all_b0 R w) hN1 (fun hX2 => ?_)
        refine Wp_loop (p := glacierref2_Disk_all_p2) glacierref2_Disk_all_p2_ok (fun s r w K0 h => ?_) h
        obtain ⟨d3, names3, names_n3, names_c3, i1⟩ := s
        have h : glacierref2_Disk_all_b1 d3 names3 names_n3 names_c3 i1 K0 R w := h
        have hK3 := fun (s : (Option Addr) × (Option Addr) × Nat × Nat × Int) (r : Regs) (w : World) (h : K0 s w) => glacierref2_Disk_all_p2_re s r (fun s => K0 s w) h
        refine Wp_leaf_end (Q0 := fun e _ r w => match e with | .normal => glacierref2_Disk_all_p2.dec r (fun s => K0 s w) | .exit i => exitQ i 0 (glacierref2_Disk_all_p1.dec r (fun _ => glacierref2_Disk_all_b0 R w)) (False) | .ret => retQ Try.prog Try.f52.results R .ret [] r w | _ => False) h (by kernel_rfl) ?_
        intro e _ r w h
        cases e with
        | normal =>
          obtain ⟨s, hs, h⟩ := glacierref2_Disk_all_p2_ok _ _ h
          rw [← hs]
          exact hK3 s r w h
        | exit i =>
          rcases exitQ_elim h with ⟨rfl, h⟩ | ⟨_, h⟩
          · obtain ⟨s, hs, h⟩ := glacierref2_Disk_all_p1_ok _ _ h
            rw [← hs]
            exact hX2 s r w h
          exact h.elim
        | ret => exact h
        | goto i => exact h.elim
        | panic c => exact h.elim
        | outgrown => exact h.elim
      · intro e _ r w hne h
        cases e with
        | normal => exact absurd rfl hne
        | exit i => exact h.elim
        | ret => exact h
        | goto i => exact h.elim
        | panic c => exact h.elim
        | outgrown => exact h.elim
  · intro e _ r w hne h
    cases e with
    | normal => exact absurd rfl hne
    | exit i => exact h.elim
    | ret => exact h
    | goto i => exact h.elim
    | panic c => exact h.elim
    | outgrown => exact h.elim

/- (*glacier/glacierref2.Disk).Sync -/
def glacierref2_Disk_Sync_b0 (R : Value → World → Prop) (w : World) : Prop :=
  R (.int .i64 0) w

def glacierref2_Disk_Sync_b1 (d3 : Option Addr) (names3 : Option Addr) (names_n3 : Nat) (names_c3 : Nat) (i1 : Int) (K0 : ((Option Addr) × (Option Addr) × Nat × Nat × Int) → World → Prop) (R : Value → World → Prop) (w : World) : Prop :=
  Br (decide (i1 < (names_n3 : Int))) (
  IX names3 names_n3 i1 1 fun a =>
  LDS w a fun v1 =>
  CallR Try.prog fn_glacierref2_Disk_find #[(.pointer d3), (.string v1)] w fun res1 w_1 =>
  mTup res1 fun l =>
  mCons l fun v2 l1 =>
  mInt .i64 v2 fun v3 =>
  mCons l1 fun v4 l2 =>
  mBool v4 fun _ =>
  mNil l2 (
  LetW (World.drew w_1) fun w_2 =>
  NN d3 fun p =>
  LDSl w_2 (Addr.add p 1) fun v6 v_n _ =>
  NN d3 fun p1 =>
  LDSl w_2 (Addr.add p1 1) fun v7 v_n1 _ =>
  IX v7 v_n1 v3 3 fun a1 =>
  LDSl w_2 (Addr.add a1 1) fun _ v_n2 _ =>
  (w_2 = w_2 ∧ 
  IX v6 v_n v3 3 fun a2 =>
  ST w_2 (Addr.add a2 2) (.int .i64 (v_n2 : Int)) fun w_3 =>
  K0 (d3, names3, names_n3, names_c3, IntKind.wrap .i64 (i1 + 1)) w_3))) (
  glacierref2_Disk_Sync_b0 R w)

def glacierref2_Disk_Sync_b2 (d2 : Option Addr) (names2 : Option Addr) (names_n2 : Nat) (names_c2 : Nat) (i : Int) (R : Value → World → Prop) (w : World) : Prop :=
  LoopS (σ := (Option Addr) × (Option Addr) × Nat × Nat × Int) (fun s w K0 =>
  glacierref2_Disk_Sync_b1 s.1 s.2.1 s.2.2.1 s.2.2.2.1 s.2.2.2.2 K0 R w) (d2, names2, names_n2, names_c2, i) w

def glacierref2_Disk_Sync_b3 (d1 : Option Addr) (names1 : Option Addr) (names_n1 : Nat) (names_c1 : Nat) (R : Value → World → Prop) (w : World) : Prop :=
  glacierref2_Disk_Sync_b2 d1 names1 names_n1 names_c1 0 R w

def glacierref2_Disk_Sync_b4 (d : Option Addr) (names : Option Addr) (names_n : Nat) (names_c : Nat) (R : Value → World → Prop) (w : World) : Prop :=
  CallR Try.prog fn_glacierref2_Disk_all #[(.pointer d), (.slice names names_n names_c)] w fun res w_ =>
  mBool res fun v =>
  Br (!v) (
  R (.int .i64 4) w_) (
  glacierref2_Disk_Sync_b3 d names names_n names_c R w_)

def glacierref2_Disk_Sync_p0 : Point ((Option Addr) × (Option Addr) × Nat × Nat) := { slots := fun s => [(0, (.pointer s.1)), (1, (.slice s.2.1 s.2.2.1 s.2.2.2))], dec := fun r K => mPtr (r 0) fun x => mSlice (r 1) fun x1 x2 x3 => K (x, x1, x2, x3) }
theorem glacierref2_Disk_Sync_p0_ok : glacierref2_Disk_Sync_p0.ok := by
  intro r K h
  unfold glacierref2_Disk_Sync_p0 at h
  obtain ⟨x, e0, h⟩ := mPtr_elim h
  obtain ⟨x1, x2, x3, e1, h⟩ := mSlice_elim h
  exact ⟨(x, x1, x2, x3), regsOf_self (L := [(0, (.pointer x)), (1, (.slice x1 x2 x3))]) (List.forall_mem_cons.2 ⟨e0, List.forall_mem_cons.2 ⟨e1, List.forall_mem_nil _⟩⟩), h⟩
theorem glacierref2_Disk_Sync_p0_re (s : (Option Addr) × (Option Addr) × Nat × Nat) (r : Regs) (K : ((Option Addr) × (Option Addr) × Nat × Nat) → Prop) (h : K s) : glacierref2_Disk_Sync_p0.dec (regsOf (glacierref2_Disk_Sync_p0.slots s) r) K := by
  obtain ⟨x4, x5, x6, x7⟩ := s
  exact cast (show K (x4, x5, x6, x7) = glacierref2_Disk_Sync_p0.dec (regsOf (glacierref2_Disk_Sync_p0.slots (x4, x5, x6, x7)) r) K by kernel_rfl) h

def glacierref2_Disk_Sync_p1 : Point (Unit) := { slots := fun _ => [], dec := fun _ K => K () }
theorem glacierref2_Disk_Sync_p1_ok : glacierref2_Disk_Sync_p1.ok := by
  intro r K h
  unfold glacierref2_Disk_Sync_p1 at h
  exact ⟨(), regsOf_self (L := []) (List.forall_mem_nil _), h⟩
theorem glacierref2_Disk_Sync_p1_re (s : Unit) (r : Regs) (K : Unit → Prop) (h : K s) : glacierref2_Disk_Sync_p1.dec (regsOf (glacierref2_Disk_Sync_p1.slots s) r) K := by
  exact cast (show K () = glacierref2_Disk_Sync_p1.dec (regsOf (glacierref2_Disk_Sync_p1.slots ()) r) K by kernel_rfl) h

def glacierref2_Disk_Sync_p2 : Point ((Option Addr) × (Option Addr) × Nat × Nat × Int) := { slots := fun s => [(0, (.pointer s.1)), (1, (.slice s.2.1 s.2.2.1 s.2.2.2.1)), (5, (.int .i64 s.2.2.2.2))], dec := fun r K => mPtr (r 0) fun x => mSlice (r 1) fun x1 x2 x3 => mInt .i64 (r 5) fun x4 => K (x, x1, x2, x3, x4) }
theorem glacierref2_Disk_Sync_p2_ok : glacierref2_Disk_Sync_p2.ok := by
  intro r K h
  unfold glacierref2_Disk_Sync_p2 at h
  obtain ⟨x, e0, h⟩ := mPtr_elim h
  obtain ⟨x1, x2, x3, e1, h⟩ := mSlice_elim h
  obtain ⟨x4, e2, h⟩ := mInt_elim h
  exact ⟨(x, x1, x2, x3, x4), regsOf_self (L := [(0, (.pointer x)), (1, (.slice x1 x2 x3)), (5, (.int .i64 x4))]) (List.forall_mem_cons.2 ⟨e0, List.forall_mem_cons.2 ⟨e1, List.forall_mem_cons.2 ⟨e2, List.forall_mem_nil _⟩⟩⟩), h⟩
theorem glacierref2_Disk_Sync_p2_re (s : (Option Addr) × (Option Addr) × Nat × Nat × Int) (r : Regs) (K : ((Option Addr) × (Option Addr) × Nat × Nat × Int) → Prop) (h : K s) : glacierref2_Disk_Sync_p2.dec (regsOf (glacierref2_Disk_Sync_p2.slots s) r) K := by
  obtain ⟨x5, x6, x7, x8, x9⟩ := s
  exact cast (show K (x5, x6, x7, x8, x9) = glacierref2_Disk_Sync_p2.dec (regsOf (glacierref2_Disk_Sync_p2.slots (x5, x6, x7, x8, x9)) r) K by kernel_rfl) h

theorem glacierref2_Disk_Sync_sound (d : Option Addr) (names : Option Addr) (names_n : Nat) (names_c : Nat) (R : Value → World → Prop) (w : World) (h : glacierref2_Disk_Sync_b4 d names names_n names_c R w) :
    CallR Try.prog fn_glacierref2_Disk_Sync #[(.pointer d), (.slice names names_n names_c)] w R := by
  refine CallR_intro (args := [(.pointer d), (.slice names names_n names_c)]) Try.func36 rfl (Nat.le_of_ble_eq_true (by kernel_rfl)) ?_
  refine Wp_glue glacierref2_Disk_Sync_p0 (fun s w => glacierref2_Disk_Sync_b3 s.1 s.2.1 s.2.2.1 s.2.2.2 R w) [_, _] (Q0 := fun e _ r w => match e with | .normal => glacierref2_Disk_Sync_p0.dec r (fun s => glacierref2_Disk_Sync_b3 s.1 s.2.1 s.2.2.1 s.2.2.2 R w) | .exit _ => False | .ret => retQ Try.prog Try.f36.results R .ret [] r w | _ => False) h (by kernel_rfl) (fun s r w h => ?_) glacierref2_Disk_Sync_p0_ok (fun _ _ _ h => h) ?_
  · obtain ⟨d1, names1, names_n1, names_c1⟩ := s
    have h : glacierref2_Disk_Sync_b3 d1 names1 names_n1 names_c1 R w := h
    refine Wp_seq_via glacierref2_Disk_Sync_p1 (fun _ w => glacierref2_Disk_Sync_b0 R w) (fun s r w h => ?_) (fun hN1 => ?_)
    · cases s
      have h : glacierref2_Disk_Sync_b0 R w := h
      refine Wp_leaf_end (Q0 := fun e _ r w => match e with | .normal => retQ Try.prog Try.f36.results R .normal [] r w | .exit _ => False | .ret => retQ Try.prog Try.f36.results R .ret [] r w | _ => False) h (by kernel_rfl) ?_
      intro e _ r w h
      cases e with
      | normal => exact h
      | exit i => exact h.elim
      | ret => exact h
      | goto i => exact h.elim
      | panic c => exact h.elim
      | outgrown => exact h.elim
    · refine Wp_glue glacierref2_Disk_Sync_p2 (fun s w => glacierref2_Disk_Sync_b2 s.1 s.2.1 s.2.2.1 s.2.2.2.1 s.2.2.2.2 R w) [_] (Q0 := fun e _ r w => match e with | .normal => glacierref2_Disk_Sync_p2.dec r (fun s => glacierref2_Disk_Sync_b2 s.1 s.2.1 s.2.2.1 s.2.2.2.1 s.2.2.2.2 R w) | .exit _ => False | .ret => retQ Try.prog Try.f36.results R .ret [] r w | _ => False) h (by kernel_rfl) (fun s r w h => ?_) glacierref2_Disk_Sync_p2_ok (fun _ _ _ h => h) ?_
      · obtain ⟨d2, names2, names_n2, names_c2, i⟩ := s
        have h : glacierref2_Disk_Sync_b2 d2 names2 names_n2 names_c2 i R w := h
        refine Wp_block_via glacierref2_Disk_Sync_p1 (fun _ w => glacierref2_Disk_Sync_b0 R w) hN1 (fun hX2 => ?_)
        refine Wp_loop (p := glacierref2_Disk_Sync_p2) glacierref2_Disk_Sync_p2_ok (fun s r w K0 h => ?_) h
        obtain ⟨d3, names3, names_n3, names_c3, i1⟩ := s
        have h : glacierref2_Disk_Sync_b1 d3 names3 names_n3 names_c3 i1 K0 R w := h
        have hK3 := fun (s : (Option Addr) × (Option Addr) × Nat × Nat × Int) (r : Regs) (w : World) (h : K0 s w) => glacierref2_Disk_Sync_p2_re s r (fun s => K0 s w) h
        refine Wp_leaf_end (Q0 := fun e _ r w => match e with | .normal => glacierref2_Disk_Sync_p2.dec r (fun s => K0 s w) | .exit i => exitQ i 0 (glacierref2_Disk_Sync_p1.dec r (fun _ => glacierref2_Disk_Sync_b0 R w)) (False) | .ret => retQ Try.prog Try.f36.results R .ret [] r w | _ => False) h (by kernel_rfl) ?_
        intro e _ r w h
        cases e with
        | normal =>
          obtain ⟨s, hs, h⟩ := glacierref2_Disk_Sync_p2_ok _ _ h
          rw [← hs]
          exact hK3 s r w h
        | exit i =>
          rcases exitQ_elim h with ⟨rfl, h⟩ | ⟨_, h⟩
          · obtain ⟨s, hs, h⟩ := glacierref2_Disk_Sync_p1_ok _ _ h
            rw [← hs]
            exact hX2 s r w h
          exact h.elim
        | ret => exact h
        | goto i => exact h.elim
        | panic c => exact h.elim
        | outgrown => exact h.elim
      · intro e _ r w hne h
        cases e with
        | normal => exact absurd rfl hne
        | exit i => exact h.elim
        | ret => exact h
        | goto i => exact h.elim
        | panic c => exact h.elim
        | outgrown => exact h.elim
  · intro e _ r w hne h
    cases e with
    | normal => exact absurd rfl hne
    | exit i => exact h.elim
    | ret => exact h
    | goto i => exact h.elim
    | panic c => exact h.elim
    | outgrown => exact h.elim

/- (*glacier/glacierref2.Disk).Read -/
def glacierref2_Disk_Read_b0 (d : Option Addr) (name : ByteArray) (R : Value → World → Prop) (w : World) : Prop :=
  CallR Try.prog fn_glacierref2_Disk_find #[(.pointer d), (.string name)] w fun res w_ =>
  mTup res fun l =>
  mCons l fun v l1 =>
  mInt .i64 v fun v1 =>
  mCons l1 fun v2 l2 =>
  mBool v2 fun v3 =>
  mNil l2 (
  Br (!v3) (
  R (.tuple #[(.slice none 0 0), (.int .i64 4)]) w_) (
  NN d fun p =>
  LDSl w_ (Addr.add p 1) fun v4 v_n _ =>
  IX v4 v_n v1 3 fun a =>
  LDSl w_ (Addr.add a 1) fun v5 v_n1 v_c1 =>
  R (.tuple #[(.slice v5 v_n1 v_c1), (.int .i64 0)]) w_))

theorem glacierref2_Disk_Read_sound (d : Option Addr) (name : ByteArray) (R : Value → World → Prop) (w : World) (h : glacierref2_Disk_Read_b0 d name R w) :
    CallR Try.prog fn_glacierref2_Disk_Read #[(.pointer d), (.string name)] w R := by
  refine CallR_intro (args := [(.pointer d), (.string name)]) Try.func29 rfl (Nat.le_of_ble_eq_true (by kernel_rfl)) ?_
  refine Wp_leaf_end (Q0 := fun e _ r w => match e with | .normal => retQ Try.prog Try.f29.results R .normal [] r w | .exit _ => False | .ret => retQ Try.prog Try.f29.results R .ret [] r w | _ => False) h (by kernel_rfl) ?_
  intro e _ r w h
  cases e with
  | normal => exact h
  | exit i => exact h.elim
  | ret => exact h
  | goto i => exact h.elim
  | panic c => exact h.elim
  | outgrown => exact h.elim

/- (*glacier/glacierref2.Disk).Unsynced -/
def glacierref2_Disk_Unsynced_b0 (d : Option Addr) (name : ByteArray) (R : Value → World → Prop) (w : World) : Prop :=
  CallR Try.prog fn_glacierref2_Disk_find #[(.pointer d), (.string name)] w fun res w_ =>
  mTup res fun l =>
  mCons l fun v l1 =>
  mInt .i64 v fun v1 =>
  mCons l1 fun v2 l2 =>
  mBool v2 fun v3 =>
  mNil l2 (
  Br (!v3) (
  R (.int .i64 0) w_) (
  LetW (World.drew w_) fun w_1 =>
  NN d fun p =>
  LDSl w_1 (Addr.add p 1) fun v4 v_n _ =>
  IX v4 v_n v1 3 fun a =>
  LDSl w_1 (Addr.add a 1) fun _ v_n1 _ =>
  (w_1 = w_1 ∧ 
  NN d fun p1 =>
  LDSl w_1 (Addr.add p1 1) fun v6 v_n2 _ =>
  IX v6 v_n2 v1 3 fun a1 =>
  LDI .i64 w_1 (Addr.add a1 2) fun v7 =>
  R (.int .i64 (IntKind.wrap .i64 ((v_n1 : Int) - v7))) w_1)))

theorem glacierref2_Disk_Unsynced_sound (d : Option Addr) (name : ByteArray) (R : Value → World → Prop) (w : World) (h : glacierref2_Disk_Unsynced_b0 d name R w) :
    CallR Try.prog fn_glacierref2_Disk_Unsynced #[(.pointer d), (.string name)] w R := by
  refine CallR_intro (args := [(.pointer d), (.string name)]) Try.func32 rfl (Nat.le_of_ble_eq_true (by kernel_rfl)) ?_
  refine Wp_leaf_end (Q0 := fun e _ r w => match e with | .normal => retQ Try.prog Try.f32.results R .normal [] r w | .exit _ => False | .ret => retQ Try.prog Try.f32.results R .ret [] r w | _ => False) h (by kernel_rfl) ?_
  intro e _ r w h
  cases e with
  | normal => exact h
  | exit i => exact h.elim
  | ret => exact h
  | goto i => exact h.elim
  | panic c => exact h.elim
  | outgrown => exact h.elim

/- (*glacier/glacierref2.Disk).Rename -/
def glacierref2_Disk_Rename_b0 (d : Option Addr) (from_ : ByteArray) (to : ByteArray) (R : Value → World → Prop) (w : World) : Prop :=
  CallR Try.prog fn_glacierref2_Disk_find #[(.pointer d), (.string from_)] w fun res w_ =>
  mTup res fun l =>
  mCons l fun v l1 =>
  mInt .i64 v fun v1 =>
  mCons l1 fun v2 l2 =>
  mBool v2 fun v3 =>
  mNil l2 (
  Br (!v3) (
  R (.int .i64 4) w_) (
  CallR Try.prog fn_glacierref2_Name #[(.string to)] w_ fun res1 w_1 =>
  mBool res1 fun v4 =>
  Br (!v4) (
  R (.int .i64 1) w_1) (
  Br (ByteArray.toList from_ == ByteArray.toList to) (
  R (.int .i64 0) w_1) (
  NN d fun p =>
  LDSl w_1 (Addr.add p 1) fun v5 v_n _ =>
  IX v5 v_n v1 3 fun a =>
  LDS w_1 a fun Name =>
  LDSl w_1 (Addr.add a 1) fun Bytes Bytes_n Bytes_c =>
  LDI .i64 w_1 (Addr.add a 2) fun Synced =>
  AL w_1 (.cells #[(.string (ByteArray.mk #[])), (.slice none 0 0), (.int .i64 0)] 82) fun f w_2 =>
  ST w_2 f (.string Name) fun w_3 =>
  ST w_3 (Addr.add f 1) (.slice Bytes Bytes_n Bytes_c) fun w_4 =>
  ST w_4 (Addr.add f 2) (.int .i64 Synced) fun w_5 =>
  CallR Try.prog fn_glacierref2_Disk_drop #[(.pointer d), (.string from_)] w_5 fun res2 w_6 =>
  mTup res2 fun l3 =>
  mNil l3 (
  ST w_6 f (.string to) fun w_7 =>
  LDS w_7 f fun Name1 =>
  LDSl w_7 (Addr.add f 1) fun Bytes1 Bytes_n1 Bytes_c1 =>
  LDI .i64 w_7 (Addr.add f 2) fun Synced1 =>
  CallR Try.prog fn_glacierref2_Disk_put #[(.pointer d), (.agg #[(.string Name1), (.slice Bytes1 Bytes_n1 Bytes_c1), (.int .i64 Synced1)])] w_7 fun res3 w_8 =>
  mTup res3 fun l4 =>
  mNil l4 (
  R (.int .i64 0) w_8))))))

theorem glacierref2_Disk_Rename_sound (d : Option Addr) (from_ : ByteArray) (to : ByteArray) (R : Value → World → Prop) (w : World) (h : glacierref2_Disk_Rename_b0 d from_ to R w) :
    CallR Try.prog fn_glacierref2_Disk_Rename #[(.pointer d), (.string from_), (.string to)] w R := by
  refine CallR_intro (args := [(.pointer d), (.string from_), (.string to)]) Try.func37 rfl (Nat.le_of_ble_eq_true (by kernel_rfl)) ?_
  refine Wp_leaf_end (Q0 := fun e _ r w => match e with | .normal => retQ Try.prog Try.f37.results R .normal [] r w | .exit _ => False | .ret => retQ Try.prog Try.f37.results R .ret [] r w | _ => False) h (by kernel_rfl) ?_
  intro e _ r w h
  cases e with
  | normal => exact h
  | exit i => exact h.elim
  | ret => exact h
  | goto i => exact h.elim
  | panic c => exact h.elim
  | outgrown => exact h.elim

/- (*glacier/glacierref2.Disk).Delete -/
def glacierref2_Disk_Delete_b0 (R : Value → World → Prop) (w : World) : Prop :=
  R (.int .i64 0) w

def glacierref2_Disk_Delete_b1 (d3 : Option Addr) (names3 : Option Addr) (names_n3 : Nat) (names_c3 : Nat) (i1 : Int) (K0 : ((Option Addr) × (Option Addr) × Nat × Nat × Int) → World → Prop) (R : Value → World → Prop) (w : World) : Prop :=
  Br (decide (i1 < (names_n3 : Int))) (
  IX names3 names_n3 i1 1 fun a =>
  LDS w a fun v1 =>
  CallR Try.prog fn_glacierref2_Disk_drop #[(.pointer d3), (.string v1)] w fun res1 w_1 =>
  mTup res1 fun l =>
  mNil l (
  K0 (d3, names3, names_n3, names_c3, IntKind.wrap .i64 (i1 + 1)) w_1)) (
  glacierref2_Disk_Delete_b0 R w)

def glacierref2_Disk_Delete_b2 (d2 : Option Addr) (names2 : Option Addr) (names_n2 : Nat) (names_c2 : Nat) (i : Int) (R : Value → World → Prop) (w : World) : Prop :=
  LoopS (σ := (Option Addr) × (Option Addr) × Nat × Nat × Int) (fun s w K0 =>
  glacierref2_Disk_Delete_b1 s.1 s.2.1 s.2.2.1 s.2.2.2.1 s.2.2.2.2 K0 R w) (d2, names2, names_n2, names_c2, i) w

def glacierref2_Disk_Delete_b3 (d1 : Option Addr) (names1 : Option Addr) (names_n1 : Nat) (names_c1 : Nat) (R : Value → World → Prop) (w : World) : Prop :=
  glacierref2_Disk_Delete_b2 d1 names1 names_n1 names_c1 0 R w

def glacierref2_Disk_Delete_b4 (d : Option Addr) (names : Option Addr) (names_n : Nat) (names_c : Nat) (R : Value → World → Prop) (w : World) : Prop :=
  CallR Try.prog fn_glacierref2_Disk_all #[(.pointer d), (.slice names names_n names_c)] w fun res w_ =>
  mBool res fun v =>
  Br (!v) (
  R (.int .i64 4) w_) (
  glacierref2_Disk_Delete_b3 d names names_n names_c R w_)

def glacierref2_Disk_Delete_p0 : Point ((Option Addr) × (Option Addr) × Nat × Nat) := { slots := fun s => [(0, (.pointer s.1)), (1, (.slice s.2.1 s.2.2.1 s.2.2.2))], dec := fun r K => mPtr (r 0) fun x => mSlice (r 1) fun x1 x2 x3 => K (x, x1, x2, x3) }
theorem glacierref2_Disk_Delete_p0_ok : glacierref2_Disk_Delete_p0.ok := by
  intro r K h
  unfold glacierref2_Disk_Delete_p0 at h
  obtain ⟨x, e0, h⟩ := mPtr_elim h
  obtain ⟨x1, x2, x3, e1, h⟩ := mSlice_elim h
  exact ⟨(x, x1, x2, x3), regsOf_self (L := [(0, (.pointer x)), (1, (.slice x1 x2 x3))]) (List.forall_mem_cons.2 ⟨e0, List.forall_mem_cons.2 ⟨e1, List.forall_mem_nil _⟩⟩), h⟩
theorem glacierref2_Disk_Delete_p0_re (s : (Option Addr) × (Option Addr) × Nat × Nat) (r : Regs) (K : ((Option Addr) × (Option Addr) × Nat × Nat) → Prop) (h : K s) : glacierref2_Disk_Delete_p0.dec (regsOf (glacierref2_Disk_Delete_p0.slots s) r) K := by
  obtain ⟨x4, x5, x6, x7⟩ := s
  exact cast (show K (x4, x5, x6, x7) = glacierref2_Disk_Delete_p0.dec (regsOf (glacierref2_Disk_Delete_p0.slots (x4, x5, x6, x7)) r) K by kernel_rfl) h

def glacierref2_Disk_Delete_p1 : Point (Unit) := { slots := fun _ => [], dec := fun _ K => K () }
theorem glacierref2_Disk_Delete_p1_ok : glacierref2_Disk_Delete_p1.ok := by
  intro r K h
  unfold glacierref2_Disk_Delete_p1 at h
  exact ⟨(), regsOf_self (L := []) (List.forall_mem_nil _), h⟩
theorem glacierref2_Disk_Delete_p1_re (s : Unit) (r : Regs) (K : Unit → Prop) (h : K s) : glacierref2_Disk_Delete_p1.dec (regsOf (glacierref2_Disk_Delete_p1.slots s) r) K := by
  exact cast (show K () = glacierref2_Disk_Delete_p1.dec (regsOf (glacierref2_Disk_Delete_p1.slots ()) r) K by kernel_rfl) h

def glacierref2_Disk_Delete_p2 : Point ((Option Addr) × (Option Addr) × Nat × Nat × Int) := { slots := fun s => [(0, (.pointer s.1)), (1, (.slice s.2.1 s.2.2.1 s.2.2.2.1)), (5, (.int .i64 s.2.2.2.2))], dec := fun r K => mPtr (r 0) fun x => mSlice (r 1) fun x1 x2 x3 => mInt .i64 (r 5) fun x4 => K (x, x1, x2, x3, x4) }
theorem glacierref2_Disk_Delete_p2_ok : glacierref2_Disk_Delete_p2.ok := by
  intro r K h
  unfold glacierref2_Disk_Delete_p2 at h
  obtain ⟨x, e0, h⟩ := mPtr_elim h
  obtain ⟨x1, x2, x3, e1, h⟩ := mSlice_elim h
  obtain ⟨x4, e2, h⟩ := mInt_elim h
  exact ⟨(x, x1, x2, x3, x4), regsOf_self (L := [(0, (.pointer x)), (1, (.slice x1 x2 x3)), (5, (.int .i64 x4))]) (List.forall_mem_cons.2 ⟨e0, List.forall_mem_cons.2 ⟨e1, List.forall_mem_cons.2 ⟨e2, List.forall_mem_nil _⟩⟩⟩), h⟩
theorem glacierref2_Disk_Delete_p2_re (s : (Option Addr) × (Option Addr) × Nat × Nat × Int) (r : Regs) (K : ((Option Addr) × (Option Addr) × Nat × Nat × Int) → Prop) (h : K s) : glacierref2_Disk_Delete_p2.dec (regsOf (glacierref2_Disk_Delete_p2.slots s) r) K := by
  obtain ⟨x5, x6, x7, x8, x9⟩ := s
  exact cast (show K (x5, x6, x7, x8, x9) = glacierref2_Disk_Delete_p2.dec (regsOf (glacierref2_Disk_Delete_p2.slots (x5, x6, x7, x8, x9)) r) K by kernel_rfl) h

theorem glacierref2_Disk_Delete_sound (d : Option Addr) (names : Option Addr) (names_n : Nat) (names_c : Nat) (R : Value → World → Prop) (w : World) (h : glacierref2_Disk_Delete_b4 d names names_n names_c R w) :
    CallR Try.prog fn_glacierref2_Disk_Delete #[(.pointer d), (.slice names names_n names_c)] w R := by
  refine CallR_intro (args := [(.pointer d), (.slice names names_n names_c)]) Try.func38 rfl (Nat.le_of_ble_eq_true (by kernel_rfl)) ?_
  refine Wp_glue glacierref2_Disk_Delete_p0 (fun s w => glacierref2_Disk_Delete_b3 s.1 s.2.1 s.2.2.1 s.2.2.2 R w) [_, _] (Q0 := fun e _ r w => match e with | .normal => glacierref2_Disk_Delete_p0.dec r (fun s => glacierref2_Disk_Delete_b3 s.1 s.2.1 s.2.2.1 s.2.2.2 R w) | .exit _ => False | .ret => retQ Try.prog Try.f38.results R .ret [] r w | _ => False) h (by kernel_rfl) (fun s r w h => ?_) glacierref2_Disk_Delete_p0_ok (fun _ _ _ h => h) ?_
  · obtain ⟨d1, names1, names_n1, names_c1⟩ := s
    have h : glacierref2_Disk_Delete_b3 d1 names1 names_n1 names_c1 R w := h
    refine Wp_seq_via glacierref2_Disk_Delete_p1 (fun _ w => glacierref2_Disk_Delete_b0 R w) (fun s r w h => ?_) (fun hN1 => ?_)
    · cases s
      have h : glacierref2_Disk_Delete_b0 R w := h
      refine Wp_leaf_end (Q0 := fun e _ r w => match e with | .normal => retQ Try.prog Try.f38.results R .normal [] r w | .exit _ => False | .ret => retQ Try.prog Try.f38.results R .ret [] r w | _ => False) h (by kernel_rfl) ?_
      intro e _ r w h
      cases e with
      | normal => exact h
      | exit i => exact h.elim
      | ret => exact h
      | goto i => exact h.elim
      | panic c => exact h.elim
      | outgrown => exact h.elim
    · refine Wp_glue glacierref2_Disk_Delete_p2 (fun s w => glacierref2_Disk_Delete_b2 s.1 s.2.1 s.2.2.1 s.2.2.2.1 s.2.2.2.2 R w) [_] (Q0 := fun e _ r w => match e with | .normal => glacierref2_Disk_Delete_p2.dec r (fun s => glacierref2_Disk_Delete_b2 s.1 s.2.1 s.2.2.1 s.2.2.2.1 s.2.2.2.2 R w) | .exit _ => False | .ret => retQ Try.prog Try.f38.results R .ret [] r w | _ => False) h (by kernel_rfl) (fun s r w h => ?_) glacierref2_Disk_Delete_p2_ok (fun _ _ _ h => h) ?_
      · obtain ⟨d2, names2, names_n2, names_c2, i⟩ := s
        have h : glacierref2_Disk_Delete_b2 d2 names2 names_n2 names_c2 i R w := h
        refine Wp_block_via glacierref2_Disk_Delete_p1 (fun _ w => glacierref2_Disk_Delete_b0 R w) hN1 (fun hX2 => ?_)
        refine Wp_loop (p := glacierref2_Disk_Delete_p2) glacierref2_Disk_Delete_p2_ok (fun s r w K0 h => ?_) h
        obtain ⟨d3, names3, names_n3, names_c3, i1⟩ := s
        have h : glacierref2_Disk_Delete_b1 d3 names3 names_n3 names_c3 i1 K0 R w := h
        have hK3 := fun (s : (Option Addr) × (Option Addr) × Nat × Nat × Int) (r : Regs) (w : World) (h : K0 s w) => glacierref2_Disk_Delete_p2_re s r (fun s => K0 s w) h
        refine Wp_leaf_end (Q0 := fun e _ r w => match e with | .normal => glacierref2_Disk_Delete_p2.dec r (fun s => K0 s w) | .exit i => exitQ i 0 (glacierref2_Disk_Delete_p1.dec r (fun _ => glacierref2_Disk_Delete_b0 R w)) (False) | .ret => retQ Try.prog Try.f38.results R .ret [] r w | _ => False) h (by kernel_rfl) ?_
        intro e _ r w h
        cases e with
        | normal =>
          obtain ⟨s, hs, h⟩ := glacierref2_Disk_Delete_p2_ok _ _ h
          rw [← hs]
          exact hK3 s r w h
        | exit i =>
          rcases exitQ_elim h with ⟨rfl, h⟩ | ⟨_, h⟩
          · obtain ⟨s, hs, h⟩ := glacierref2_Disk_Delete_p1_ok _ _ h
            rw [← hs]
            exact hX2 s r w h
          exact h.elim
        | ret => exact h
        | goto i => exact h.elim
        | panic c => exact h.elim
        | outgrown => exact h.elim
      · intro e _ r w hne h
        cases e with
        | normal => exact absurd rfl hne
        | exit i => exact h.elim
        | ret => exact h
        | goto i => exact h.elim
        | panic c => exact h.elim
        | outgrown => exact h.elim
  · intro e _ r w hne h
    cases e with
    | normal => exact absurd rfl hne
    | exit i => exact h.elim
    | ret => exact h
    | goto i => exact h.elim
    | panic c => exact h.elim
    | outgrown => exact h.elim

/- glacier/glacierref2.begins -/
def glacierref2_begins_b0 (s : ByteArray) (p : ByteArray) (R : Value → World → Prop) (w : World) : Prop :=
  Br (decide ((ByteArray.size s : Int) ≥ (ByteArray.size p : Int))) (
  rRun Try.prog (Instr.sliceAt 9 (.string s) none (some (.int .i64 (ByteArray.size p : Int))) none) w fun sr w_ =>
  mStr sr fun v =>
  R (.bool (ByteArray.toList v == ByteArray.toList p)) w_) (
  R (.bool false) w)

theorem glacierref2_begins_sound (s : ByteArray) (p : ByteArray) (R : Value → World → Prop) (w : World) (h : glacierref2_begins_b0 s p R w) :
    CallR Try.prog fn_glacierref2_begins #[(.string s), (.string p)] w R := by
  refine CallR_intro (args := [(.string s), (.string p)]) Try.func48 rfl (Nat.le_of_ble_eq_true (by kernel_rfl)) ?_
  refine Wp_leaf_end (Q0 := fun e _ r w => match e with | .normal => retQ Try.prog Try.f48.results R .normal [] r w | .exit _ => False | .ret => retQ Try.prog Try.f48.results R .ret [] r w | _ => False) h (by kernel_rfl) ?_
  intro e _ r w h
  cases e with
  | normal => exact h
  | exit i => exact h.elim
  | ret => exact h
  | goto i => exact h.elim
  | panic c => exact h.elim
  | outgrown => exact h.elim

/- (*glacier/glacierref2.Disk).List -/
def glacierref2_Disk_List_b0 (d9 : Option Addr) (prefixes9 : Option Addr) (prefixes_n9 : Nat) (prefixes_c9 : Nat) (out8 : Option Addr) (out_n8 : Nat) (out_c8 : Nat) (i7 : Int) (K0 : ((Option Addr) × (Option Addr) × Nat × Nat × (Option Addr) × Nat × Nat × Int) → World → Prop) (w : World) : Prop :=
  K0 (d9, prefixes9, prefixes_n9, prefixes_c9, out8, out_n8, out_c8, IntKind.wrap .i64 (i7 + 1)) w

def glacierref2_Disk_List_b1 (d8 : Option Addr) (prefixes8 : Option Addr) (prefixes_n8 : Nat) (prefixes_c8 : Nat) (out7 : Option Addr) (out_n7 : Nat) (out_c7 : Nat) (i6 : Int) (is3 : Bool) (K0 : ((Option Addr) × (Option Addr) × Nat × Nat × (Option Addr) × Nat × Nat × Int) → World → Prop) (w : World) : Prop :=
  Br is3 (
  NN d8 fun p2 =>
  LDSl w (Addr.add p2 1) fun v5 v_n2 _ =>
  IX v5 v_n2 i6 3 fun a2 =>
  LDS w a2 fun v6 =>
  AL w (.cells #[(.string v6)] 9) fun b w_2 =>
  rRun Try.prog (Builtin.append_ #[28, 28] 28 #[(.slice out7 out_n7 out_c7), (.slice (some b) 1 1)]) w_2 fun sr w_3 =>
  mSlice sr fun v7 v_n3 v_c3 =>
  glacierref2_Disk_List_b0 d8 prefixes8 prefixes_n8 prefixes_c8 v7 v_n3 v_c3 i6 K0 w_3) (
  glacierref2_Disk_List_b0 d8 prefixes8 prefixes_n8 prefixes_c8 out7 out_n7 out_c7 i6 K0 w)

def glacierref2_Disk_List_b2 (d7 : Option Addr) (prefixes7 : Option Addr) (prefixes_n7 : Nat) (prefixes_c7 : Nat) (out6 : Option Addr) (out_n6 : Nat) (out_c6 : Nat) (i5 : Int) (is2 : Bool) (k1 : Int) (K0 : ((Option Addr) × (Option Addr) × Nat × Nat × (Option Addr) × Nat × Nat × Int) → World → Prop) (K1 : ((Option Addr) × (Option Addr) × Nat × Nat × (Option Addr) × Nat × Nat × Int × Bool × Int) → World → Prop) (w : World) : Prop :=
  Br (decide (k1 < (prefixes_n7 : Int))) (
  LetW (World.drew w) fun w_ =>
  Br is2 (
  K1 (d7, prefixes7, prefixes_n7, prefixes_c7, out6, out_n6, out_c6, i5, true, IntKind.wrap .i64 (k1 + 1)) w_) (
  NN d7 fun p1 =>
  LDSl w_ (Addr.add p1 1) fun v1 v_n1 _ =>
  IX v1 v_n1 i5 3 fun a =>
  LDS w_ a fun v2 =>
  IX prefixes7 prefixes_n7 k1 1 fun a1 =>
  LDS w_ a1 fun v3 =>
  CallR Try.prog fn_glacierref2_begins #[(.string v2), (.string v3)] w_ fun res w_1 =>
  mBool res fun v4 =>
  K1 (d7, prefixes7, prefixes_n7, prefixes_c7, out6, out_n6, out_c6, i5, v4, IntKind.wrap .i64 (k1 + 1)) w_1)) (
  glacierref2_Disk_List_b1 d7 prefixes7 prefixes_n7 prefixes_c7 out6 out_n6 out_c6 i5 is2 K0 w)

def glacierref2_Disk_List_b3 (d6 : Option Addr) (prefixes6 : Option Addr) (prefixes_n6 : Nat) (prefixes_c6 : Nat) (out5 : Option Addr) (out_n5 : Nat) (out_c5 : Nat) (i4 : Int) (is1 : Bool) (k : Int) (K0 : ((Option Addr) × (Option Addr) × Nat × Nat × (Option Addr) × Nat × Nat × Int) → World → Prop) (w : World) : Prop :=
  LoopS (σ := (Option Addr) × (Option Addr) × Nat × Nat × (Option Addr) × Nat × Nat × Int × Bool × Int) (fun s w K1 =>
  glacierref2_Disk_List_b2 s.1 s.2.1 s.2.2.1 s.2.2.2.1 s.2.2.2.2.1 s.2.2.2.2.2.1 s.2.2.2.2.2.2.1 s.2.2.2.2.2.2.2.1 s.2.2.2.2.2.2.2.2.1 s.2.2.2.2.2.2.2.2.2 K0 K1 w) (d6, prefixes6, prefixes_n6, prefixes_c6, out5, out_n5, out_c5, i4, is1, k) w

def glacierref2_Disk_List_b4 (d5 : Option Addr) (prefixes5 : Option Addr) (prefixes_n5 : Nat) (prefixes_c5 : Nat) (out4 : Option Addr) (out_n4 : Nat) (out_c4 : Nat) (i3 : Int) (is : Bool) (K0 : ((Option Addr) × (Option Addr) × Nat × Nat × (Option Addr) × Nat × Nat × Int) → World → Prop) (w : World) : Prop :=
  glacierref2_Disk_List_b3 d5 prefixes5 prefixes_n5 prefixes_c5 out4 out_n4 out_c4 i3 is 0 K0 w

def glacierref2_Disk_List_b5 (d4 : Option Addr) (prefixes4 : Option Addr) (prefixes_n4 : Nat) (prefixes_c4 : Nat) (out3 : Option Addr) (out_n3 : Nat) (out_c3 : Nat) (i2 : Int) (K0 : ((Option Addr) × (Option Addr) × Nat × Nat × (Option Addr) × Nat × Nat × Int) → World → Prop) (w : World) : Prop :=
  glacierref2_Disk_List_b4 d4 prefixes4 prefixes_n4 prefixes_c4 out3 out_n3 out_c3 i2 ((prefixes_n4 : Int) == 0) K0 w

def glacierref2_Disk_List_b6 (out9 : Option Addr) (out_n9 : Nat) (out_c9 : Nat) (R : Value → World → Prop) (w : World) : Prop :=
  R (.slice out9 out_n9 out_c9) w

def glacierref2_Disk_List_b7 (d3 : Option Addr) (prefixes3 : Option Addr) (prefixes_n3 : Nat) (prefixes_c3 : Nat) (out2 : Option Addr) (out_n2 : Nat) (out_c2 : Nat) (i1 : Int) (K0 : ((Option Addr) × (Option Addr) × Nat × Nat × (Option Addr) × Nat × Nat × Int) → World → Prop) (R : Value → World → Prop) (w : World) : Prop :=
  NN d3 fun p =>
  LDSl w (Addr.add p 1) fun _ v_n _ =>
  Br (decide (i1 < (v_n : Int))) (
  glacierref2_Disk_List_b5 d3 prefixes3 prefixes_n3 prefixes_c3 out2 out_n2 out_c2 i1 K0 w) (
  glacierref2_Disk_List_b6 out2 out_n2 out_c2 R w)

def glacierref2_Disk_List_b8 (d2 : Option Addr) (prefixes2 : Option Addr) (prefixes_n2 : Nat) (prefixes_c2 : Nat) (out1 : Option Addr) (out_n1 : Nat) (out_c1 : Nat) (i : Int) (R : Value → World → Prop) (w : World) : Prop :=
  LoopS (σ := (Option Addr) × (Option Addr) × Nat × Nat × (Option Addr) × Nat × Nat × Int) (fun s w K0 =>
  glacierref2_Disk_List_b7 s.1 s.2.1 s.2.2.1 s.2.2.2.1 s.2.2.2.2.1 s.2.2.2.2.2.1 s.2.2.2.2.2.2.1 s.2.2.2.2.2.2.2 K0 R w) (d2, prefixes2, prefixes_n2, prefixes_c2, out1, out_n1, out_c1, i) w

def glacierref2_Disk_List_b9 (d1 : Option Addr) (prefixes1 : Option Addr) (prefixes_n1 : Nat) (prefixes_c1 : Nat) (out : Option Addr) (out_n : Nat) (out_c : Nat) (R : Value → World → Prop) (w : World) : Prop :=
  glacierref2_Disk_List_b8 d1 prefixes1 prefixes_n1 prefixes_c1 out out_n out_c 0 R w

def glacierref2_Disk_List_b10 (d : Option Addr) (prefixes : Option Addr) (prefixes_n : Nat) (prefixes_c : Nat) (R : Value → World → Prop) (w : World) : Prop :=
  glacierref2_Disk_List_b9 d prefixes prefixes_n prefixes_c none 0 0 R w

def glacierref2_Disk_List_p0 : Point ((Option Addr) × (Option Addr) × Nat × Nat × (Option Addr) × Nat × Nat) := { slots := fun s => [(0, (.pointer s.1)), (1, (.slice s.2.1 s.2.2.1 s.2.2.2.1)), (5, (.slice s.2.2.2.2.1 s.2.2.2.2.2.1 s.2.2.2.2.2.2))], dec := fun r K => mPtr (r 0) fun x => mSlice (r 1) fun x1 x2 x3 => mSlice (r 5) fun x4 x5 x6 => K (x, x1, x2, x3, x4, x5, x6) }
theorem glacierref2_Disk_List_p0_ok : glacierref2_Disk_List_p0.ok := by
  intro r K h
  unfold glacierref2_Disk_List_p0 at h
  obtain ⟨x, e0, h⟩ := mPtr_elim h
  obtain ⟨x1, x2, x3, e1, h⟩ := mSlice_elim h
  obtain ⟨x4, x5, x6, e2, h⟩ := mSlice_elim h
  exact ⟨(x, x1, x2, x3, x4, x5, x6), regsOf_self (L := [(0, (.pointer x)), (1, (.slice x1 x2 x3)), (5, (.slice x4 x5 x6))]) (List.forall_mem_cons.2 ⟨e0, List.forall_mem_cons.2 ⟨e1, List.forall_mem_cons.2 ⟨e2, List.forall_mem_nil _⟩⟩⟩), h⟩
theorem glacierref2_Disk_List_p0_re (s : (Option Addr) × (Option Addr) × Nat × Nat × (Option Addr) × Nat × Nat) (r : Regs) (K : ((Option Addr) × (Option Addr) × Nat × Nat × (Option Addr) × Nat × Nat) → Prop) (h : K s) : glacierref2_Disk_List_p0.dec (regsOf (glacierref2_Disk_List_p0.slots s) r) K := by
  obtain ⟨x7, x8, x9, x10, x11, x12, x13⟩ := s
  exact cast (show K (x7, x8, x9, x10, x11, x12, x13) = glacierref2_Disk_List_p0.dec (regsOf (glacierref2_Disk_List_p0.slots (x7, x8, x9, x10, x11, x12, x13)) r) K by kernel_rfl) h

def glacierref2_Disk_List_p1 : Point ((Option Addr) × Nat × Nat) := { slots := fun s => [(5, (.slice s.1 s.2.1 s.2.2))], dec := fun r K => mSlice (r 5) fun x x1 x2 => K (x, x1, x2) }
theorem glacierref2_Disk_List_p1_ok : glacierref2_Disk_List_p1.ok := by
  intro r K h
  unfold glacierref2_Disk_List_p1 at h
  obtain ⟨x, x1, x2, e0, h⟩ := mSlice_elim h
  exact ⟨(x, x1, x2), regsOf_self (L := [(5, (.slice x x1 x2))]) (List.forall_mem_cons.2 ⟨e0, List.forall_mem_nil _⟩), h⟩
theorem glacierref2_Disk_List_p1_re (s : (Option Addr) × Nat × Nat) (r : Regs) (K : ((Option Addr) × Nat × Nat) → Prop) (h : K s) : glacierref2_Disk_List_p1.dec (regsOf (glacierref2_Disk_List_p1.slots s) r) K := by
  obtain ⟨x3, x4, x5⟩ := s
  exact cast (show K (x3, x4, x5) = glacierref2_Disk_List_p1.dec (regsOf (glacierref2_Disk_List_p1.slots (x3, x4, x5)) r) K by kernel_rfl) h

def glacierref2_Disk_List_p2 : Point ((Option Addr) × (Option Addr) × Nat × Nat × (Option Addr) × Nat × Nat × Int) := { slots := fun s => [(0, (.pointer s.1)), (1, (.slice s.2.1 s.2.2.1 s.2.2.2.1)), (5, (.slice s.2.2.2.2.1 s.2.2.2.2.2.1 s.2.2.2.2.2.2.1)), (6, (.int .i64 s.2.2.2.2.2.2.2))], dec := fun r K => mPtr (r 0) fun x => mSlice (r 1) fun x1 x2 x3 => mSlice (r 5) fun x4 x5 x6 => mInt .i64 (r 6) fun x7 => K (x, x1, x2, x3, x4, x5, x6, x7) }
theorem glacierref2_Disk_List_p2_ok : glacierref2_Disk_List_p2.ok := by
  intro r K h
  unfold glacierref2_Disk_List_p2 at h
  obtain ⟨x, e0, h⟩ := mPtr_elim h
  obtain ⟨x1, x2, x3, e1, h⟩ := mSlice_elim h
  obtain ⟨x4, x5, x6, e2, h⟩ := mSlice_elim h
  obtain ⟨x7, e3, h⟩ := mInt_elim h
  exact ⟨(x, x1, x2, x3, x4, x5, x6, x7), regsOf_self (L := [(0, (.pointer x)), (1, (.slice x1 x2 x3)), (5, (.slice x4 x5 x6)), (6, (.int .i64 x7))]) (List.forall_mem_cons.2 ⟨e0, List.forall_mem_cons.2 ⟨e1, List.forall_mem_cons.2 ⟨e2, List.forall_mem_cons.2 ⟨e3, List.forall_mem_nil _⟩⟩⟩⟩), h⟩
theorem glacierref2_Disk_List_p2_re (s : (Option Addr) × (Option Addr) × Nat × Nat × (Option Addr) × Nat × Nat × Int) (r : Regs) (K : ((Option Addr) × (Option Addr) × Nat × Nat × (Option Addr) × Nat × Nat × Int) → Prop) (h : K s) : glacierref2_Disk_List_p2.dec (regsOf (glacierref2_Disk_List_p2.slots s) r) K := by
  obtain ⟨x8, x9, x10, x11, x12, x13, x14, x15⟩ := s
  exact cast (show K (x8, x9, x10, x11, x12, x13, x14, x15) = glacierref2_Disk_List_p2.dec (regsOf (glacierref2_Disk_List_p2.slots (x8, x9, x10, x11, x12, x13, x14, x15)) r) K by kernel_rfl) h

def glacierref2_Disk_List_p3 : Point ((Option Addr) × (Option Addr) × Nat × Nat × (Option Addr) × Nat × Nat × Int) := { slots := fun s => [(0, (.pointer s.1)), (1, (.slice s.2.1 s.2.2.1 s.2.2.2.1)), (5, (.slice s.2.2.2.2.1 s.2.2.2.2.2.1 s.2.2.2.2.2.2.1)), (6, (.int .i64 s.2.2.2.2.2.2.2))], dec := fun r K => mPtr (r 0) fun x => mSlice (r 1) fun x1 x2 x3 => mSlice (r 5) fun x4 x5 x6 => mInt .i64 (r 6) fun x7 => K (x, x1, x2, x3, x4, x5, x6, x7) }
theorem glacierref2_Disk_List_p3_ok : glacierref2_Disk_List_p3.ok := by
  intro r K h
  unfold glacierref2_Disk_List_p3 at h
  obtain ⟨x, e0, h⟩ := mPtr_elim h
  obtain ⟨x1, x2, x3, e1, h⟩ := mSlice_elim h
  obtain ⟨x4, x5, x6, e2, h⟩ := mSlice_elim h
  obtain ⟨x7, e3, h⟩ := mInt_elim h
  exact ⟨(x, x1, x2, x3, x4, x5, x6, x7), regsOf_self (L := [(0, (.pointer x)), (1, (.slice x1 x2 x3)), (5, (.slice x4 x5 x6)), (6, (.int .i64 x7))]) (List.forall_mem_cons.2 ⟨e0, List.forall_mem_cons.2 ⟨e1, List.forall_mem_cons.2 ⟨e2, List.forall_mem_cons.2 ⟨e3, List.forall_mem_nil _⟩⟩⟩⟩), h⟩
theorem glacierref2_Disk_List_p3_re (s : (Option Addr) × (Option Addr) × Nat × Nat × (Option Addr) × Nat × Nat × Int) (r : Regs) (K : ((Option Addr) × (Option Addr) × Nat × Nat × (Option Addr) × Nat × Nat × Int) → Prop) (h : K s) : glacierref2_Disk_List_p3.dec (regsOf (glacierref2_Disk_List_p3.slots s) r) K := by
  obtain ⟨x8, x9, x10, x11, x12, x13, x14, x15⟩ := s
  exact cast (show K (x8, x9, x10, x11, x12, x13, x14, x15) = glacierref2_Disk_List_p3.dec (regsOf (glacierref2_Disk_List_p3.slots (x8, x9, x10, x11, x12, x13, x14, x15)) r) K by kernel_rfl) h

def glacierref2_Disk_List_p4 : Point ((Option Addr) × (Option Addr) × Nat × Nat × (Option Addr) × Nat × Nat × Int) := { slots := fun s => [(0, (.pointer s.1)), (1, (.slice s.2.1 s.2.2.1 s.2.2.2.1)), (5, (.slice s.2.2.2.2.1 s.2.2.2.2.2.1 s.2.2.2.2.2.2.1)), (6, (.int .i64 s.2.2.2.2.2.2.2))], dec := fun r K => mPtr (r 0) fun x => mSlice (r 1) fun x1 x2 x3 => mSlice (r 5) fun x4 x5 x6 => mInt .i64 (r 6) fun x7 => K (x, x1, x2, x3, x4, x5, x6, x7) }
theorem glacierref2_Disk_List_p4_ok : glacierref2_Disk_List_p4.ok := by
  intro r K h
  unfold glacierref2_Disk_List_p4 at h
  obtain ⟨x, e0, h⟩ := mPtr_elim h
  obtain ⟨x1, x2, x3, e1, h⟩ := mSlice_elim h
  obtain ⟨x4, x5, x6, e2, h⟩ := mSlice_elim h
  obtain ⟨x7, e3, h⟩ := mInt_elim h
  exact ⟨(x, x1, x2, x3, x4, x5, x6, x7), regsOf_self (L := [(0, (.pointer x)), (1, (.slice x1 x2 x3)), (5, (.slice x4 x5 x6)), (6, (.int .i64 x7))]) (List.forall_mem_cons.2 ⟨e0, List.forall_mem_cons.2 ⟨e1, List.forall_mem_cons.2 ⟨e2, List.forall_mem_cons.2 ⟨e3, List.forall_mem_nil _⟩⟩⟩⟩), h⟩
theorem glacierref2_Disk_List_p4_re (s : (Option Addr) × (Option Addr) × Nat × Nat × (Option Addr) × Nat × Nat × Int) (r : Regs) (K : ((Option Addr) × (Option Addr) × Nat × Nat × (Option Addr) × Nat × Nat × Int) → Prop) (h : K s) : glacierref2_Disk_List_p4.dec (regsOf (glacierref2_Disk_List_p4.slots s) r) K := by
  obtain ⟨x8, x9, x10, x11, x12, x13, x14, x15⟩ := s
  exact cast (show K (x8, x9, x10, x11, x12, x13, x14, x15) = glacierref2_Disk_List_p4.dec (regsOf (glacierref2_Disk_List_p4.slots (x8, x9, x10, x11, x12, x13, x14, x15)) r) K by kernel_rfl) h

def glacierref2_Disk_List_p5 : Point ((Option Addr) × (Option Addr) × Nat × Nat × (Option Addr) × Nat × Nat × Int × Bool) := { slots := fun s => [(0, (.pointer s.1)), (1, (.slice s.2.1 s.2.2.1 s.2.2.2.1)), (5, (.slice s.2.2.2.2.1 s.2.2.2.2.2.1 s.2.2.2.2.2.2.1)), (6, (.int .i64 s.2.2.2.2.2.2.2.1)), (7, (.bool s.2.2.2.2.2.2.2.2))], dec := fun r K => mPtr (r 0) fun x => mSlice (r 1) fun x1 x2 x3 => mSlice (r 5) fun x4 x5 x6 => mInt .i64 (r 6) fun x7 => mBool (r 7) fun x8 => K (x, x1, x2, x3, x4, x5, x6, x7, x8) }
theorem glacierref2_Disk_List_p5_ok : glacierref2_Disk_List_p5.ok := by
  intro r K h
  unfold glacierref2_Disk_List_p5 at h
  obtain ⟨x, e0, h⟩ := mPtr_elim h
  obtain ⟨x1, x2, x3, e1, h⟩ := mSlice_elim h
  obtain ⟨x4, x5, x6, e2, h⟩ := mSlice_elim h
  obtain ⟨x7, e3, h⟩ := mInt_elim h
  obtain ⟨x8, e4, h⟩ := mBool_elim h
  exact ⟨(x, x1, x2, x3, x4, x5, x6, x7, x8), regsOf_self (L := [(0, (.pointer x)), (1, (.slice x1 x2 x3)), (5, (.slice x4 x5 x6)), (6, (.int .i64 x7)), (7, (.bool x8))]) (List.forall_mem_cons.2 ⟨e0, List.forall_mem_cons.2 ⟨e1, List.forall_mem_cons.2 ⟨e2, List.forall_mem_cons.2 ⟨e3, List.forall_mem_cons.2 ⟨e4, List.forall_mem_nil _⟩⟩⟩⟩⟩), h⟩
theorem glacierref2_Disk_List_p5_re (s : (Option Addr) × (Option Addr) × Nat × Nat × (Option Addr) × Nat × Nat × Int × Bool) (r : Regs) (K : ((Option Addr) × (Option Addr) × Nat × Nat × (Option Addr) × Nat × Nat × Int × Bool) → Prop) (h : K s) : glacierref2_Disk_List_p5.dec (regsOf (glacierref2_Disk_List_p5.slots s) r) K := by
  obtain ⟨x9, x10, x11, x12, x13, x14, x15, x16, x17⟩ := s
  exact cast (show K (x9, x10, x11, x12, x13, x14, x15, x16, x17) = glacierref2_Disk_List_p5.dec (regsOf (glacierref2_Disk_List_p5.slots (x9, x10, x11, x12, x13, x14, x15, x16, x17)) r) K by kernel_rfl) h

def glacierref2_Disk_List_p6 : Point ((Option Addr) × (Option Addr) × Nat × Nat × (Option Addr) × Nat × Nat × Int × Bool) := { slots := fun s => [(0, (.pointer s.1)), (1, (.slice s.2.1 s.2.2.1 s.2.2.2.1)), (5, (.slice s.2.2.2.2.1 s.2.2.2.2.2.1 s.2.2.2.2.2.2.1)), (6, (.int .i64 s.2.2.2.2.2.2.2.1)), (7, (.bool s.2.2.2.2.2.2.2.2))], dec := fun r K => mPtr (r 0) fun x => mSlice (r 1) fun x1 x2 x3 => mSlice (r 5) fun x4 x5 x6 => mInt .i64 (r 6) fun x7 => mBool (r 7) fun x8 => K (x, x1, x2, x3, x4, x5, x6, x7, x8) }
theorem glacierref2_Disk_List_p6_ok : glacierref2_Disk_List_p6.ok := by
  intro r K h
  unfold glacierref2_Disk_List_p6 at h
  obtain ⟨x, e0, h⟩ := mPtr_elim h
  obtain ⟨x1, x2, x3, e1, h⟩ := mSlice_elim h
  obtain ⟨x4, x5, x6, e2, h⟩ := mSlice_elim h
  obtain ⟨x7, e3, h⟩ := mInt_elim h
  obtain ⟨x8, e4, h⟩ := mBool_elim h
  exact ⟨(x, x1, x2, x3, x4, x5, x6, x7, x8), regsOf_self (L := [(0, (.pointer x)), (1, (.slice x1 x2 x3)), (5, (.slice x4 x5 x6)), (6, (.int .i64 x7)), (7, (.bool x8))]) (List.forall_mem_cons.2 ⟨e0, List.forall_mem_cons.2 ⟨e1, List.forall_mem_cons.2 ⟨e2, List.forall_mem_cons.2 ⟨e3, List.forall_mem_cons.2 ⟨e4, List.forall_mem_nil _⟩⟩⟩⟩⟩), h⟩
theorem glacierref2_Disk_List_p6_re (s : (Option Addr) × (Option Addr) × Nat × Nat × (Option Addr) × Nat × Nat × Int × Bool) (r : Regs) (K : ((Option Addr) × (Option Addr) × Nat × Nat × (Option Addr) × Nat × Nat × Int × Bool) → Prop) (h : K s) : glacierref2_Disk_List_p6.dec (regsOf (glacierref2_Disk_List_p6.slots s) r) K := by
  obtain ⟨x9, x10, x11, x12, x13, x14, x15, x16, x17⟩ := s
  exact cast (show K (x9, x10, x11, x12, x13, x14, x15, x16, x17) = glacierref2_Disk_List_p6.dec (regsOf (glacierref2_Disk_List_p6.slots (x9, x10, x11, x12, x13, x14, x15, x16, x17)) r) K by kernel_rfl) h

def glacierref2_Disk_List_p7 : Point ((Option Addr) × (Option Addr) × Nat × Nat × (Option Addr) × Nat × Nat × Int × Bool × Int) := { slots := fun s => [(0, (.pointer s.1)), (1, (.slice s.2.1 s.2.2.1 s.2.2.2.1)), (5, (.slice s.2.2.2.2.1 s.2.2.2.2.2.1 s.2.2.2.2.2.2.1)), (6, (.int .i64 s.2.2.2.2.2.2.2.1)), (7, (.bool s.2.2.2.2.2.2.2.2.1)), (8, (.int .i64 s.2.2.2.2.2.2.2.2.2))], dec := fun r K => mPtr (r 0) fun x => mSlice (r 1) fun x1 x2 x3 => mSlice (r 5) fun x4 x5 x6 => mInt .i64 (r 6) fun x7 => mBool (r 7) fun x8 => mInt .i64 (r 8) fun x9 => K (x, x1, x2, x3, x4, x5, x6, x7, x8, x9) }
theorem glacierref2_Disk_List_p7_ok : glacierref2_Disk_List_p7.ok := by
  intro r K h
  unfold glacierref2_Disk_List_p7 at h
  obtain ⟨x, e0, h⟩ := mPtr_elim h
  obtain ⟨x1, x2, x3, e1, h⟩ := mSlice_elim h
  obtain ⟨x4, x5, x6, e2, h⟩ := mSlice_elim h
  obtain ⟨x7, e3, h⟩ := mInt_elim h
  obtain ⟨x8, e4, h⟩ := mBool_elim h
  obtain ⟨x9, e5, h⟩ := mInt_elim h
  exact ⟨(x, x1, x2, x3, x4, x5, x6, x7, x8, x9), regsOf_self (L := [(0, (.pointer x)), (1, (.slice x1 x2 x3)), (5, (.slice x4 x5 x6)), (6, (.int .i64 x7)), (7, (.bool x8)), (8, (.int .i64 x9))]) (List.forall_mem_cons.2 ⟨e0, List.forall_mem_cons.2 ⟨e1, List.forall_mem_cons.2 ⟨e2, List.forall_mem_cons.2 ⟨e3, List.forall_mem_cons.2 ⟨e4, List.forall_mem_cons.2 ⟨e5, List.forall_mem_nil _⟩⟩⟩⟩⟩⟩), h⟩
theorem glacierref2_Disk_List_p7_re (s : (Option Addr) × (Option Addr) × Nat × Nat × (Option Addr) × Nat × Nat × Int × Bool × Int) (r : Regs) (K : ((Option Addr) × (Option Addr) × Nat × Nat × (Option Addr) × Nat × Nat × Int × Bool × Int) → Prop) (h : K s) : glacierref2_Disk_List_p7.dec (regsOf (glacierref2_Disk_List_p7.slots s) r) K := by
  obtain ⟨x10, x11, x12, x13, x14, x15, x16, x17, x18, x19⟩ := s
  exact cast (show K (x10, x11, x12, x13, x14, x15, x16, x17, x18, x19) = glacierref2_Disk_List_p7.dec (regsOf (glacierref2_Disk_List_p7.slots (x10, x11, x12, x13, x14, x15, x16, x17, x18, x19)) r) K by kernel_rfl) h

theorem glacierref2_Disk_List_sound (d : Option Addr) (prefixes : Option Addr) (prefixes_n : Nat) (prefixes_c : Nat) (R : Value → World → Prop) (w : World) (h : glacierref2_Disk_List_b10 d prefixes prefixes_n prefixes_c R w) :
    CallR Try.prog fn_glacierref2_Disk_List #[(.pointer d), (.slice prefixes prefixes_n prefixes_c)] w R := by
  refine CallR_intro (args := [(.pointer d), (.slice prefixes prefixes_n prefixes_c)]) Try.func28 rfl (Nat.le_of_ble_eq_true (by kernel_rfl)) ?_
  refine Wp_glue glacierref2_Disk_List_p0 (fun s w => glacierref2_Disk_List_b9 s.1 s.2.1 s.2.2.1 s.2.2.2.1 s.2.2.2.2.1 s.2.2.2.2.2.1 s.2.2.2.2.2.2 R w) [_, _] (Q0 := fun e _ r w => match e with | .normal => glacierref2_Disk_List_p0.dec r (fun s => glacierref2_Disk_List_b9 s.1 s.2.1 s.2.2.1 s.2.2.2.1 s.2.2.2.2.1 s.2.2.2.2.2.1 s.2.2.2.2.2.2 R w) | .exit _ => False | .ret => retQ Try.prog Try.f28.results R .ret [] r w | _ => False) h (by kernel_rfl) (fun s r w h => ?_) glacierref2_Disk_List_p0_ok (fun _ _ _ h => h) ?_
  · obtain ⟨d1, prefixes1, prefixes_n1, prefixes_c1, out, out_n, out_c⟩ := s
    have h : glacierref2_Disk_List_b9 d1 prefixes1 prefixes_n1 prefixes_c1 out out_n out_c R w := h
    refine Wp_seq_via glacierref2_Disk_List_p1 (fun s w => glacierref2_Disk_List_b6 s.1 s.2.1 s.2.2 R w) (fun s r w h => ?_) (fun hN1 => ?_)
    · obtain ⟨out9, out_n9, out_c9⟩ := s
      have h : glacierref2_Disk_List_b6 out9 out_n9 out_c9 R w := h
      refine Wp_leaf_end (Q0 := fun e _ r w => match e with | .normal => retQ Try.prog Try.f28.results R .normal [] r w | .exit _ => False | .ret => retQ Try.prog Try.f28.results R .ret [] r w | _ => False) h (by kernel_rfl) ?_
      intro e _ r w h
      cases e with
      | normal => exact h
      | exit i => exact h.elim
      | ret => exact h
      | goto i => exact h.elim
      | panic c => exact h.elim
      | outgrown => exact h.elim
    · refine Wp_glue glacierref2_Disk_List_p2 (fun s w => glacierref2_Disk_List_b8 s.1 s.2.1 s.2.2.1 s.2.2.2.1 s.2.2.2.2.1 s.2.2.2.2.2.1 s.2.2.2.2.2.2.1 s.2.2.2.2.2.2.2 R w) [_] (Q0 := fun e _ r w => match e with | .normal => glacierref2_Disk_List_p2.dec r (fun s => glacierref2_Disk_List_b8 s.1 s.2.1 s.2.2.1 s.2.2.2.1 s.2.2.2.2.1 s.2.2.2.2.2.1 s.2.2.2.2.2.2.1 s.2.2.2.2.2.2.2 R w) | .exit _ => False | .ret => retQ Try.prog Try.f28.results R .ret [] r w | _ => False) h (by kernel_rfl) (fun s r w h => ?_) glacierref2_Disk_List_p2_ok (fun _ _ _ h => h) ?_
      · obtain ⟨d2, prefixes2, prefixes_n2, prefixes_c2, out1, out_n1, out_c1, i⟩ := s
        have h : glacierref2_Disk_List_b8 d2 prefixes2 prefixes_n2 prefixes_c2 out1 out_n1 out_c1 i R w := h
        refine Wp_block_via glacierref2_Disk_List_p1 (fun s w => glacierref2_Disk_List_b6 s.1 s.2.1 s.2.2 R w) hN1 (fun hX2 => ?_)
        refine Wp_loop (p := glacierref2_Disk_List_p2) glacierref2_Disk_List_p2_ok (fun s r w K0 h => ?_) h
        obtain ⟨d3, prefixes3, prefixes_n3, prefixes_c3, out2, out_n2, out_c2, i1⟩ := s
        have h : glacierref2_Disk_List_b7 d3 prefixes3 prefixes_n3 prefixes_c3 out2 out_n2 out_c2 i1 K0 R w := h
        have hK3 := fun (s : (Option Addr) × (Option Addr) × Nat × Nat × (Option Addr) × Nat × Nat × Int) (r : Regs) (w : World) (h : K0 s w) => glacierref2_Disk_List_p2_re s r (fun s => K0 s w) h
        refine Wp_glue glacierref2_Disk_List_p3 (fun s w => glacierref2_Disk_List_b5 s.1 s.2.1 s.2.2.1 s.2.2.2.1 s.2.2.2.2.1 s.2.2.2.2.2.1 s.2.2.2.2.2.2.1 s.2.2.2.2.2.2.2 K0 w) [_] (Q0 := fun e _ r w => match e with | .normal => glacierref2_Disk_List_p3.dec r (fun s => glacierref2_Disk_List_b5 s.1 s.2.1 s.2.2.1 s.2.2.2.1 s.2.2.2.2.1 s.2.2.2.2.2.1 s.2.2.2.2.2.2.1 s.2.2.2.2.2.2.2 K0 w) | .exit i => exitQ i 0 (glacierref2_Disk_List_p1.dec r (fun s => glacierref2_Disk_List_b6 s.1 s.2.1 s.2.2 R w)) (False) | .ret => retQ Try.prog Try.f28.results R .ret [] r w | _ => False) h (by kernel_rfl) (fun s r w h => ?_) glacierref2_Disk_List_p3_ok (fun _ _ _ h => h) ?_
        · obtain ⟨d4, prefixes4, prefixes_n4, prefixes_c4, out3, out_n3, out_c3, i2⟩ := s
          have h : glacierref2_Disk_List_b5 d4 prefixes4 prefixes_n4 prefixes_c4 out3 out_n3 out_c3 i2 K0 w := h
          refine Wp_seq_via glacierref2_Disk_List_p4 (fun s w => glacierref2_Disk_List_b0 s.1 s.2.1 s.2.2.1 s.2.2.2.1 s.2.2.2.2.1 s.2.2.2.2.2.1 s.2.2.2.2.2.2.1 s.2.2.2.2.2.2.2 K0 w) (fun s r w h => ?_) (fun hN4 => ?_)
          · obtain ⟨d9, prefixes9, prefixes_n9, prefixes_c9, out8, out_n8, out_c8, i7⟩ := s
            have h : glacierref2_Disk_List_b0 d9 prefixes9 prefixes_n9 prefixes_c9 out8 out_n8 out_c8 i7 K0 w := h
            refine Wp_leaf_end (Q0 := fun e _ r w => match e with | .normal => glacierref2_Disk_List_p2.dec r (fun s => K0 s w) | .exit i => exitQ i 0 (glacierref2_Disk_List_p1.dec r (fun s => glacierref2_Disk_List_b6 s.1 s.2.1 s.2.2 R w)) (False) | .ret => retQ Try.prog Try.f28.results R .ret [] r w | _ => False) h (by kernel_rfl) ?_
            intro e _ r w h
            cases e with
            | normal =>
              obtain ⟨s, hs, h⟩ := glacierref2_Disk_List_p2_ok _ _ h
              rw [← hs]
              exact hK3 s r w h
            | exit i =>
              rcases exitQ_elim h with ⟨rfl, h⟩ | ⟨_, h⟩
              · obtain ⟨s, hs, h⟩ := glacierref2_Disk_List_p1_ok _ _ h
                rw [← hs]
                exact hX2 s r w h
              exact h.elim
            | ret => exact h
            | goto i => exact h.elim
            | panic c => exact h.elim
            | outgrown => exact h.elim
          · refine Wp_block_via glacierref2_Disk_List_p4 (fun s w => glacierref2_Disk_List_b0 s.1 s.2.1 s.2.2.1 s.2.2.2.1 s.2.2.2.2.1 s.2.2.2.2.2.1 s.2.2.2.2.2.2.1 s.2.2.2.2.2.2.2 K0 w) hN4 (fun hX5 => ?_)
            refine Wp_glue glacierref2_Disk_List_p5 (fun s w => glacierref2_Disk_List_b4 s.1 s.2.1 s.2.2.1 s.2.2.2.1 s.2.2.2.2.1 s.2.2.2.2.2.1 s.2.2.2.2.2.2.1 s.2.2.2.2.2.2.2.1 s.2.2.2.2.2.2.2.2 K0 w) [_] (Q0 := fun e _ r w => match e with | .normal => glacierref2_Disk_List_p5.dec r (fun s => glacierref2_Disk_List_b4 s.1 s.2.1 s.2.2.1 s.2.2.2.1 s.2.2.2.2.1 s.2.2.2.2.2.1 s.2.2.2.2.2.2.1 s.2.2.2.2.2.2.2.1 s.2.2.2.2.2.2.2.2 K0 w) | .exit i => exitQ i 0 (glacierref2_Disk_List_p1.dec r (fun s => glacierref2_Disk_List_b6 s.1 s.2.1 s.2.2 R w)) (exitQ i 1 (glacierref2_Disk_List_p4.dec r (fun s => glacierref2_Disk_List_b0 s.1 s.2.1 s.2.2.1 s.2.2.2.1 s.2.2.2.2.1 s.2.2.2.2.2.1 s.2.2.2.2.2.2.1 s.2.2.2.2.2.2.2 K0 w)) (False)) | .ret => retQ Try.prog Try.f28.results R .ret [] r w | _ => False) h (by kernel_rfl) (fun s r w h => ?_) glacierref2_Disk_List_p5_ok (fun _ _ _ h => h) ?_
            · obtain ⟨d5, prefixes5, prefixes_n5, prefixes_c5, out4, out_n4, out_c4, i3, is⟩ := s
              have h : glacierref2_Disk_List_b4 d5 prefixes5 prefixes_n5 prefixes_c5 out4 out_n4 out_c4 i3 is K0 w := h
              refine Wp_seq_via glacierref2_Disk_List_p6 (fun s w => glacierref2_Disk_List_b1 s.1 s.2.1 s.2.2.1 s.2.2.2.1 s.2.2.2.2.1 s.2.2.2.2.2.1 s.2.2.2.2.2.2.1 s.2.2.2.2.2.2.2.1 s.2.2.2.2.2.2.2.2 K0 w) (fun s r w h => ?_) (fun hN6 => ?_)
              · obtain ⟨d8, prefixes8, prefixes_n8, prefixes_c8, out7, out_n7, out_c7, i6, is3⟩ := s
                have h : glacierref2_Disk_List_b1 d8 prefixes8 prefixes_n8 prefixes_c8 out7 out_n7 out_c7 i6 is3 K0 w := h
                refine Wp_leaf_end (Q0 := fun e _ r w => match e with | .normal => glacierref2_Disk_List_p4.dec r (fun s => glacierref2_Disk_List_b0 s.1 s.2.1 s.2.2.1 s.2.2.2.1 s.2.2.2.2.1 s.2.2.2.2.2.1 s.2.2.2.2.2.2.1 s.2.2.2.2.2.2.2 K0 w) | .exit i => exitQ i 0 (glacierref2_Disk_List_p1.dec r (fun s => glacierref2_Disk_List_b6 s.1 s.2.1 s.2.2 R w)) (exitQ i 1 (glacierref2_Disk_List_p4.dec r (fun s => glacierref2_Disk_List_b0 s.1 s.2.1 s.2.2.1 s.2.2.2.1 s.2.2.2.2.1 s.2.2.2.2.2.1 s.2.2.2.2.2.2.1 s.2.2.2.2.2.2.2 K0 w)) (False)) | .ret => retQ Try.prog Try.f28.results R .ret [] r w | _ => False) h (by kernel_rfl) ?_
                intro e _ r w h
                cases e with
                | normal =>
                  obtain ⟨s, hs, h⟩ := glacierref2_Disk_List_p4_ok _ _ h
                  rw [← hs]
                  exact hN4 s r w h
                | exit i =>
                  rcases exitQ_elim h with ⟨rfl, h⟩ | ⟨_, h⟩
                  · obtain ⟨s, hs, h⟩ := glacierref2_Disk_List_p1_ok _ _ h
                    rw [← hs]
                    exact (fun s r w h => blockQ_other (id := 1) (j := 0) (by decide) (hX2 s r w h)) s r w h
                  rcases exitQ_elim h with ⟨rfl, h⟩ | ⟨_, h⟩
                  · obtain ⟨s, hs, h⟩ := glacierref2_Disk_List_p4_ok _ _ h
                    rw [← hs]
                    exact hX5 s r w h
                  exact h.elim
                | ret => exact h
                | goto i => exact h.elim
                | panic c => exact h.elim
                | outgrown => exact h.elim
              · refine Wp_glue glacierref2_Disk_List_p7 (fun s w => glacierref2_Disk_List_b3 s.1 s.2.1 s.2.2.1 s.2.2.2.1 s.2.2.2.2.1 s.2.2.2.2.2.1 s.2.2.2.2.2.2.1 s.2.2.2.2.2.2.2.1 s.2.2.2.2.2.2.2.2.1 s.2.2.2.2.2.2.2.2.2 K0 w) [_] (Q0 := fun e _ r w => match e with | .normal => glacierref2_Disk_List_p7.dec r (fun s => glacierref2_Disk_List_b3 s.1 s.2.1 s.2.2.1 s.2.2.2.1 s.2.2.2.2.1 s.2.2.2.2.2.1 s.2.2.2.2.2.2.1 s.2.2.2.2.2.2.2.1 s.2.2.2.2.2.2.2.2.1 s.2.2.2.2.2.2.2.2.2 K0 w) | .exit i => exitQ i 0 (glacierref2_Disk_List_p1.dec r (fun s => glacierref2_Disk_List_b6 s.1 s.2.1 s.2.2 R w)) (exitQ i 1 (glacierref2_Disk_List_p4.dec r (fun s => glacierref2_Disk_List_b0 s.1 s.2.1 s.2.2.1 s.2.2.2.1 s.2.2.2.2.1 s.2.2.2.2.2.1 s.2.2.2.2.2.2.1 s.2.2.2.2.2.2.2 K0 w)) (False)) | .ret => retQ Try.prog Try.f28.results R .ret [] r w | _ => False) h (by kernel_rfl) (fun s r w h => ?_) glacierref2_Disk_List_p7_ok (fun _ _ _ h => h) ?_
                · obtain ⟨d6, prefixes6, prefixes_n6, prefixes_c6, out5, out_n5, out_c5, i4, is1, k⟩ := s
                  have h : glacierref2_Disk_List_b3 d6 prefixes6 prefixes_n6 prefixes_c6 out5 out_n5 out_c5 i4 is1 k K0 w := h
                  refine Wp_block_via glacierref2_Disk_List_p6 (fun s w => glacierref2_Disk_List_b1 s.1 s.2.1 s.2.2.1 s.2.2.2.1 s.2.2.2.2.1 s.2.2.2.2.2.1 s.2.2.2.2.2.2.1 s.2.2.2.2.2.2.2.1 s.2.2.2.2.2.2.2.2 K0 w) hN6 (fun hX7 => ?_)
                  refine Wp_loop (p := glacierref2_Disk_List_p7) glacierref2_Disk_List_p7_ok (fun s r w K1 h => ?_) h
                  obtain ⟨d7, prefixes7, prefixes_n7, prefixes_c7, out6, out_n6, out_c6, i5, is2, k1⟩ := s
                  have h : glacierref2_Disk_List_b2 d7 prefixes7 prefixes_n7 prefixes_c7 out6 out_n6 out_c6 i5 is2 k1 K0 K1 w := h
                  have hK8 := fun (s : (Option Addr) × (Option Addr) × Nat × Nat × (Option Addr) × Nat × Nat × Int × Bool × Int) (r : Regs) (w : World) (h : K1 s w) => glacierref2_Disk_List_p7_re s r (fun s => K1 s w) h
                  refine Wp_leaf_end (Q0 := fun e _ r w => match e with | .normal => glacierref2_Disk_List_p7.dec r (fun s => K1 s w) | .exit i => exitQ i 0 (glacierref2_Disk_List_p1.dec r (fun s => glacierref2_Disk_List_b6 s.1 s.2.1 s.2.2 R w)) (exitQ i 1 (glacierref2_Disk_List_p4.dec r (fun s => glacierref2_Disk_List_b0 s.1 s.2.1 s.2.2.1 s.2.2.2.1 s.2.2.2.2.1 s.2.2.2.2.2.1 s.2.2.2.2.2.2.1 s.2.2.2.2.2.2.2 K0 w)) (exitQ i 2 (glacierref2_Disk_List_p6.dec r (fun s => glacierref2_Disk_List_b1 s.1 s.2.1 s.2.2.1 s.2.2.2.1 s.2.2.2.2.1 s.2.2.2.2.2.1 s.2.2.2.2.2.2.1 s.2.2.2.2.2.2.2.1 s.2.2.2.2.2.2.2.2 K0 w)) (False))) | .ret => retQ Try.prog Try.f28.results R .ret [] r w | _ => False) h (by kernel_rfl) ?_
                  intro e _ r w h
                  cases e with
                  | normal =>
                    obtain ⟨s, hs, h⟩ := glacierref2_Disk_List_p7_ok _ _ h
                    rw [← hs]
                    exact hK8 s r w h
                  | exit i =>
                    rcases exitQ_elim h with ⟨rfl, h⟩ | ⟨_, h⟩
                    · obtain ⟨s, hs, h⟩ := glacierref2_Disk_List_p1_ok _ _ h
                      rw [← hs]
                      exact (fun s r w h => blockQ_other (id := 2) (j := 0) (by decide) ((fun s r w h => blockQ_other (id := 1) (j := 0) (by decide) (hX2 s r w h)) s r w h)) s r w h
                    rcases exitQ_elim h with ⟨rfl, h⟩ | ⟨_, h⟩
                    · obtain ⟨s, hs, h⟩ := glacierref2_Disk_List_p4_ok _ _ h
                      rw [← hs]
                      exact (fun s r w h => blockQ_other (id := 2) (j := 1) (by decide) (hX5 s r w h)) s r w h
                    rcases exitQ_elim h with ⟨rfl, h⟩ | ⟨_, h⟩
                    · obtain ⟨s, hs, h⟩ := glacierref2_Disk_List_p6_ok _ _ h
                      rw [← hs]
                      exact hX7 s r w h
                    exact h.elim
                  | ret => exact h
                  | goto i => exact h.elim
                  | panic c => exact h.elim
                  | outgrown => exact h.elim
                · intro e _ r w hne h
                  cases e with
                  | normal => exact absurd rfl hne
                  | exit i =>
                    rcases exitQ_elim h with ⟨rfl, h⟩ | ⟨_, h⟩
                    · obtain ⟨s, hs, h⟩ := glacierref2_Disk_List_p1_ok _ _ h
                      rw [← hs]
                      exact (fun s r w h => blockQ_other (id := 1) (j := 0) (by decide) (hX2 s r w h)) s r w h
                    rcases exitQ_elim h with ⟨rfl, h⟩ | ⟨_, h⟩
                    · obtain ⟨s, hs, h⟩ := glacierref2_Disk_List_p4_ok _ _ h
                      rw [← hs]
                      exact hX5 s r w h
                    exact h.elim
                  | ret => exact h
                  | goto i => exact h.elim
                  | panic c => exact h.elim
                  | outgrown => exact h.elim
            · intro e _ r w hne h
              cases e with
              | normal => exact absurd rfl hne
              | exit i =>
                rcases exitQ_elim h with ⟨rfl, h⟩ | ⟨_, h⟩
                · obtain ⟨s, hs, h⟩ := glacierref2_Disk_List_p1_ok _ _ h
                  rw [← hs]
                  exact (fun s r w h => blockQ_other (id := 1) (j := 0) (by decide) (hX2 s r w h)) s r w h
                rcases exitQ_elim h with ⟨rfl, h⟩ | ⟨_, h⟩
                · obtain ⟨s, hs, h⟩ := glacierref2_Disk_List_p4_ok _ _ h
                  rw [← hs]
                  exact hX5 s r w h
                exact h.elim
              | ret => exact h
              | goto i => exact h.elim
              | panic c => exact h.elim
              | outgrown => exact h.elim
        · intro e _ r w hne h
          cases e with
          | normal => exact absurd rfl hne
          | exit i =>
            rcases exitQ_elim h with ⟨rfl, h⟩ | ⟨_, h⟩
            · obtain ⟨s, hs, h⟩ := glacierref2_Disk_List_p1_ok _ _ h
              rw [← hs]
              exact hX2 s r w h
            exact h.elim
          | ret => exact h
          | goto i => exact h.elim
          | panic c => exact h.elim
          | outgrown => exact h.elim
      · intro e _ r w hne h
        cases e with
        | normal => exact absurd rfl hne
        | exit i => exact h.elim
        | ret => exact h
        | goto i => exact h.elim
        | panic c => exact h.elim
        | outgrown => exact h.elim
  · intro e _ r w hne h
    cases e with
    | normal => exact absurd rfl hne
    | exit i => exact h.elim
    | ret => exact h
    | goto i => exact h.elim
    | panic c => exact h.elim
    | outgrown => exact h.elim

/- (*glacier/glacierref2.Disk).Crash -/
def glacierref2_Disk_Crash_b0 (d5 : Option Addr) (picks5 : Option Addr) (picks_n5 : Nat) (picks_c5 : Nat) (i4 : Int) (K0 : ((Option Addr) × (Option Addr) × Nat × Nat × Int) → World → Prop) (w : World) : Prop :=
  K0 (d5, picks5, picks_n5, picks_c5, IntKind.wrap .i64 (i4 + 1)) w

def glacierref2_Disk_Crash_b1 (d4 : Option Addr) (picks4 : Option Addr) (picks_n4 : Nat) (picks_c4 : Nat) (i3 : Int) (f1 : Addr) (keep : Int) (K0 : ((Option Addr) × (Option Addr) × Nat × Nat × Int) → World → Prop) (w : World) : Prop :=
  AL w (.cells #[] 5) fun b w_4 =>
  LDSl w_4 (Addr.add f1 1) fun v6 v_n3 v_c3 =>
  LDI .i64 w_4 (Addr.add f1 2) fun v7 =>
  rRun Try.prog (Instr.sliceAt 30 (.slice v6 v_n3 v_c3) none (some (.int .i64 (IntKind.wrap .i64 (v7 + keep)))) none) w_4 fun sr w_5 =>
  mSlice sr fun v8 v_n4 v_c4 =>
  rRun Try.prog (Builtin.append_ #[30, 30] 30 #[(.slice (some b) 0 0), (.slice v8 v_n4 v_c4)]) w_5 fun sr1 w_6 =>
  mSlice sr1 fun v9 v_n5 v_c5 =>
  ST w_6 (Addr.add f1 1) (.slice v9 v_n5 v_c5) fun w_7 =>
  LDSl w_7 (Addr.add f1 1) fun _ v_n6 _ =>
  ST w_7 (Addr.add f1 2) (.int .i64 (v_n6 : Int)) fun w_8 =>
  LetW (World.drew w_8) fun w_9 =>
  NN d4 fun p2 =>
  LDSl w_9 (Addr.add p2 1) fun v11 v_n7 _ =>
  LDS w_9 f1 fun Name1 =>
  LDSl w_9 (Addr.add f1 1) fun Bytes1 Bytes_n1 Bytes_c1 =>
  LDI .i64 w_9 (Addr.add f1 2) fun Synced1 =>
  IX v11 v_n7 i3 3 fun a3 =>
  ST w_9 a3 (.string Name1) fun w_10 =>
  ST w_10 (Addr.add a3 1) (.slice Bytes1 Bytes_n1 Bytes_c1) fun w_11 =>
  ST w_11 (Addr.add a3 2) (.int .i64 Synced1) fun w_12 =>
  glacierref2_Disk_Crash_b0 d4 picks4 picks_n4 picks_c4 i3 K0 w_12

def glacierref2_Disk_Crash_b2 (d3 : Option Addr) (picks3 : Option Addr) (picks_n3 : Nat) (picks_c3 : Nat) (i2 : Int) (K0 : ((Option Addr) × (Option Addr) × Nat × Nat × Int) → World → Prop) (w : World) : Prop :=
  NN d3 fun p1 =>
  LDSl w (Addr.add p1 1) fun v1 v_n1 _ =>
  IX v1 v_n1 i2 3 fun a =>
  LDS w a fun Name =>
  LDSl w (Addr.add a 1) fun Bytes Bytes_n Bytes_c =>
  LDI .i64 w (Addr.add a 2) fun Synced =>
  AL w (.cells #[(.string (ByteArray.mk #[])), (.slice none 0 0), (.int .i64 0)] 82) fun f w_ =>
  ST w_ f (.string Name) fun w_1 =>
  ST w_1 (Addr.add f 1) (.slice Bytes Bytes_n Bytes_c) fun w_2 =>
  ST w_2 (Addr.add f 2) (.int .i64 Synced) fun w_3 =>
  LDSl w_3 (Addr.add f 1) fun _ v_n2 _ =>
  LDI .i64 w_3 (Addr.add f 2) fun v3 =>
  Br (decide (i2 < (picks_n3 : Int))) (
  IX picks3 picks_n3 i2 1 fun a1 =>
  LDI .i64 w_3 a1 fun v4 =>
  Br (decide (v4 ≥ 0)) (
  IX picks3 picks_n3 i2 1 fun a2 =>
  LDI .i64 w_3 a2 fun v5 =>
  Req ((IntKind.wrap .i64 ((IntKind.wrap .i64 ((v_n2 : Int) - v3)) + 1)) ≠ 0) (
  glacierref2_Disk_Crash_b1 d3 picks3 picks_n3 picks_c3 i2 f (Int.tmod v5 (IntKind.wrap .i64 ((IntKind.wrap .i64 ((v_n2 : Int) - v3)) + 1))) K0 w_3)) (
  glacierref2_Disk_Crash_b1 d3 picks3 picks_n3 picks_c3 i2 f 0 K0 w_3)) (
  glacierref2_Disk_Crash_b1 d3 picks3 picks_n3 picks_c3 i2 f 0 K0 w_3)

def glacierref2_Disk_Crash_b3 (R : Value → World → Prop) (w : World) : Prop :=
  R (.tuple #[]) w

def glacierref2_Disk_Crash_b4 (d2 : Option Addr) (picks2 : Option Addr) (picks_n2 : Nat) (picks_c2 : Nat) (i1 : Int) (K0 : ((Option Addr) × (Option Addr) × Nat × Nat × Int) → World → Prop) (R : Value → World → Prop) (w : World) : Prop :=
  NN d2 fun p =>
  LDSl w (Addr.add p 1) fun _ v_n _ =>
  Br (decide (i1 < (v_n : Int))) (
  glacierref2_Disk_Crash_b2 d2 picks2 picks_n2 picks_c2 i1 K0 w) (
  glacierref2_Disk_Crash_b3 R w)

def glacierref2_Disk_Crash_b5 (d1 : Option Addr) (picks1 : Option Addr) (picks_n1 : Nat) (picks_c1 : Nat) (i : Int) (R : Value → World → Prop) (w : World) : Prop :=
  LoopS (σ := (Option Addr) × (Option Addr) × Nat × Nat × Int) (fun s w K0 =>
  glacierref2_Disk_Crash_b4 s.1 s.2.1 s.2.2.1 s.2.2.2.1 s.2.2.2.2 K0 R w) (d1, picks1, picks_n1, picks_c1, i) w

def glacierref2_Disk_Crash_b6 (d : Option Addr) (picks : Option Addr) (picks_n : Nat) (picks_c : Nat) (R : Value → World → Prop) (w : World) : Prop :=
  glacierref2_Disk_Crash_b5 d picks picks_n picks_c 0 R w

def glacierref2_Disk_Crash_p0 : Point ((Option Addr) × (Option Addr) × Nat × Nat × Int) := { slots := fun s => [(0, (.pointer s.1)), (1, (.slice s.2.1 s.2.2.1 s.2.2.2.1)), (4, (.int .i64 s.2.2.2.2))], dec := fun r K => mPtr (r 0) fun x => mSlice (r 1) fun x1 x2 x3 => mInt .i64 (r 4) fun x4 => K (x, x1, x2, x3, x4) }
theorem glacierref2_Disk_Crash_p0_ok : glacierref2_Disk_Crash_p0.ok := by
  intro r K h
  unfold glacierref2_Disk_Crash_p0 at h
  obtain ⟨x, e0, h⟩ := mPtr_elim h
  obtain ⟨x1, x2, x3, e1, h⟩ := mSlice_elim h
  obtain ⟨x4, e2, h⟩ := mInt_elim h
  exact ⟨(x, x1, x2, x3, x4), regsOf_self (L := [(0, (.pointer x)), (1, (.slice x1 x2 x3)), (4, (.int .i64 x4))]) (List.forall_mem_cons.2 ⟨e0, List.forall_mem_cons.2 ⟨e1, List.forall_mem_cons.2 ⟨e2, List.forall_mem_nil _⟩⟩⟩), h⟩
theorem glacierref2_Disk_Crash_p0_re (s : (Option Addr) × (Option Addr) × Nat × Nat × Int) (r : Regs) (K : ((Option Addr) × (Option Addr) × Nat × Nat × Int) → Prop) (h : K s) : glacierref2_Disk_Crash_p0.dec (regsOf (glacierref2_Disk_Crash_p0.slots s) r) K := by
  obtain ⟨x5, x6, x7, x8, x9⟩ := s
  exact cast (show K (x5, x6, x7, x8, x9) = glacierref2_Disk_Crash_p0.dec (regsOf (glacierref2_Disk_Crash_p0.slots (x5, x6, x7, x8, x9)) r) K by kernel_rfl) h

def glacierref2_Disk_Crash_p1 : Point ((Option Addr) × (Option Addr) × Nat × Nat × Int) := { slots := fun s => [(0, (.pointer s.1)), (1, (.slice s.2.1 s.2.2.1 s.2.2.2.1)), (4, (.int .i64 s.2.2.2.2))], dec := fun r K => mPtr (r 0) fun x => mSlice (r 1) fun x1 x2 x3 => mInt .i64 (r 4) fun x4 => K (x, x1, x2, x3, x4) }
theorem glacierref2_Disk_Crash_p1_ok : glacierref2_Disk_Crash_p1.ok := by
  intro r K h
  unfold glacierref2_Disk_Crash_p1 at h
  obtain ⟨x, e0, h⟩ := mPtr_elim h
  obtain ⟨x1, x2, x3, e1, h⟩ := mSlice_elim h
  obtain ⟨x4, e2, h⟩ := mInt_elim h
  exact ⟨(x, x1, x2, x3, x4), regsOf_self (L := [(0, (.pointer x)), (1, (.slice x1 x2 x3)), (4, (.int .i64 x4))]) (List.forall_mem_cons.2 ⟨e0, List.forall_mem_cons.2 ⟨e1, List.forall_mem_cons.2 ⟨e2, List.forall_mem_nil _⟩⟩⟩), h⟩
theorem glacierref2_Disk_Crash_p1_re (s : (Option Addr) × (Option Addr) × Nat × Nat × Int) (r : Regs) (K : ((Option Addr) × (Option Addr) × Nat × Nat × Int) → Prop) (h : K s) : glacierref2_Disk_Crash_p1.dec (regsOf (glacierref2_Disk_Crash_p1.slots s) r) K := by
  obtain ⟨x5, x6, x7, x8, x9⟩ := s
  exact cast (show K (x5, x6, x7, x8, x9) = glacierref2_Disk_Crash_p1.dec (regsOf (glacierref2_Disk_Crash_p1.slots (x5, x6, x7, x8, x9)) r) K by kernel_rfl) h

def glacierref2_Disk_Crash_p2 : Point ((Option Addr) × (Option Addr) × Nat × Nat × Int) := { slots := fun s => [(0, (.pointer s.1)), (1, (.slice s.2.1 s.2.2.1 s.2.2.2.1)), (4, (.int .i64 s.2.2.2.2))], dec := fun r K => mPtr (r 0) fun x => mSlice (r 1) fun x1 x2 x3 => mInt .i64 (r 4) fun x4 => K (x, x1, x2, x3, x4) }
theorem glacierref2_Disk_Crash_p2_ok : glacierref2_Disk_Crash_p2.ok := by
  intro r K h
  unfold glacierref2_Disk_Crash_p2 at h
  obtain ⟨x, e0, h⟩ := mPtr_elim h
  obtain ⟨x1, x2, x3, e1, h⟩ := mSlice_elim h
  obtain ⟨x4, e2, h⟩ := mInt_elim h
  exact ⟨(x, x1, x2, x3, x4), regsOf_self (L := [(0, (.pointer x)), (1, (.slice x1 x2 x3)), (4, (.int .i64 x4))]) (List.forall_mem_cons.2 ⟨e0, List.forall_mem_cons.2 ⟨e1, List.forall_mem_cons.2 ⟨e2, List.forall_mem_nil _⟩⟩⟩), h⟩
theorem glacierref2_Disk_Crash_p2_re (s : (Option Addr) × (Option Addr) × Nat × Nat × Int) (r : Regs) (K : ((Option Addr) × (Option Addr) × Nat × Nat × Int) → Prop) (h : K s) : glacierref2_Disk_Crash_p2.dec (regsOf (glacierref2_Disk_Crash_p2.slots s) r) K := by
  obtain ⟨x5, x6, x7, x8, x9⟩ := s
  exact cast (show K (x5, x6, x7, x8, x9) = glacierref2_Disk_Crash_p2.dec (regsOf (glacierref2_Disk_Crash_p2.slots (x5, x6, x7, x8, x9)) r) K by kernel_rfl) h

def glacierref2_Disk_Crash_p3 : Point ((Option Addr) × (Option Addr) × Nat × Nat × Int × Addr × Int) := { slots := fun s => [(0, (.pointer s.1)), (1, (.slice s.2.1 s.2.2.1 s.2.2.2.1)), (4, (.int .i64 s.2.2.2.2.1)), (5, (.pointer (some s.2.2.2.2.2.1))), (7, (.int .i64 s.2.2.2.2.2.2))], dec := fun r K => mPtr (r 0) fun x => mSlice (r 1) fun x1 x2 x3 => mInt .i64 (r 4) fun x4 => mPA (r 5) fun x5 => mInt .i64 (r 7) fun x6 => K (x, x1, x2, x3, x4, x5, x6) }
theorem glacierref2_Disk_Crash_p3_ok : glacierref2_Disk_Crash_p3.ok := by
  intro r K h
  unfold glacierref2_Disk_Crash_p3 at h
  obtain ⟨x, e0, h⟩ := mPtr_elim h
  obtain ⟨x1, x2, x3, e1, h⟩ := mSlice_elim h
  obtain ⟨x4, e2, h⟩ := mInt_elim h
  obtain ⟨x5, e3, h⟩ := mPA_elim h
  obtain ⟨x6, e4, h⟩ := mInt_elim h
  exact ⟨(x, x1, x2, x3, x4, x5, x6), regsOf_self (L := [(0, (.pointer x)), (1, (.slice x1 x2 x3)), (4, (.int .i64 x4)), (5, (.pointer (some x5))), (7, (.int .i64 x6))]) (List.forall_mem_cons.2 ⟨e0, List.forall_mem_cons.2 ⟨e1, List.forall_mem_cons.2 ⟨e2, List.forall_mem_cons.2 ⟨e3, List.forall_mem_cons.2 ⟨e4, List.forall_mem_nil _⟩⟩⟩⟩⟩), h⟩
theorem glacierref2_Disk_Crash_p3_re (s : (Option Addr) × (Option Addr) × Nat × Nat × Int × Addr × Int) (r : Regs) (K : ((Option Addr) × (Option Addr) × Nat × Nat × Int × Addr × Int) → Prop) (h : K s) : glacierref2_Disk_Crash_p3.dec (regsOf (glacierref2_Disk_Crash_p3.slots s) r) K := by
  obtain ⟨x7, x8, x9, x10, x11, x12, x13⟩ := s
  exact cast (show K (x7, x8, x9, x10, x11, x12, x13) = glacierref2_Disk_Crash_p3.dec (regsOf (glacierref2_Disk_Crash_p3.slots (x7, x8, x9, x10, x11, x12, x13)) r) K by kernel_rfl) h

def glacierref2_Disk_Crash_p4 : Point (Unit) := { slots := fun _ => [], dec := fun _ K => K () }
theorem glacierref2_Disk_Crash_p4_ok : glacierref2_Disk_Crash_p4.ok := by
  intro r K h
  unfold glacierref2_Disk_Crash_p4 at h
  exact ⟨(), regsOf_self (L := []) (List.forall_mem_nil _), h⟩
theorem glacierref2_Disk_Crash_p4_re (s : Unit) (r : Regs) (K : Unit → Prop) (h : K s) : glacierref2_Disk_Crash_p4.dec (regsOf (glacierref2_Disk_Crash_p4.slots s) r) K := by
  exact cast (show K () = glacierref2_Disk_Crash_p4.dec (regsOf (glacierref2_Disk_Crash_p4.slots ()) r) K by kernel_rfl) h

theorem glacierref2_Disk_Crash_sound (d : Option Addr) (picks : Option Addr) (picks_n : Nat) (picks_c : Nat) (R : Value → World → Prop) (w : World) (h : glacierref2_Disk_Crash_b6 d picks picks_n picks_c R w) :
    CallR Try.prog fn_glacierref2_Disk_Crash #[(.pointer d), (.slice picks picks_n picks_c)] w R := by
  refine CallR_intro (args := [(.pointer d), (.slice picks picks_n picks_c)]) Try.func39 rfl (Nat.le_of_ble_eq_true (by kernel_rfl)) ?_
  have hEnd : ∀ (s : Unit) (r : Regs) (w : World), glacierref2_Disk_Crash_b3 R w → retQ Try.prog Try.f39.results R .normal [] (regsOf (glacierref2_Disk_Crash_p4.slots s) r) w := by
    intro s r w h
    cases s
    have h : glacierref2_Disk_Crash_b3 R w := h
    exact cast (show (glacierref2_Disk_Crash_b3 R w) = retQ Try.prog Try.f39.results R .normal [] (regsOf (glacierref2_Disk_Crash_p4.slots ()) r) w by kernel_rfl) h
  refine Wp_glue glacierref2_Disk_Crash_p0 (fun s w => glacierref2_Disk_Crash_b5 s.1 s.2.1 s.2.2.1 s.2.2.2.1 s.2.2.2.2 R w) [_] (Q0 := fun e _ r w => match e with | .normal => glacierref2_Disk_Crash_p0.dec r (fun s => glacierref2_Disk_Crash_b5 s.1 s.2.1 s.2.2.1 s.2.2.2.1 s.2.2.2.2 R w) | .exit _ => False | .ret => retQ Try.prog Try.f39.results R .ret [] r w | _ => False) h (by kernel_rfl) (fun s r w h => ?_) glacierref2_Disk_Crash_p0_ok (fun _ _ _ h => h) ?_
  · obtain ⟨d1, picks1, picks_n1, picks_c1, i⟩ := s
    have h : glacierref2_Disk_Crash_b5 d1 picks1 picks_n1 picks_c1 i R w := h
    refine Wp_block_via glacierref2_Disk_Crash_p4 (fun _ w => glacierref2_Disk_Crash_b3 R w) hEnd (fun hX1 => ?_)
    refine Wp_loop (p := glacierref2_Disk_Crash_p0) glacierref2_Disk_Crash_p0_ok (fun s r w K0 h => ?_) h
    obtain ⟨d2, picks2, picks_n2, picks_c2, i1⟩ := s
    have h : glacierref2_Disk_Crash_b4 d2 picks2 picks_n2 picks_c2 i1 K0 R w := h
    have hK2 := fun (s : (Option Addr) × (Option Addr) × Nat × Nat × Int) (r : Regs) (w : World) (h : K0 s w) => glacierref2_Disk_Crash_p0_re s r (fun s => K0 s w) h
    refine Wp_glue glacierref2_Disk_Crash_p1 (fun s w => glacierref2_Disk_Crash_b2 s.1 s.2.1 s.2.2.1 s.2.2.2.1 s.2.2.2.2 K0 w) [_] (Q0 := fun e _ r w => match e with | .normal => glacierref2_Disk_Crash_p1.dec r (fun s => glacierref2_Disk_Crash_b2 s.1 s.2.1 s.2.2.1 s.2.2.2.1 s.2.2.2.2 K0 w) | .exit i => exitQ i 0 (glacierref2_Disk_Crash_p4.dec r (fun _ => glacierref2_Disk_Crash_b3 R w)) (False) | .ret => retQ Try.prog Try.f39.results R .ret [] r w | _ => False) h (by kernel_rfl) (fun s r w h => ?_) glacierref2_Disk_Crash_p1_ok (fun _ _ _ h => h) ?_
    · obtain ⟨d3, picks3, picks_n3, picks_c3, i2⟩ := s
      have h : glacierref2_Disk_Crash_b2 d3 picks3 picks_n3 picks_c3 i2 K0 w := h
      refine Wp_seq_via glacierref2_Disk_Crash_p2 (fun s w => glacierref2_Disk_Crash_b0 s.1 s.2.1 s.2.2.1 s.2.2.2.1 s.2.2.2.2 K0 w) (fun s r w h => ?_) (fun hN3 => ?_)
      · obtain ⟨d5, picks5, picks_n5, picks_c5, i4⟩ := s
        have h : glacierref2_Disk_Crash_b0 d5 picks5 picks_n5 picks_c5 i4 K0 w := h
        refine Wp_leaf_end (Q0 := fun e _ r w => match e with | .normal => glacierref2_Disk_Crash_p0.dec r (fun s => K0 s w) | .exit i => exitQ i 0 (glacierref2_Disk_Crash_p4.dec r (fun _ => glacierref2_Disk_Crash_b3 R w)) (False) | .ret => retQ Try.prog Try.f39.results R .ret [] r w | _ => False) h (by kernel_rfl) ?_
        intro e _ r w h
        cases e with
        | normal =>
          obtain ⟨s, hs, h⟩ := glacierref2_Disk_Crash_p0_ok _ _ h
          rw [← hs]
          exact hK2 s r w h
        | exit i =>
          rcases exitQ_elim h with ⟨rfl, h⟩ | ⟨_, h⟩
          · obtain ⟨s, hs, h⟩ := glacierref2_Disk_Crash_p4_ok _ _ h
            rw [← hs]
            exact hX1 s r w h
          exact h.elim
        | ret => exact h
        | goto i => exact h.elim
        | panic c => exact h.elim
        | outgrown => exact h.elim
      · refine Wp_block_via glacierref2_Disk_Crash_p2 (fun s w => glacierref2_Disk_Crash_b0 s.1 s.2.1 s.2.2.1 s.2.2.2.1 s.2.2.2.2 K0 w) hN3 (fun hX4 => ?_)
        refine Wp_glue glacierref2_Disk_Crash_p3 (fun s w => glacierref2_Disk_Crash_b1 s.1 s.2.1 s.2.2.1 s.2.2.2.1 s.2.2.2.2.1 s.2.2.2.2.2.1 s.2.2.2.2.2.2 K0 w) [_, _, _, _] (Q0 := fun e _ r w => match e with | .normal => glacierref2_Disk_Crash_p3.dec r (fun s => glacierref2_Disk_Crash_b1 s.1 s.2.1 s.2.2.1 s.2.2.2.1 s.2.2.2.2.1 s.2.2.2.2.2.1 s.2.2.2.2.2.2 K0 w) | .exit i => exitQ i 0 (glacierref2_Disk_Crash_p4.dec r (fun _ => glacierref2_Disk_Crash_b3 R w)) (exitQ i 1 (glacierref2_Disk_Crash_p2.dec r (fun s => glacierref2_Disk_Crash_b0 s.1 s.2.1 s.2.2.1 s.2.2.2.1 s.2.2.2.2 K0 w)) (False)) | .ret => retQ Try.prog Try.f39.results R .ret [] r w | _ => False) h (by kernel_rfl) (fun s r w h => ?_) glacierref2_Disk_Crash_p3_ok (fun _ _ _ h => h) ?_
        · obtain ⟨d4, picks4, picks_n4, picks_c4, i3, f1, keep⟩ := s
          have h : glacierref2_Disk_Crash_b1 d4 picks4 picks_n4 picks_c4 i3 f1 keep K0 w := h
          refine Wp_leaf_end (Q0 := fun e _ r w => match e with | .normal => glacierref2_Disk_Crash_p2.dec r (fun s => glacierref2_Disk_Crash_b0 s.1 s.2.1 s.2.2.1 s.2.2.2.1 s.2.2.2.2 K0 w) | .exit i => exitQ i 0 (glacierref2_Disk_Crash_p4.dec r (fun _ => glacierref2_Disk_Crash_b3 R w)) (exitQ i 1 (glacierref2_Disk_Crash_p2.dec r (fun s => glacierref2_Disk_Crash_b0 s.1 s.2.1 s.2.2.1 s.2.2.2.1 s.2.2.2.2 K0 w)) (False)) | .ret => retQ Try.prog Try.f39.results R .ret [] r w | _ => False) h (by kernel_rfl) ?_
          intro e _ r w h
          cases e with
          | normal =>
            obtain ⟨s, hs, h⟩ := glacierref2_Disk_Crash_p2_ok _ _ h
            rw [← hs]
            exact hN3 s r w h
          | exit i =>
            rcases exitQ_elim h with ⟨rfl, h⟩ | ⟨_, h⟩
            · obtain ⟨s, hs, h⟩ := glacierref2_Disk_Crash_p4_ok _ _ h
              rw [← hs]
              exact (fun s r w h => blockQ_other (id := 1) (j := 0) (by decide) (hX1 s r w h)) s r w h
            rcases exitQ_elim h with ⟨rfl, h⟩ | ⟨_, h⟩
            · obtain ⟨s, hs, h⟩ := glacierref2_Disk_Crash_p2_ok _ _ h
              rw [← hs]
              exact hX4 s r w h
            exact h.elim
          | ret => exact h
          | goto i => exact h.elim
          | panic c => exact h.elim
          | outgrown => exact h.elim
        · intro e _ r w hne h
          cases e with
          | normal => exact absurd rfl hne
          | exit i =>
            rcases exitQ_elim h with ⟨rfl, h⟩ | ⟨_, h⟩
            · obtain ⟨s, hs, h⟩ := glacierref2_Disk_Crash_p4_ok _ _ h
              rw [← hs]
              exact (fun s r w h => blockQ_other (id := 1) (j := 0) (by decide) (hX1 s r w h)) s r w h
            rcases exitQ_elim h with ⟨rfl, h⟩ | ⟨_, h⟩
            · obtain ⟨s, hs, h⟩ := glacierref2_Disk_Crash_p2_ok _ _ h
              rw [← hs]
              exact hX4 s r w h
            exact h.elim
          | ret => exact h
          | goto i => exact h.elim
          | panic c => exact h.elim
          | outgrown => exact h.elim
    · intro e _ r w hne h
      cases e with
      | normal => exact absurd rfl hne
      | exit i =>
        rcases exitQ_elim h with ⟨rfl, h⟩ | ⟨_, h⟩
        · obtain ⟨s, hs, h⟩ := glacierref2_Disk_Crash_p4_ok _ _ h
          rw [← hs]
          exact hX1 s r w h
        exact h.elim
      | ret => exact h
      | goto i => exact h.elim
      | panic c => exact h.elim
      | outgrown => exact h.elim
  · intro e _ r w hne h
    cases e with
    | normal => exact absurd rfl hne
    | exit i => exact h.elim
    | ret => exact h
    | goto i => exact h.elim
    | panic c => exact h.elim
    | outgrown => exact h.elim

/- (*glacier/glacierref2.Disk).Lose -/
def glacierref2_Disk_Lose_b0 (d : Option Addr) (R : Value → World → Prop) (w : World) : Prop :=
  NN d fun p =>
  ST w (Addr.add p 1) (.slice none 0 0) fun w_ =>
  NN d fun p1 =>
  LDI .i64 w_ (Addr.add p1 2) fun v =>
  NN d fun p2 =>
  ST w_ (Addr.add p2 2) (.int .i64 (IntKind.wrap .i64 (v + 1))) fun w_1 =>
  R (.tuple #[]) w_1

theorem glacierref2_Disk_Lose_sound (d : Option Addr) (R : Value → World → Prop) (w : World) (h : glacierref2_Disk_Lose_b0 d R w) :
    CallR Try.prog fn_glacierref2_Disk_Lose #[(.pointer d)] w R := by
  refine CallR_intro (args := [(.pointer d)]) Try.func41 rfl (Nat.le_of_ble_eq_true (by kernel_rfl)) ?_
  refine Wp_leaf_end (Q0 := fun e _ r w => match e with | .normal => retQ Try.prog Try.f41.results R .normal [] r w | .exit _ => False | .ret => retQ Try.prog Try.f41.results R .ret [] r w | _ => False) h (by kernel_rfl) ?_
  intro e _ r w h
  cases e with
  | normal => exact h
  | exit i => exact h.elim
  | ret => exact h
  | goto i => exact h.elim
  | panic c => exact h.elim
  | outgrown => exact h.elim

/- (*glacier/glacierref2.Disk).Twin -/
def glacierref2_Disk_Twin_b0 (x3 : Addr) (R : Value → World → Prop) (w : World) : Prop :=
  R (.pointer (some x3)) w

def glacierref2_Disk_Twin_b1 (d3 : Option Addr) (x2 : Addr) (i1 : Int) (K0 : ((Option Addr) × Addr × Int) → World → Prop) (R : Value → World → Prop) (w : World) : Prop :=
  NN d3 fun p3 =>
  LDSl w (Addr.add p3 1) fun _ v_n _ =>
  Br (decide (i1 < (v_n : Int))) (
  NN d3 fun p4 =>
  LDSl w (Addr.add p4 1) fun v3 v_n1 _ =>
  IX v3 v_n1 i1 3 fun a =>
  LDS w a fun Name =>
  LDSl w (Addr.add a 1) fun Bytes Bytes_n Bytes_c =>
  LDI .i64 w (Addr.add a 2) fun Synced =>
  AL w (.cells #[(.string (ByteArray.mk #[])), (.slice none 0 0), (.int .i64 0)] 82) fun f w_2 =>
  ST w_2 f (.string Name) fun w_3 =>
  ST w_3 (Addr.add f 1) (.slice Bytes Bytes_n Bytes_c) fun w_4 =>
  ST w_4 (Addr.add f 2) (.int .i64 Synced) fun w_5 =>
  AL w_5 (.cells #[] 5) fun b w_6 =>
  LDSl w_6 (Addr.add f 1) fun v4 v_n2 v_c2 =>
  rRun Try.prog (Builtin.append_ #[30, 30] 30 #[(.slice (some b) 0 0), (.slice v4 v_n2 v_c2)]) w_6 fun sr w_7 =>
  mSlice sr fun v5 v_n3 v_c3 =>
  ST w_7 (Addr.add f 1) (.slice v5 v_n3 v_c3) fun w_8 =>
  LetW (World.drew w_8) fun w_9 =>
  LDSl w_9 (Addr.add x2 1) fun v6 v_n4 v_c4 =>
  LDS w_9 f fun Name1 =>
  LDSl w_9 (Addr.add f 1) fun Bytes1 Bytes_n1 Bytes_c1 =>
  LDI .i64 w_9 (Addr.add f 2) fun Synced1 =>
  AL w_9 (.cells #[(.string Name1), (.slice Bytes1 Bytes_n1 Bytes_c1), (.int .i64 Synced1)] 82) fun b1 w_10 =>
  (World.cell? w_10 (Addr.add x2 1) = some (.slice v6 v_n4 v_c4) ∧ 
  rRun Try.prog (Builtin.append_ #[54, 54] 54 #[(.slice v6 v_n4 v_c4), (.slice (some b1) 1 1)]) w_10 fun sr1 w_11 =>
  mSlice sr1 fun v7 v_n5 v_c5 =>
  ST w_11 (Addr.add x2 1) (.slice v7 v_n5 v_c5) fun w_12 =>
  K0 (d3, x2, IntKind.wrap .i64 (i1 + 1)) w_12)) (
  glacierref2_Disk_Twin_b0 x2 R w)

def glacierref2_Disk_Twin_b2 (d2 : Option Addr) (x1 : Addr) (i : Int) (R : Value → World → Prop) (w : World) : Prop :=
  LoopS (σ := (Option Addr) × Addr × Int) (fun s w K0 =>
  glacierref2_Disk_Twin_b1 s.1 s.2.1 s.2.2 K0 R w) (d2, x1, i) w

def glacierref2_Disk_Twin_b3 (d1 : Option Addr) (x : Addr) (R : Value → World → Prop) (w : World) : Prop :=
  glacierref2_Disk_Twin_b2 d1 x 0 R w

def glacierref2_Disk_Twin_b4 (d : Option Addr) (R : Value → World → Prop) (w : World) : Prop :=
  LetW (World.drew w) fun w_ =>
  NN d fun p =>
  LDI .i64 w_ p fun v =>
  NN d fun p1 =>
  LDI .i64 w_ (Addr.add p1 2) fun v1 =>
  (w_ = w_ ∧ 
  AL w_ (.cells #[(.int .i64 v), (.slice none 0 0), (.int .i64 v1)] 56) fun p2 w_1 =>
  glacierref2_Disk_Twin_b3 d p2 R w_1)

def glacierref2_Disk_Twin_p0 : Point ((Option Addr) × Addr) := { slots := fun s => [(0, (.pointer s.1)), (3, (.pointer (some s.2)))], dec := fun r K => mPtr (r 0) fun x => mPA (r 3) fun x1 => K (x, x1) }
theorem glacierref2_Disk_Twin_p0_ok : glacierref2_Disk_Twin_p0.ok := by
  intro r K h
  unfold glacierref2_Disk_Twin_p0 at h
  obtain ⟨x, e0, h⟩ := mPtr_elim h
  obtain ⟨x1, e1, h⟩ := mPA_elim h
  exact ⟨(x, x1), regsOf_self (L := [(0, (.pointer x)), (3, (.pointer (some x1)))]) (List.forall_mem_cons.2 ⟨e0, List.forall_mem_cons.2 ⟨e1, List.forall_mem_nil _⟩⟩), h⟩
theorem glacierref2_Disk_Twin_p0_re (s : (Option Addr) × Addr) (r : Regs) (K : ((Option Addr) × Addr) → Prop) (h : K s) : glacierref2_Disk_Twin_p0.dec (regsOf (glacierref2_Disk_Twin_p0.slots s) r) K := by
  obtain ⟨x2, x3⟩ := s
  exact cast (show K (x2, x3) = glacierref2_Disk_Twin_p0.dec (regsOf (glacierref2_Disk_Twin_p0.slots (x2, x3)) r) K by kernel_rfl) h

def glacierref2_Disk_Twin_p1 : Point (Addr) := { slots := fun s => [(3, (.pointer (some s)))], dec := fun r K => mPA (r 3) fun x => K x }
theorem glacierref2_Disk_Twin_p1_ok : glacierref2_Disk_Twin_p1.ok := by
  intro r K h
  unfold glacierref2_Disk_Twin_p1 at h
  obtain ⟨x, e0, h⟩ := mPA_elim h
  exact ⟨x, regsOf_self (L := [(3, (.pointer (some x)))]) (List.forall_mem_cons.2 ⟨e0, List.forall_mem_nil _⟩), h⟩
theorem glacierref2_Disk_Twin_p1_re (s : Addr) (r : Regs) (K : Addr → Prop) (h : K s) : glacierref2_Disk_Twin_p1.dec (regsOf (glacierref2_Disk_Twin_p1.slots s) r) K := by
  exact cast (show K s = glacierref2_Disk_Twin_p1.dec (regsOf (glacierref2_Disk_Twin_p1.slots s) r) K by kernel_rfl) h

def glacierref2_Disk_Twin_p2 : Point ((Option Addr) × Addr × Int) := { slots := fun s => [(0, (.pointer s.1)), (3, (.pointer (some s.2.1))), (4, (.int .i64 s.2.2))], dec := fun r K => mPtr (r 0) fun x => mPA (r 3) fun x1 => mInt .i64 (r 4) fun x2 => K (x, x1, x2) }
theorem glacierref2_Disk_Twin_p2_ok : glacierref2_Disk_Twin_p2.ok := by
  intro r K h
  unfold glacierref2_Disk_Twin_p2 at h
  obtain ⟨x, e0, h⟩ := mPtr_elim h
  obtain ⟨x1, e1, h⟩ := mPA_elim h
  obtain ⟨x2, e2, h⟩ := mInt_elim h
  exact ⟨(x, x1, x2), regsOf_self (L := [(0, (.pointer x)), (3, (.pointer (some x1))), (4, (.int .i64 x2))]) (List.forall_mem_cons.2 ⟨e0, List.forall_mem_cons.2 ⟨e1, List.forall_mem_cons.2 ⟨e2, List.forall_mem_nil _⟩⟩⟩), h⟩
theorem glacierref2_Disk_Twin_p2_re (s : (Option Addr) × Addr × Int) (r : Regs) (K : ((Option Addr) × Addr × Int) → Prop) (h : K s) : glacierref2_Disk_Twin_p2.dec (regsOf (glacierref2_Disk_Twin_p2.slots s) r) K := by
  obtain ⟨x3, x4, x5⟩ := s
  exact cast (show K (x3, x4, x5) = glacierref2_Disk_Twin_p2.dec (regsOf (glacierref2_Disk_Twin_p2.slots (x3, x4, x5)) r) K by kernel_rfl) h

theorem glacierref2_Disk_Twin_sound (d : Option Addr) (R : Value → World → Prop) (w : World) (h : glacierref2_Disk_Twin_b4 d R w) :
    CallR Try.prog fn_glacierref2_Disk_Twin #[(.pointer d)] w R := by
  refine CallR_intro (args := [(.pointer d)]) Try.func24 rfl (Nat.le_of_ble_eq_true (by kernel_rfl)) ?_
  refine Wp_glue glacierref2_Disk_Twin_p0 (fun s w => glacierref2_Disk_Twin_b3 s.1 s.2 R w) [_, _] (Q0 := fun e _ r w => match e with | .normal => glacierref2_Disk_Twin_p0.dec r (fun s => glacierref2_Disk_Twin_b3 s.1 s.2 R w) | .exit _ => False | .ret => retQ Try.prog Try.f24.results R .ret [] r w | _ => False) h (by kernel_rfl) (fun s r w h => ?_) glacierref2_Disk_Twin_p0_ok (fun _ _ _ h => h) ?_
  · obtain ⟨d1, x⟩ := s
    have h : glacierref2_Disk_Twin_b3 d1 x R w := h
    refine Wp_seq_via glacierref2_Disk_Twin_p1 (fun s w => glacierref2_Disk_Twin_b0 s R w) (fun s r w h => ?_) (fun hN1 => ?_)
    · obtain ⟨x3, rfl⟩ : ∃ y, y = s := ⟨s, rfl⟩
      have h : glacierref2_Disk_Twin_b0 x3 R w := h
      refine Wp_leaf_end (Q0 := fun e _ r w => match e with | .normal => retQ Try.prog Try.f24.results R .normal [] r w | .exit _ => False | .ret => retQ Try.prog Try.f24.results R .ret [] r w | _ => False) h (by kernel_rfl) ?_
      intro e _ r w h
      cases e with
      | normal => exact h
      | exit i => exact h.elim
      | ret => exact h
      | goto i => exact h.elim
      | panic c => exact h.elim
      | outgrown => exact h.elim
    · refine Wp_glue glacierref2_Disk_Twin_p2 (fun s w => glacierref2_Disk_Twin_b2 s.1 s.2.1 s.2.2 R w) [_] (Q0 := fun e _ r w => match e with | .normal => glacierref2_Disk_Twin_p2.dec r (fun s => glacierref2_Disk_Twin_b2 s.1 s.2.1 s.2.2 R w) | .exit _ => False | .ret => retQ Try.prog Try.f24.results R .ret [] r w | _ => False) h (by kernel_rfl) (fun s r w h => ?_) glacierref2_Disk_Twin_p2_ok (fun _ _ _ h => h) ?_
      · obtain ⟨d2, x1, i⟩ := s
        have h : glacierref2_Disk_Twin_b2 d2 x1 i R w := h
        refine Wp_block_via glacierref2_Disk_Twin_p1 (fun s w => glacierref2_Disk_Twin_b0 s R w) hN1 (fun hX2 => ?_)
        refine Wp_loop (p := glacierref2_Disk_Twin_p2) glacierref2_Disk_Twin_p2_ok (fun s r w K0 h => ?_) h
        obtain ⟨d3, x2, i1⟩ := s
        have h : glacierref2_Disk_Twin_b1 d3 x2 i1 K0 R w := h
        have hK3 := fun (s : (Option Addr) × Addr × Int) (r : Regs) (w : World) (h : K0 s w) => glacierref2_Disk_Twin_p2_re s r (fun s => K0 s w) h
        refine Wp_leaf_end (Q0 := fun e _ r w => match e with | .normal => glacierref2_Disk_Twin_p2.dec r (fun s => K0 s w) | .exit i => exitQ i 0 (glacierref2_Disk_Twin_p1.dec r (fun s => glacierref2_Disk_Twin_b0 s R w)) (False) | .ret => retQ Try.prog Try.f24.results R .ret [] r w | _ => False) h (by kernel_rfl) ?_
        intro e _ r w h
        cases e with
        | normal =>
          obtain ⟨s, hs, h⟩ := glacierref2_Disk_Twin_p2_ok _ _ h
          rw [← hs]
          exact hK3 s r w h
        | exit i =>
          rcases exitQ_elim h with ⟨rfl, h⟩ | ⟨_, h⟩
          · obtain ⟨s, hs, h⟩ := glacierref2_Disk_Twin_p1_ok _ _ h
            rw [← hs]
            exact hX2 s r w h
          exact h.elim
        | ret => exact h
        | goto i => exact h.elim
        | panic c => exact h.elim
        | outgrown => exact h.elim
      · intro e _ r w hne h
        cases e with
        | normal => exact absurd rfl hne
        | exit i => exact h.elim
        | ret => exact h
        | goto i => exact h.elim
        | panic c => exact h.elim
        | outgrown => exact h.elim
  · intro e _ r w hne h
    cases e with
    | normal => exact absurd rfl hne
    | exit i => exact h.elim
    | ret => exact h
    | goto i => exact h.elim
    | panic c => exact h.elim
    | outgrown => exact h.elim

end Go.Proofs.Ytimgbkabfkdabaa
