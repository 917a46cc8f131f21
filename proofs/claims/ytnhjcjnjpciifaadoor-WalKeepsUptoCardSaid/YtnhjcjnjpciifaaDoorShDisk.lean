/- Printed by a program of this claim: the shallow readings of functions, and that they are sound. -/
import Derived.Test.YtnhjcjnjpciifaaDoorShNames
namespace Go.Proofs.YtnhjcjnjpciifaaDoor
open Go.Sh

/- internal/stringslite.HasPrefix -/
def internal_stringslite_HasPrefix_b0 (s : ByteArray) (prefix_ : ByteArray) (R : Value → World → Prop) (w : World) : Prop :=
  Br (decide ((ByteArray.size s : Int) ≥ (ByteArray.size prefix_ : Int))) (
  rRun Tryd.prog (Instr.sliceAt 9 (.string s) none (some (.int .i64 (ByteArray.size prefix_ : Int))) none) w fun sr w_ =>
  mStr sr fun v =>
  R (.bool (ByteArray.toList v == ByteArray.toList prefix_)) w_) (
  R (.bool false) w)

set_option maxRecDepth 100000 in
theorem internal_stringslite_HasPrefix_sound (s : ByteArray) (prefix_ : ByteArray) (R : Value → World → Prop) (w : World) (h : internal_stringslite_HasPrefix_b0 s prefix_ R w) :
    CallR Tryd.prog fn_internal_stringslite_HasPrefix #[(.string s), (.string prefix_)] w R := by
  refine CallR_intro (args := [(.string s), (.string prefix_)]) Tryd.func86 rfl (Nat.le_of_ble_eq_true (by kernel_rfl)) ?_
  refine Wp_leaf_end (Q0 := fun e _ r w => match e with | .normal => retQ Tryd.prog Tryd.f86.results R .normal [] r w | .exit _ => False | .ret => retQ Tryd.prog Tryd.f86.results R .ret [] r w | _ => False) h (by kernel_rfl) ?_
  intro e _ r w h
  cases e with
  | normal => exact h
  | exit i => exact h.elim
  | ret => exact h
  | goto i => exact h.elim
  | panic c => exact h.elim
  | outgrown => exact h.elim

/- strings.HasPrefix -/
def strings_HasPrefix_b0 (s : ByteArray) (prefix_ : ByteArray) (R : Value → World → Prop) (w : World) : Prop :=
  CallR Tryd.prog fn_internal_stringslite_HasPrefix #[(.string s), (.string prefix_)] w fun res w_ =>
  mBool res fun v =>
  R (.bool v) w_

set_option maxRecDepth 100000 in
theorem strings_HasPrefix_sound (s : ByteArray) (prefix_ : ByteArray) (R : Value → World → Prop) (w : World) (h : strings_HasPrefix_b0 s prefix_ R w) :
    CallR Tryd.prog fn_strings_HasPrefix #[(.string s), (.string prefix_)] w R := by
  refine CallR_intro (args := [(.string s), (.string prefix_)]) Tryd.func67 rfl (Nat.le_of_ble_eq_true (by kernel_rfl)) ?_
  refine Wp_leaf_end (Q0 := fun e _ r w => match e with | .normal => retQ Tryd.prog Tryd.f67.results R .normal [] r w | .exit _ => False | .ret => retQ Tryd.prog Tryd.f67.results R .ret [] r w | _ => False) h (by kernel_rfl) ?_
  intro e _ r w h
  cases e with
  | normal => exact h
  | exit i => exact h.elim
  | ret => exact h
  | goto i => exact h.elim
  | panic c => exact h.elim
  | outgrown => exact h.elim

/- slices.Clone[[]byte,byte] -/
def slices_Clone_s_byte_byte_b0 (s : Option Addr) (s_n : Nat) (s_c : Nat) (R : Value → World → Prop) (w : World) : Prop :=
  Br (Option.isNone s) (
  R (.slice none 0 0) w) (
  AL w (.cells #[] 5) fun b w_ =>
  rRun Tryd.prog (Builtin.append_ #[41, 41] 41 #[(.slice (some b) 0 0), (.slice s s_n s_c)]) w_ fun sr w_1 =>
  mSlice sr fun v v_n v_c =>
  R (.slice v v_n v_c) w_1)

set_option maxRecDepth 100000 in
theorem slices_Clone_s_byte_byte_sound (s : Option Addr) (s_n : Nat) (s_c : Nat) (R : Value → World → Prop) (w : World) (h : slices_Clone_s_byte_byte_b0 s s_n s_c R w) :
    CallR Tryd.prog fn_slices_Clone_s_byte_byte #[(.slice s s_n s_c)] w R := by
  refine CallR_intro (args := [(.slice s s_n s_c)]) Tryd.func43 rfl (Nat.le_of_ble_eq_true (by kernel_rfl)) ?_
  refine Wp_leaf_end (Q0 := fun e _ r w => match e with | .normal => retQ Tryd.prog Tryd.f43.results R .normal [] r w | .exit _ => False | .ret => retQ Tryd.prog Tryd.f43.results R .ret [] r w | _ => False) h (by kernel_rfl) ?_
  intro e _ r w h
  cases e with
  | normal => exact h
  | exit i => exact h.elim
  | ret => exact h
  | goto i => exact h.elim
  | panic c => exact h.elim
  | outgrown => exact h.elim

/- glacier/disk.New -/
def disk_New_b0 (size : Int) (R : Value → World → Prop) (w : World) : Prop :=
  Br (decide (size < 1)) (
  R (.tuple #[(.pointer none), (.int .i64 1)]) w) (
  Br (decide (size > 1073741824)) (
  R (.tuple #[(.pointer none), (.int .i64 1)]) w) (
  ALM w (.map #[] 0) fun m w_ =>
  AL w_ (.cells #[(.int .i64 size), (.int .i64 0), (.int .i64 0), (.map (some m))] 75) fun p w_1 =>
  R (.tuple #[(.pointer (some p)), (.int .i64 0)]) w_1))

set_option maxRecDepth 100000 in
theorem disk_New_sound (size : Int) (R : Value → World → Prop) (w : World) (h : disk_New_b0 size R w) :
    CallR Tryd.prog fn_disk_New #[(.int .i64 size)] w R := by
  refine CallR_intro (args := [(.int .i64 size)]) Tryd.func13 rfl (Nat.le_of_ble_eq_true (by kernel_rfl)) ?_
  refine Wp_leaf_end (Q0 := fun e _ r w => match e with | .normal => retQ Tryd.prog Tryd.f13.results R .normal [] r w | .exit _ => False | .ret => retQ Tryd.prog Tryd.f13.results R .ret [] r w | _ => False) h (by kernel_rfl) ?_
  intro e _ r w h
  cases e with
  | normal => exact h
  | exit i => exact h.elim
  | ret => exact h
  | goto i => exact h.elim
  | panic c => exact h.elim
  | outgrown => exact h.elim

/- (*glacier/disk.Disk).Read -/
def disk_Disk_Read_b0 (d : Option Addr) (name : ByteArray) (R : Value → World → Prop) (w : World) : Prop :=
  NN d fun p =>
  LDM w (Addr.add p 3) fun v =>
  rRun Tryd.prog (Instr.lookup 73 (.map v) (.string name) false) w fun vr w_ =>
  mPtr vr fun v1 =>
  Br (Option.isNone v1) (
  R (.tuple #[(.slice none 0 0), (.int .i64 4)]) w_) (
  NN v1 fun p1 =>
  LDSl w_ p1 fun v2 v_n v_c =>
  CallR Tryd.prog fn_slices_Clone_s_byte_byte #[(.slice v2 v_n v_c)] w_ fun res w_1 =>
  mSlice res fun v3 v_n1 v_c1 =>
  R (.tuple #[(.slice v3 v_n1 v_c1), (.int .i64 0)]) w_1)

set_option maxRecDepth 100000 in
theorem disk_Disk_Read_sound (d : Option Addr) (name : ByteArray) (R : Value → World → Prop) (w : World) (h : disk_Disk_Read_b0 d name R w) :
    CallR Tryd.prog fn_disk_Disk_Read #[(.pointer d), (.string name)] w R := by
  refine CallR_intro (args := [(.pointer d), (.string name)]) Tryd.func16 rfl (Nat.le_of_ble_eq_true (by kernel_rfl)) ?_
  refine Wp_leaf_end (Q0 := fun e _ r w => match e with | .normal => retQ Tryd.prog Tryd.f16.results R .normal [] r w | .exit _ => False | .ret => retQ Tryd.prog Tryd.f16.results R .ret [] r w | _ => False) h (by kernel_rfl) ?_
  intro e _ r w h
  cases e with
  | normal => exact h
  | exit i => exact h.elim
  | ret => exact h
  | goto i => exact h.elim
  | panic c => exact h.elim
  | outgrown => exact h.elim

/- (*glacier/disk.Disk).Sync -/
def disk_Disk_Sync_b0 (R : Value → World → Prop) (w : World) : Prop :=
  R (.int .i64 0) w

def disk_Disk_Sync_b1 (d3 : Option Addr) (t111 : Option Addr) (t11_n1 : Nat) (t11_c1 : Nat) (t121 : Int) (t131 : Int) (K0 : ((Option Addr) × (Option Addr) × Nat × Nat × Int × Int) → World → Prop) (R : Value → World → Prop) (w : World) : Prop :=
  Br (decide (t131 < t121)) (
  IX t111 t11_n1 t131 1 fun a =>
  LDS w a fun v1 =>
  LetW (World.drew w) fun w_1 =>
  NN d3 fun p =>
  LDM w_1 (Addr.add p 3) fun v2 =>
  rRun Tryd.prog (Instr.lookup 73 (.map v2) (.string v1) false) w_1 fun vr w_2 =>
  mPtr vr fun v3 =>
  (w_2 = w_1 ∧ 
  NN d3 fun p1 =>
  LDM w_1 (Addr.add p1 3) fun v4 =>
  rRun Tryd.prog (Instr.lookup 73 (.map v4) (.string v1) false) w_1 fun vr1 w_3 =>
  mPtr vr1 fun v5 =>
  (w_3 = w_1 ∧ 
  NN v5 fun p2 =>
  LDSl w_1 p2 fun _ v_n _ =>
  (w_1 = w_1 ∧ 
  NN v3 fun p3 =>
  ST w_1 (Addr.add p3 1) (.int .i64 (v_n : Int)) fun w_4 =>
  K0 (d3, t111, t11_n1, t11_c1, t121, IntKind.wrap .i64 (t131 + 1)) w_4)))) (
  disk_Disk_Sync_b0 R w)

def disk_Disk_Sync_b2 (d2 : Option Addr) (t11 : Option Addr) (t11_n : Nat) (t11_c : Nat) (t12 : Int) (t13 : Int) (R : Value → World → Prop) (w : World) : Prop :=
  LoopS (σ := (Option Addr) × (Option Addr) × Nat × Nat × Int × Int) (fun s w K0 =>
  disk_Disk_Sync_b1 s.1 s.2.1 s.2.2.1 s.2.2.2.1 s.2.2.2.2.1 s.2.2.2.2.2 K0 R w) (d2, t11, t11_n, t11_c, t12, t13) w

def disk_Disk_Sync_b3 (d1 : Option Addr) (names1 : Option Addr) (names_n1 : Nat) (names_c1 : Nat) (R : Value → World → Prop) (w : World) : Prop :=
  disk_Disk_Sync_b2 d1 names1 names_n1 names_c1 (names_n1 : Int) 0 R w

def disk_Disk_Sync_b4 (d : Option Addr) (names : Option Addr) (names_n : Nat) (names_c : Nat) (R : Value → World → Prop) (w : World) : Prop :=
  CallR Tryd.prog fn_disk_Disk_all #[(.pointer d), (.slice names names_n names_c)] w fun res w_ =>
  mBool res fun v =>
  Br (!v) (
  R (.int .i64 4) w_) (
  disk_Disk_Sync_b3 d names names_n names_c R w_)

def disk_Disk_Sync_p0 : Point ((Option Addr) × (Option Addr) × Nat × Nat) := { slots := fun s => [(0, (.pointer s.1)), (1, (.slice s.2.1 s.2.2.1 s.2.2.2))], dec := fun r K => mPtr (r 0) fun x => mSlice (r 1) fun x1 x2 x3 => K (x, x1, x2, x3) }
theorem disk_Disk_Sync_p0_ok : disk_Disk_Sync_p0.ok := by
  intro r K h
  unfold disk_Disk_Sync_p0 at h
  obtain ⟨x, e0, h⟩ := mPtr_elim h
  obtain ⟨x1, x2, x3, e1, h⟩ := mSlice_elim h
  exact ⟨(x, x1, x2, x3), regsOf_self (L := [(0, (.pointer x)), (1, (.slice x1 x2 x3))]) (List.forall_mem_cons.2 ⟨e0, List.forall_mem_cons.2 ⟨e1, List.forall_mem_nil _⟩⟩), h⟩
theorem disk_Disk_Sync_p0_re (s : (Option Addr) × (Option Addr) × Nat × Nat) (r : Regs) (K : ((Option Addr) × (Option Addr) × Nat × Nat) → Prop) (h : K s) : disk_Disk_Sync_p0.dec (regsOf (disk_Disk_Sync_p0.slots s) r) K := by
  obtain ⟨x4, x5, x6, x7⟩ := s
  exact cast (show K (x4, x5, x6, x7) = disk_Disk_Sync_p0.dec (regsOf (disk_Disk_Sync_p0.slots (x4, x5, x6, x7)) r) K by kernel_rfl) h

def disk_Disk_Sync_p1 : Point (Unit) := { slots := fun _ => [], dec := fun _ K => K () }
theorem disk_Disk_Sync_p1_ok : disk_Disk_Sync_p1.ok := by
  intro r K h
  unfold disk_Disk_Sync_p1 at h
  exact ⟨(), regsOf_self (L := []) (List.forall_mem_nil _), h⟩
theorem disk_Disk_Sync_p1_re (s : Unit) (r : Regs) (K : Unit → Prop) (h : K s) : disk_Disk_Sync_p1.dec (regsOf (disk_Disk_Sync_p1.slots s) r) K := by
  exact cast (show K () = disk_Disk_Sync_p1.dec (regsOf (disk_Disk_Sync_p1.slots ()) r) K by kernel_rfl) h

def disk_Disk_Sync_p2 : Point ((Option Addr) × (Option Addr) × Nat × Nat × Int × Int) := { slots := fun s => [(0, (.pointer s.1)), (11, (.slice s.2.1 s.2.2.1 s.2.2.2.1)), (12, (.int .i64 s.2.2.2.2.1)), (13, (.int .i64 s.2.2.2.2.2))], dec := fun r K => mPtr (r 0) fun x => mSlice (r 11) fun x1 x2 x3 => mInt .i64 (r 12) fun x4 => mInt .i64 (r 13) fun x5 => K (x, x1, x2, x3, x4, x5) }
theorem disk_Disk_Sync_p2_ok : disk_Disk_Sync_p2.ok := by
  intro r K h
  unfold disk_Disk_Sync_p2 at h
  obtain ⟨x, e0, h⟩ := mPtr_elim h
  obtain ⟨x1, x2, x3, e1, h⟩ := mSlice_elim h
  obtain ⟨x4, e2, h⟩ := mInt_elim h
  obtain ⟨x5, e3, h⟩ := mInt_elim h
  exact ⟨(x, x1, x2, x3, x4, x5), regsOf_self (L := [(0, (.pointer x)), (11, (.slice x1 x2 x3)), (12, (.int .i64 x4)), (13, (.int .i64 x5))]) (List.forall_mem_cons.2 ⟨e0, List.forall_mem_cons.2 ⟨e1, List.forall_mem_cons.2 ⟨e2, List.forall_mem_cons.2 ⟨e3, List.forall_mem_nil _⟩⟩⟩⟩), h⟩
theorem disk_Disk_Sync_p2_re (s : (Option Addr) × (Option Addr) × Nat × Nat × Int × Int) (r : Regs) (K : ((Option Addr) × (Option Addr) × Nat × Nat × Int × Int) → Prop) (h : K s) : disk_Disk_Sync_p2.dec (regsOf (disk_Disk_Sync_p2.slots s) r) K := by
  obtain ⟨x6, x7, x8, x9, x10, x11⟩ := s
  exact cast (show K (x6, x7, x8, x9, x10, x11) = disk_Disk_Sync_p2.dec (regsOf (disk_Disk_Sync_p2.slots (x6, x7, x8, x9, x10, x11)) r) K by kernel_rfl) h

set_option maxRecDepth 100000 in
theorem disk_Disk_Sync_sound (d : Option Addr) (names : Option Addr) (names_n : Nat) (names_c : Nat) (R : Value → World → Prop) (w : World) (h : disk_Disk_Sync_b4 d names names_n names_c R w) :
    CallR Tryd.prog fn_disk_Disk_Sync #[(.pointer d), (.slice names names_n names_c)] w R := by
  refine CallR_intro (args := [(.pointer d), (.slice names names_n names_c)]) Tryd.func38 rfl (Nat.le_of_ble_eq_true (by kernel_rfl)) ?_
  refine Wp_glue disk_Disk_Sync_p0 (fun s w => disk_Disk_Sync_b3 s.1 s.2.1 s.2.2.1 s.2.2.2 R w) [_, _] (Q0 := fun e _ r w => match e with | .normal => disk_Disk_Sync_p0.dec r (fun s => disk_Disk_Sync_b3 s.1 s.2.1 s.2.2.1 s.2.2.2 R w) | .exit _ => False | .ret => retQ Tryd.prog Tryd.f38.results R .ret [] r w | _ => False) h (by kernel_rfl) (fun s r w h => ?_) disk_Disk_Sync_p0_ok (fun _ _ _ h => h) ?_
  · obtain ⟨d1, names1, names_n1, names_c1⟩ := s
    have h : disk_Disk_Sync_b3 d1 names1 names_n1 names_c1 R w := h
    refine Wp_seq_via disk_Disk_Sync_p1 (fun _ w => disk_Disk_Sync_b0 R w) (fun s r w h => ?_) (fun hN1 => ?_)
    · cases s
      have h : disk_Disk_Sync_b0 R w := h
      refine Wp_leaf_end (Q0 := fun e _ r w => match e with | .normal => retQ Tryd.prog Tryd.f38.results R .normal [] r w | .exit _ => False | .ret => retQ Tryd.prog Tryd.f38.results R .ret [] r w | _ => False) h (by kernel_rfl) ?_
      intro e _ r w h
      cases e with
      | normal => exact h
      | exit i => exact h.elim
      | ret => exact h
      | goto i => exact h.elim
      | panic c => exact h.elim
      | outgrown => exact h.elim
    · refine Wp_glue disk_Disk_Sync_p2 (fun s w => disk_Disk_Sync_b2 s.1 s.2.1 s.2.2.1 s.2.2.2.1 s.2.2.2.2.1 s.2.2.2.2.2 R w) [_] (Q0 := fun e _ r w => match e with | .normal => disk_Disk_Sync_p2.dec r (fun s => disk_Disk_Sync_b2 s.1 s.2.1 s.2.2.1 s.2.2.2.1 s.2.2.2.2.1 s.2.2.2.2.2 R w) | .exit _ => False | .ret => retQ Tryd.prog Tryd.f38.results R .ret [] r w | _ => False) h (by kernel_rfl) (fun s r w h => ?_) disk_Disk_Sync_p2_ok (fun _ _ _ h => h) ?_
      · obtain ⟨d2, t11, t11_n, t11_c, t12, t13⟩ := s
        have h : disk_Disk_Sync_b2 d2 t11 t11_n t11_c t12 t13 R w := h
        refine Wp_block_via disk_Disk_Sync_p1 (fun _ w => disk_Disk_Sync_b0 R w) hN1 (fun hX2 => ?_)
        refine Wp_loop (p := disk_Disk_Sync_p2) disk_Disk_Sync_p2_ok (fun s r w K0 h => ?_) h
        obtain ⟨d3, t111, t11_n1, t11_c1, t121, t131⟩ := s
        have h : disk_Disk_Sync_b1 d3 t111 t11_n1 t11_c1 t121 t131 K0 R w := h
        have hK3 := fun (s : (Option Addr) × (Option Addr) × Nat × Nat × Int × Int) (r : Regs) (w : World) (h : K0 s w) => disk_Disk_Sync_p2_re s r (fun s => K0 s w) h
        refine Wp_leaf_end (Q0 := fun e _ r w => match e with | .normal => disk_Disk_Sync_p2.dec r (fun s => K0 s w) | .exit i => exitQ i 0 (disk_Disk_Sync_p1.dec r (fun _ => disk_Disk_Sync_b0 R w)) (False) | .ret => retQ Tryd.prog Tryd.f38.results R .ret [] r w | _ => False) h (by kernel_rfl) ?_
        intro e _ r w h
        cases e with
        | normal =>
          obtain ⟨s, hs, h⟩ := disk_Disk_Sync_p2_ok _ _ h
          rw [← hs]
          exact hK3 s r w h
        | exit i =>
          rcases exitQ_elim h with ⟨rfl, h⟩ | ⟨_, h⟩
          · obtain ⟨s, hs, h⟩ := disk_Disk_Sync_p1_ok _ _ h
            rw [← hs]
            exact hX2 s r w h
          exact h.elim
        | ret => exact h
        | goto i => exact h.elim
        | panic c => exact h.elim
        | outgrown => exact h.elim
      · intro e _ r w hne h
        cases e with
        | normal => exact absurd rfl hne
        | exit i => exact h.elim
        | ret => exact h
        | goto i => exact h.elim
        | panic c => exact h.elim
        | outgrown => exact h.elim
  · intro e _ r w hne h
    cases e with
    | normal => exact absurd rfl hne
    | exit i => exact h.elim
    | ret => exact h
    | goto i => exact h.elim
    | panic c => exact h.elim
    | outgrown => exact h.elim

/- (*glacier/disk.Disk).Append -/
def disk_Disk_Append_b0 (d8 : Option Addr) (n7 : Int) (R : Value → World → Prop) (w : World) : Prop :=
  NN d8 fun p7 =>
  LDI .i64 w (Addr.add p7 1) fun v10 =>
  NN d8 fun p8 =>
  ST w (Addr.add p8 1) (.int .i64 (IntKind.wrap .i64 (v10 + n7))) fun w_7 =>
  R (.int .i64 0) w_7

def disk_Disk_Append_b1 (d7 : Option Addr) (n6 : Int) (f2 : Option Addr) (t561 : Option Addr) (t56_n1 : Nat) (t56_c1 : Nat) (t571 : Int) (t581 : Int) (K0 : ((Option Addr) × Int × (Option Addr) × (Option Addr) × Nat × Nat × Int × Int) → World → Prop) (R : Value → World → Prop) (w : World) : Prop :=
  Br (decide (t581 < t571)) (
  IX t561 t56_n1 t581 1 fun a1 =>
  LDSl w a1 fun v7 v_n1 v_c1 =>
  NN f2 fun p5 =>
  LDSl w p5 fun v8 v_n2 v_c2 =>
  rRun Tryd.prog (Builtin.append_ #[41, 41] 41 #[(.slice v8 v_n2 v_c2), (.slice v7 v_n1 v_c1)]) w fun sr w_5 =>
  mSlice sr fun v9 v_n3 v_c3 =>
  NN f2 fun p6 =>
  ST w_5 p6 (.slice v9 v_n3 v_c3) fun w_6 =>
  K0 (d7, n6, f2, t561, t56_n1, t56_c1, t571, IntKind.wrap .i64 (t581 + 1)) w_6) (
  disk_Disk_Append_b0 d7 n6 R w)

def disk_Disk_Append_b2 (d6 : Option Addr) (n5 : Int) (f1 : Option Addr) (t56 : Option Addr) (t56_n : Nat) (t56_c : Nat) (t57 : Int) (t58 : Int) (R : Value → World → Prop) (w : World) : Prop :=
  LoopS (σ := (Option Addr) × Int × (Option Addr) × (Option Addr) × Nat × Nat × Int × Int) (fun s w K0 =>
  disk_Disk_Append_b1 s.1 s.2.1 s.2.2.1 s.2.2.2.1 s.2.2.2.2.1 s.2.2.2.2.2.1 s.2.2.2.2.2.2.1 s.2.2.2.2.2.2.2 K0 R w) (d6, n5, f1, t56, t56_n, t56_c, t57, t58) w

def disk_Disk_Append_b3 (d5 : Option Addr) (parts5 : Option Addr) (parts_n5 : Nat) (parts_c5 : Nat) (n4 : Int) (f : Option Addr) (R : Value → World → Prop) (w : World) : Prop :=
  disk_Disk_Append_b2 d5 n4 f parts5 parts_n5 parts_c5 (parts_n5 : Int) 0 R w

def disk_Disk_Append_b4 (d4 : Option Addr) (name4 : ByteArray) (parts4 : Option Addr) (parts_n4 : Nat) (parts_c4 : Nat) (n3 : Int) (R : Value → World → Prop) (w : World) : Prop :=
  CallR Tryd.prog fn_disk_Name #[(.string name4)] w fun res w_ =>
  mBool res fun v1 =>
  Br (!v1) (
  R (.int .i64 1) w_) (
  LetW (World.drew w_) fun w_1 =>
  NN d4 fun p =>
  LDI .i64 w_1 (Addr.add p 1) fun v2 =>
  NN d4 fun p1 =>
  LDI .i64 w_1 p1 fun v3 =>
  Br (decide ((IntKind.wrap .i64 (v2 + n3)) > v3)) (
  R (.int .i64 5) w_1) (
  NN d4 fun p2 =>
  LDM w_1 (Addr.add p2 3) fun v4 =>
  rRun Tryd.prog (Instr.lookup 73 (.map v4) (.string name4) false) w_1 fun vr w_2 =>
  mPtr vr fun v5 =>
  Br (Option.isNone v5) (
  AL w_2 (.cells #[(.slice none 0 0), (.int .i64 0)] 90) fun p3 w_3 =>
  NN d4 fun p4 =>
  LDM w_3 (Addr.add p4 3) fun v6 =>
  rRun Tryd.prog (Instr.mapUpdate 73 (.map v6) (.string name4) (.pointer (some p3))) w_3 fun _ w_4 =>
  disk_Disk_Append_b3 d4 parts4 parts_n4 parts_c4 n3 (some p3) R w_4) (
  disk_Disk_Append_b3 d4 parts4 parts_n4 parts_c4 n3 v5 R w_2)))

def disk_Disk_Append_b5 (d3 : Option Addr) (name3 : ByteArray) (parts3 : Option Addr) (parts_n3 : Nat) (parts_c3 : Nat) (n2 : Int) (t131 : Option Addr) (t13_n1 : Nat) (t13_c1 : Nat) (t141 : Int) (t151 : Int) (K0 : ((Option Addr) × ByteArray × (Option Addr) × Nat × Nat × Int × (Option Addr) × Nat × Nat × Int × Int) → World → Prop) (R : Value → World → Prop) (w : World) : Prop :=
  Br (decide (t151 < t141)) (
  IX t131 t13_n1 t151 1 fun a =>
  LDSl w a fun _ v_n _ =>
  K0 (d3, name3, parts3, parts_n3, parts_c3, IntKind.wrap .i64 (n2 + (v_n : Int)), t131, t13_n1, t13_c1, t141, IntKind.wrap .i64 (t151 + 1)) w) (
  disk_Disk_Append_b4 d3 name3 parts3 parts_n3 parts_c3 n2 R w)

def disk_Disk_Append_b6 (d2 : Option Addr) (name2 : ByteArray) (parts2 : Option Addr) (parts_n2 : Nat) (parts_c2 : Nat) (n1 : Int) (t13 : Option Addr) (t13_n : Nat) (t13_c : Nat) (t14 : Int) (t15 : Int) (R : Value → World → Prop) (w : World) : Prop :=
  LoopS (σ := (Option Addr) × ByteArray × (Option Addr) × Nat × Nat × Int × (Option Addr) × Nat × Nat × Int × Int) (fun s w K0 =>
  disk_Disk_Append_b5 s.1 s.2.1 s.2.2.1 s.2.2.2.1 s.2.2.2.2.1 s.2.2.2.2.2.1 s.2.2.2.2.2.2.1 s.2.2.2.2.2.2.2.1 s.2.2.2.2.2.2.2.2.1 s.2.2.2.2.2.2.2.2.2.1 s.2.2.2.2.2.2.2.2.2.2 K0 R w) (d2, name2, parts2, parts_n2, parts_c2, n1, t13, t13_n, t13_c, t14, t15) w

def disk_Disk_Append_b7 (d1 : Option Addr) (name1 : ByteArray) (parts1 : Option Addr) (parts_n1 : Nat) (parts_c1 : Nat) (n : Int) (R : Value → World → Prop) (w : World) : Prop :=
  disk_Disk_Append_b6 d1 name1 parts1 parts_n1 parts_c1 n parts1 parts_n1 parts_c1 (parts_n1 : Int) 0 R w

def disk_Disk_Append_b8 (d : Option Addr) (name : ByteArray) (parts : Option Addr) (parts_n : Nat) (parts_c : Nat) (R : Value → World → Prop) (w : World) : Prop :=
  disk_Disk_Append_b7 d name parts parts_n parts_c 0 R w

def disk_Disk_Append_p0 : Point ((Option Addr) × ByteArray × (Option Addr) × Nat × Nat × Int) := { slots := fun s => [(0, (.pointer s.1)), (1, (.string s.2.1)), (2, (.slice s.2.2.1 s.2.2.2.1 s.2.2.2.2.1)), (7, (.int .i64 s.2.2.2.2.2))], dec := fun r K => mPtr (r 0) fun x => mStr (r 1) fun x1 => mSlice (r 2) fun x2 x3 x4 => mInt .i64 (r 7) fun x5 => K (x, x1, x2, x3, x4, x5) }
theorem disk_Disk_Append_p0_ok : disk_Disk_Append_p0.ok := by
  intro r K h
  unfold disk_Disk_Append_p0 at h
  obtain ⟨x, e0, h⟩ := mPtr_elim h
  obtain ⟨x1, e1, h⟩ := mStr_elim h
  obtain ⟨x2, x3, x4, e2, h⟩ := mSlice_elim h
  obtain ⟨x5, e3, h⟩ := mInt_elim h
  exact ⟨(x, x1, x2, x3, x4, x5), regsOf_self (L := [(0, (.pointer x)), (1, (.string x1)), (2, (.slice x2 x3 x4)), (7, (.int .i64 x5))]) (List.forall_mem_cons.2 ⟨e0, List.forall_mem_cons.2 ⟨e1, List.forall_mem_cons.2 ⟨e2, List.forall_mem_cons.2 ⟨e3, List.forall_mem_nil _⟩⟩⟩⟩), h⟩
theorem disk_Disk_Append_p0_re (s : (Option Addr) × ByteArray × (Option Addr) × Nat × Nat × Int) (r : Regs) (K : ((Option Addr) × ByteArray × (Option Addr) × Nat × Nat × Int) → Prop) (h : K s) : disk_Disk_Append_p0.dec (regsOf (disk_Disk_Append_p0.slots s) r) K := by
  obtain ⟨x6, x7, x8, x9, x10, x11⟩ := s
  exact cast (show K (x6, x7, x8, x9, x10, x11) = disk_Disk_Append_p0.dec (regsOf (disk_Disk_Append_p0.slots (x6, x7, x8, x9, x10, x11)) r) K by kernel_rfl) h

def disk_Disk_Append_p1 : Point ((Option Addr) × ByteArray × (Option Addr) × Nat × Nat × Int) := { slots := fun s => [(0, (.pointer s.1)), (1, (.string s.2.1)), (2, (.slice s.2.2.1 s.2.2.2.1 s.2.2.2.2.1)), (7, (.int .i64 s.2.2.2.2.2))], dec := fun r K => mPtr (r 0) fun x => mStr (r 1) fun x1 => mSlice (r 2) fun x2 x3 x4 => mInt .i64 (r 7) fun x5 => K (x, x1, x2, x3, x4, x5) }
theorem disk_Disk_Append_p1_ok : disk_Disk_Append_p1.ok := by
  intro r K h
  unfold disk_Disk_Append_p1 at h
  obtain ⟨x, e0, h⟩ := mPtr_elim h
  obtain ⟨x1, e1, h⟩ := mStr_elim h
  obtain ⟨x2, x3, x4, e2, h⟩ := mSlice_elim h
  obtain ⟨x5, e3, h⟩ := mInt_elim h
  exact ⟨(x, x1, x2, x3, x4, x5), regsOf_self (L := [(0, (.pointer x)), (1, (.string x1)), (2, (.slice x2 x3 x4)), (7, (.int .i64 x5))]) (List.forall_mem_cons.2 ⟨e0, List.forall_mem_cons.2 ⟨e1, List.forall_mem_cons.2 ⟨e2, List.forall_mem_cons.2 ⟨e3, List.forall_mem_nil _⟩⟩⟩⟩), h⟩
theorem disk_Disk_Append_p1_re (s : (Option Addr) × ByteArray × (Option Addr) × Nat × Nat × Int) (r : Regs) (K : ((Option Addr) × ByteArray × (Option Addr) × Nat × Nat × Int) → Prop) (h : K s) : disk_Disk_Append_p1.dec (regsOf (disk_Disk_Append_p1.slots s) r) K := by
  obtain ⟨x6, x7, x8, x9, x10, x11⟩ := s
  exact cast (show K (x6, x7, x8, x9, x10, x11) = disk_Disk_Append_p1.dec (regsOf (disk_Disk_Append_p1.slots (x6, x7, x8, x9, x10, x11)) r) K by kernel_rfl) h

def disk_Disk_Append_p2 : Point ((Option Addr) × (Option Addr) × Nat × Nat × Int × (Option Addr)) := { slots := fun s => [(0, (.pointer s.1)), (2, (.slice s.2.1 s.2.2.1 s.2.2.2.1)), (7, (.int .i64 s.2.2.2.2.1)), (10, (.pointer s.2.2.2.2.2))], dec := fun r K => mPtr (r 0) fun x => mSlice (r 2) fun x1 x2 x3 => mInt .i64 (r 7) fun x4 => mPtr (r 10) fun x5 => K (x, x1, x2, x3, x4, x5) }
theorem disk_Disk_Append_p2_ok : disk_Disk_Append_p2.ok := by
  intro r K h
  unfold disk_Disk_Append_p2 at h
  obtain ⟨x, e0, h⟩ := mPtr_elim h
  obtain ⟨x1, x2, x3, e1, h⟩ := mSlice_elim h
  obtain ⟨x4, e2, h⟩ := mInt_elim h
  obtain ⟨x5, e3, h⟩ := mPtr_elim h
  exact ⟨(x, x1, x2, x3, x4, x5), regsOf_self (L := [(0, (.pointer x)), (2, (.slice x1 x2 x3)), (7, (.int .i64 x4)), (10, (.pointer x5))]) (List.forall_mem_cons.2 ⟨e0, List.forall_mem_cons.2 ⟨e1, List.forall_mem_cons.2 ⟨e2, List.forall_mem_cons.2 ⟨e3, List.forall_mem_nil _⟩⟩⟩⟩), h⟩
theorem disk_Disk_Append_p2_re (s : (Option Addr) × (Option Addr) × Nat × Nat × Int × (Option Addr)) (r : Regs) (K : ((Option Addr) × (Option Addr) × Nat × Nat × Int × (Option Addr)) → Prop) (h : K s) : disk_Disk_Append_p2.dec (regsOf (disk_Disk_Append_p2.slots s) r) K := by
  obtain ⟨x6, x7, x8, x9, x10, x11⟩ := s
  exact cast (show K (x6, x7, x8, x9, x10, x11) = disk_Disk_Append_p2.dec (regsOf (disk_Disk_Append_p2.slots (x6, x7, x8, x9, x10, x11)) r) K by kernel_rfl) h

def disk_Disk_Append_p3 : Point ((Option Addr) × Int) := { slots := fun s => [(0, (.pointer s.1)), (7, (.int .i64 s.2))], dec := fun r K => mPtr (r 0) fun x => mInt .i64 (r 7) fun x1 => K (x, x1) }
theorem disk_Disk_Append_p3_ok : disk_Disk_Append_p3.ok := by
  intro r K h
  unfold disk_Disk_Append_p3 at h
  obtain ⟨x, e0, h⟩ := mPtr_elim h
  obtain ⟨x1, e1, h⟩ := mInt_elim h
  exact ⟨(x, x1), regsOf_self (L := [(0, (.pointer x)), (7, (.int .i64 x1))]) (List.forall_mem_cons.2 ⟨e0, List.forall_mem_cons.2 ⟨e1, List.forall_mem_nil _⟩⟩), h⟩
theorem disk_Disk_Append_p3_re (s : (Option Addr) × Int) (r : Regs) (K : ((Option Addr) × Int) → Prop) (h : K s) : disk_Disk_Append_p3.dec (regsOf (disk_Disk_Append_p3.slots s) r) K := by
  obtain ⟨x2, x3⟩ := s
  exact cast (show K (x2, x3) = disk_Disk_Append_p3.dec (regsOf (disk_Disk_Append_p3.slots (x2, x3)) r) K by kernel_rfl) h

def disk_Disk_Append_p4 : Point ((Option Addr) × Int × (Option Addr) × (Option Addr) × Nat × Nat × Int × Int) := { slots := fun s => [(0, (.pointer s.1)), (7, (.int .i64 s.2.1)), (10, (.pointer s.2.2.1)), (56, (.slice s.2.2.2.1 s.2.2.2.2.1 s.2.2.2.2.2.1)), (57, (.int .i64 s.2.2.2.2.2.2.1)), (58, (.int .i64 s.2.2.2.2.2.2.2))], dec := fun r K => mPtr (r 0) fun x => mInt .i64 (r 7) fun x1 => mPtr (r 10) fun x2 => mSlice (r 56) fun x3 x4 x5 => mInt .i64 (r 57) fun x6 => mInt .i64 (r 58) fun x7 => K (x, x1, x2, x3, x4, x5, x6, x7) }
theorem disk_Disk_Append_p4_ok : disk_Disk_Append_p4.ok := by
  intro r K h
  unfold disk_Disk_Append_p4 at h
  obtain ⟨x, e0, h⟩ := mPtr_elim h
  obtain ⟨x1, e1, h⟩ := mInt_elim h
  obtain ⟨x2, e2, h⟩ := mPtr_elim h
  obtain ⟨x3, x4, x5, e3, h⟩ := mSlice_elim h
  obtain ⟨x6, e4, h⟩ := mInt_elim h
  obtain ⟨x7, e5, h⟩ := mInt_elim h
  exact ⟨(x, x1, x2, x3, x4, x5, x6, x7), regsOf_self (L := [(0, (.pointer x)), (7, (.int .i64 x1)), (10, (.pointer x2)), (56, (.slice x3 x4 x5)), (57, (.int .i64 x6)), (58, (.int .i64 x7))]) (List.forall_mem_cons.2 ⟨e0, List.forall_mem_cons.2 ⟨e1, List.forall_mem_cons.2 ⟨e2, List.forall_mem_cons.2 ⟨e3, List.forall_mem_cons.2 ⟨e4, List.forall_mem_cons.2 ⟨e5, List.forall_mem_nil _⟩⟩⟩⟩⟩⟩), h⟩
theorem disk_Disk_Append_p4_re (s : (Option Addr) × Int × (Option Addr) × (Option Addr) × Nat × Nat × Int × Int) (r : Regs) (K : ((Option Addr) × Int × (Option Addr) × (Option Addr) × Nat × Nat × Int × Int) → Prop) (h : K s) : disk_Disk_Append_p4.dec (regsOf (disk_Disk_Append_p4.slots s) r) K := by
  obtain ⟨x8, x9, x10, x11, x12, x13, x14, x15⟩ := s
  exact cast (show K (x8, x9, x10, x11, x12, x13, x14, x15) = disk_Disk_Append_p4.dec (regsOf (disk_Disk_Append_p4.slots (x8, x9, x10, x11, x12, x13, x14, x15)) r) K by kernel_rfl) h

def disk_Disk_Append_p5 : Point ((Option Addr) × ByteArray × (Option Addr) × Nat × Nat × Int × (Option Addr) × Nat × Nat × Int × Int) := { slots := fun s => [(0, (.pointer s.1)), (1, (.string s.2.1)), (2, (.slice s.2.2.1 s.2.2.2.1 s.2.2.2.2.1)), (7, (.int .i64 s.2.2.2.2.2.1)), (13, (.slice s.2.2.2.2.2.2.1 s.2.2.2.2.2.2.2.1 s.2.2.2.2.2.2.2.2.1)), (14, (.int .i64 s.2.2.2.2.2.2.2.2.2.1)), (15, (.int .i64 s.2.2.2.2.2.2.2.2.2.2))], dec := fun r K => mPtr (r 0) fun x => mStr (r 1) fun x1 => mSlice (r 2) fun x2 x3 x4 => mInt .i64 (r 7) fun x5 => mSlice (r 13) fun x6 x7 x8 => mInt .i64 (r 14) fun x9 => mInt .i64 (r 15) fun x10 => K (x, x1, x2, x3, x4, x5, x6, x7, x8, x9, x10) }
theorem disk_Disk_Append_p5_ok : disk_Disk_Append_p5.ok := by
  intro r K h
  unfold disk_Disk_Append_p5 at h
  obtain ⟨x, e0, h⟩ := mPtr_elim h
  obtain ⟨x1, e1, h⟩ := mStr_elim h
  obtain ⟨x2, x3, x4, e2, h⟩ := mSlice_elim h
  obtain ⟨x5, e3, h⟩ := mInt_elim h
  obtain ⟨x6, x7, x8, e4, h⟩ := mSlice_elim h
  obtain ⟨x9, e5, h⟩ := mInt_elim h
  obtain ⟨x10, e6, h⟩ := mInt_elim h
  exact ⟨(x, x1, x2, x3, x4, x5, x6, x7, x8, x9, x10), regsOf_self (L := [(0, (.pointer x)), (1, (.string x1)), (2, (.slice x2 x3 x4)), (7, (.int .i64 x5)), (13, (.slice x6 x7 x8)), (14, (.int .i64 x9)), (15, (.int .i64 x10))]) (List.forall_mem_cons.2 ⟨e0, List.forall_mem_cons.2 ⟨e1, List.forall_mem_cons.2 ⟨e2, List.forall_mem_cons.2 ⟨e3, List.forall_mem_cons.2 ⟨e4, List.forall_mem_cons.2 ⟨e5, List.forall_mem_cons.2 ⟨e6, List.forall_mem_nil _⟩⟩⟩⟩⟩⟩⟩), h⟩
theorem disk_Disk_Append_p5_re (s : (Option Addr) × ByteArray × (Option Addr) × Nat × Nat × Int × (Option Addr) × Nat × Nat × Int × Int) (r : Regs) (K : ((Option Addr) × ByteArray × (Option Addr) × Nat × Nat × Int × (Option Addr) × Nat × Nat × Int × Int) → Prop) (h : K s) : disk_Disk_Append_p5.dec (regsOf (disk_Disk_Append_p5.slots s) r) K := by
  obtain ⟨x11, x12, x13, x14, x15, x16, x17, x18, x19, x20, x21⟩ := s
  exact cast (show K (x11, x12, x13, x14, x15, x16, x17, x18, x19, x20, x21) = disk_Disk_Append_p5.dec (regsOf (disk_Disk_Append_p5.slots (x11, x12, x13, x14, x15, x16, x17, x18, x19, x20, x21)) r) K by kernel_rfl) h

set_option maxRecDepth 100000 in
theorem disk_Disk_Append_sound (d : Option Addr) (name : ByteArray) (parts : Option Addr) (parts_n : Nat) (parts_c : Nat) (R : Value → World → Prop) (w : World) (h : disk_Disk_Append_b8 d name parts parts_n parts_c R w) :
    CallR Tryd.prog fn_disk_Disk_Append #[(.pointer d), (.string name), (.slice parts parts_n parts_c)] w R := by
  refine CallR_intro (args := [(.pointer d), (.string name), (.slice parts parts_n parts_c)]) Tryd.func39 rfl (Nat.le_of_ble_eq_true (by kernel_rfl)) ?_
  refine Wp_glue disk_Disk_Append_p0 (fun s w => disk_Disk_Append_b7 s.1 s.2.1 s.2.2.1 s.2.2.2.1 s.2.2.2.2.1 s.2.2.2.2.2 R w) [_, _] (Q0 := fun e _ r w => match e with | .normal => disk_Disk_Append_p0.dec r (fun s => disk_Disk_Append_b7 s.1 s.2.1 s.2.2.1 s.2.2.2.1 s.2.2.2.2.1 s.2.2.2.2.2 R w) | .exit _ => False | .ret => retQ Tryd.prog Tryd.f39.results R .ret [] r w | _ => False) h (by kernel_rfl) (fun s r w h => ?_) disk_Disk_Append_p0_ok (fun _ _ _ h => h) ?_
  · obtain ⟨d1, name1, parts1, parts_n1, parts_c1, n⟩ := s
    have h : disk_Disk_Append_b7 d1 name1 parts1 parts_n1 parts_c1 n R w := h
    refine Wp_seq_via disk_Disk_Append_p1 (fun s w => disk_Disk_Append_b4 s.1 s.2.1 s.2.2.1 s.2.2.2.1 s.2.2.2.2.1 s.2.2.2.2.2 R w) (fun s r w h => ?_) (fun hN1 => ?_)
    · obtain ⟨d4, name4, parts4, parts_n4, parts_c4, n3⟩ := s
      have h : disk_Disk_Append_b4 d4 name4 parts4 parts_n4 parts_c4 n3 R w := h
      refine Wp_glue disk_Disk_Append_p2 (fun s w => disk_Disk_Append_b3 s.1 s.2.1 s.2.2.1 s.2.2.2.1 s.2.2.2.2.1 s.2.2.2.2.2 R w) [_, _, _] (Q0 := fun e _ r w => match e with | .normal => disk_Disk_Append_p2.dec r (fun s => disk_Disk_Append_b3 s.1 s.2.1 s.2.2.1 s.2.2.2.1 s.2.2.2.2.1 s.2.2.2.2.2 R w) | .exit _ => False | .ret => retQ Tryd.prog Tryd.f39.results R .ret [] r w | _ => False) h (by kernel_rfl) (fun s r w h => ?_) disk_Disk_Append_p2_ok (fun _ _ _ h => h) ?_
      · obtain ⟨d5, parts5, parts_n5, parts_c5, n4, f⟩ := s
        have h : disk_Disk_Append_b3 d5 parts5 parts_n5 parts_c5 n4 f R w := h
        refine Wp_seq_via disk_Disk_Append_p3 (fun s w => disk_Disk_Append_b0 s.1 s.2 R w) (fun s r w h => ?_) (fun hN2 => ?_)
        · obtain ⟨d8, n7⟩ := s
          have h : disk_Disk_Append_b0 d8 n7 R w := h
          refine Wp_leaf_end (Q0 := fun e _ r w => match e with | .normal => retQ Tryd.prog Tryd.f39.results R .normal [] r w | .exit _ => False | .ret => retQ Tryd.prog Tryd.f39.results R .ret [] r w | _ => False) h (by kernel_rfl) ?_
          intro e _ r w h
          cases e with
          | normal => exact h
          | exit i => exact h.elim
          | ret => exact h
          | goto i => exact h.elim
          | panic c => exact h.elim
          | outgrown => exact h.elim
        · refine Wp_glue disk_Disk_Append_p4 (fun s w => disk_Disk_Append_b2 s.1 s.2.1 s.2.2.1 s.2.2.2.1 s.2.2.2.2.1 s.2.2.2.2.2.1 s.2.2.2.2.2.2.1 s.2.2.2.2.2.2.2 R w) [_] (Q0 := fun e _ r w => match e with | .normal => disk_Disk_Append_p4.dec r (fun s => disk_Disk_Append_b2 s.1 s.2.1 s.2.2.1 s.2.2.2.1 s.2.2.2.2.1 s.2.2.2.2.2.1 s.2.2.2.2.2.2.1 s.2.2.2.2.2.2.2 R w) | .exit _ => False | .ret => retQ Tryd.prog Tryd.f39.results R .ret [] r w | _ => False) h (by kernel_rfl) (fun s r w h => ?_) disk_Disk_Append_p4_ok (fun _ _ _ h => h) ?_
          · obtain ⟨d6, n5, f1, t56, t56_n, t56_c, t57, t58⟩ := s
            have h : disk_Disk_Append_b2 d6 n5 f1 t56 t56_n t56_c t57 t58 R w := h
            refine Wp_block_via disk_Disk_Append_p3 (fun s w => disk_Disk_Append_b0 s.1 s.2 R w) hN2 (fun hX3 => ?_)
            refine Wp_loop (p := disk_Disk_Append_p4) disk_Disk_Append_p4_ok (fun s r w K0 h => ?_) h
            obtain ⟨d7, n6, f2, t561, t56_n1, t56_c1, t571, t581⟩ := s
            have h : disk_Disk_Append_b1 d7 n6 f2 t561 t56_n1 t56_c1 t571 t581 K0 R w := h
            have hK4 := fun (s : (Option Addr) × Int × (Option Addr) × (Option Addr) × Nat × Nat × Int × Int) (r : Regs) (w : World) (h : K0 s w) => disk_Disk_Append_p4_re s r (fun s => K0 s w) h
            refine Wp_leaf_end (Q0 := fun e _ r w => match e with | .normal => disk_Disk_Append_p4.dec r (fun s => K0 s w) | .exit i => exitQ i 3 (disk_Disk_Append_p3.dec r (fun s => disk_Disk_Append_b0 s.1 s.2 R w)) (False) | .ret => retQ Tryd.prog Tryd.f39.results R .ret [] r w | _ => False) h (by kernel_rfl) ?_
            intro e _ r w h
            cases e with
            | normal =>
              obtain ⟨s, hs, h⟩ := disk_Disk_Append_p4_ok _ _ h
              rw [← hs]
              exact hK4 s r w h
            | exit i =>
              rcases exitQ_elim h with ⟨rfl, h⟩ | ⟨_, h⟩
              · obtain ⟨s, hs, h⟩ := disk_Disk_Append_p3_ok _ _ h
                rw [← hs]
                exact hX3 s r w h
              exact h.elim
            | ret => exact h
            | goto i => exact h.elim
            | panic c => exact h.elim
            | outgrown => exact h.elim
          · intro e _ r w hne h
            cases e with
            | normal => exact absurd rfl hne
            | exit i => exact h.elim
            | ret => exact h
            | goto i => exact h.elim
            | panic c => exact h.elim
            | outgrown => exact h.elim
      · intro e _ r w hne h
        cases e with
        | normal => exact absurd rfl hne
        | exit i => exact h.elim
        | ret => exact h
        | goto i => exact h.elim
        | panic c => exact h.elim
        | outgrown => exact h.elim
    · refine Wp_glue disk_Disk_Append_p5 (fun s w => disk_Disk_Append_b6 s.1 s.2.1 s.2.2.1 s.2.2.2.1 s.2.2.2.2.1 s.2.2.2.2.2.1 s.2.2.2.2.2.2.1 s.2.2.2.2.2.2.2.1 s.2.2.2.2.2.2.2.2.1 s.2.2.2.2.2.2.2.2.2.1 s.2.2.2.2.2.2.2.2.2.2 R w) [_] (Q0 := fun e _ r w => match e with | .normal => disk_Disk_Append_p5.dec r (fun s => disk_Disk_Append_b6 s.1 s.2.1 s.2.2.1 s.2.2.2.1 s.2.2.2.2.1 s.2.2.2.2.2.1 s.2.2.2.2.2.2.1 s.2.2.2.2.2.2.2.1 s.2.2.2.2.2.2.2.2.1 s.2.2.2.2.2.2.2.2.2.1 s.2.2.2.2.2.2.2.2.2.2 R w) | .exit _ => False | .ret => retQ Tryd.prog Tryd.f39.results R .ret [] r w | _ => False) h (by kernel_rfl) (fun s r w h => ?_) disk_Disk_Append_p5_ok (fun _ _ _ h => h) ?_
      · obtain ⟨d2, name2, parts2, parts_n2, parts_c2, n1, t13, t13_n, t13_c, t14, t15⟩ := s
        have h : disk_Disk_Append_b6 d2 name2 parts2 parts_n2 parts_c2 n1 t13 t13_n t13_c t14 t15 R w := h
        refine Wp_block_via disk_Disk_Append_p1 (fun s w => disk_Disk_Append_b4 s.1 s.2.1 s.2.2.1 s.2.2.2.1 s.2.2.2.2.1 s.2.2.2.2.2 R w) hN1 (fun hX5 => ?_)
        refine Wp_loop (p := disk_Disk_Append_p5) disk_Disk_Append_p5_ok (fun s r w K0 h => ?_) h
        obtain ⟨d3, name3, parts3, parts_n3, parts_c3, n2, t131, t13_n1, t13_c1, t141, t151⟩ := s
        have h : disk_Disk_Append_b5 d3 name3 parts3 parts_n3 parts_c3 n2 t131 t13_n1 t13_c1 t141 t151 K0 R w := h
        have hK6 := fun (s : (Option Addr) × ByteArray × (Option Addr) × Nat × Nat × Int × (Option Addr) × Nat × Nat × Int × Int) (r : Regs) (w : World) (h : K0 s w) => disk_Disk_Append_p5_re s r (fun s => K0 s w) h
        refine Wp_leaf_end (Q0 := fun e _ r w => match e with | .normal => disk_Disk_Append_p5.dec r (fun s => K0 s w) | .exit i => exitQ i 0 (disk_Disk_Append_p1.dec r (fun s => disk_Disk_Append_b4 s.1 s.2.1 s.2.2.1 s.2.2.2.1 s.2.2.2.2.1 s.2.2.2.2.2 R w)) (False) | .ret => retQ Tryd.prog Tryd.f39.results R .ret [] r w | _ => False) h (by kernel_rfl) ?_
        intro e _ r w h
        cases e with
        | normal =>
          obtain ⟨s, hs, h⟩ := disk_Disk_Append_p5_ok _ _ h
          rw [← hs]
          exact hK6 s r w h
        | exit i =>
          rcases exitQ_elim h with ⟨rfl, h⟩ | ⟨_, h⟩
          · obtain ⟨s, hs, h⟩ := disk_Disk_Append_p1_ok _ _ h
            rw [← hs]
            exact hX5 s r w h
          exact h.elim
        | ret => exact h
        | goto i => exact h.elim
        | panic c => exact h.elim
        | outgrown => exact h.elim
      · intro e _ r w hne h
        cases e with
        | normal => exact absurd rfl hne
        | exit i => exact h.elim
        | ret => exact h
        | goto i => exact h.elim
        | panic c => exact h.elim
        | outgrown => exact h.elim
  · intro e _ r w hne h
    cases e with
    | normal => exact absurd rfl hne
    | exit i => exact h.elim
    | ret => exact h
    | goto i => exact h.elim
    | panic c => exact h.elim
    | outgrown => exact h.elim

/- (*glacier/disk.Disk).Delete -/
def disk_Disk_Delete_b0 (R : Value → World → Prop) (w : World) : Prop :=
  R (.int .i64 0) w

def disk_Disk_Delete_b1 (d3 : Option Addr) (t121 : Option Addr) (t12_n1 : Nat) (t12_c1 : Nat) (t131 : Int) (t141 : Int) (K0 : ((Option Addr) × (Option Addr) × Nat × Nat × Int × Int) → World → Prop) (R : Value → World → Prop) (w : World) : Prop :=
  Br (decide (t141 < t131)) (
  IX t121 t12_n1 t141 1 fun a =>
  LDS w a fun v1 =>
  NN d3 fun p =>
  LDM w (Addr.add p 3) fun v2 =>
  rRun Tryd.prog (Instr.lookup 73 (.map v2) (.string v1) false) w fun vr w_1 =>
  mPtr vr fun v3 =>
  Br (!(Option.isNone v3)) (
  LetW (World.drew w_1) fun w_2 =>
  NN d3 fun p1 =>
  LDI .i64 w_2 (Addr.add p1 1) fun v4 =>
  NN v3 fun p2 =>
  LDSl w_2 p2 fun _ v_n _ =>
  (w_2 = w_2 ∧ 
  NN d3 fun p3 =>
  ST w_2 (Addr.add p3 1) (.int .i64 (IntKind.wrap .i64 (v4 - (v_n : Int)))) fun w_3 =>
  NN d3 fun p4 =>
  LDM w_3 (Addr.add p4 3) fun v6 =>
  rRun Tryd.prog (Builtin.delete_ #[73, 9] 0 #[(.map v6), (.string v1)]) w_3 fun sr w_4 =>
  mTup sr fun l =>
  mNil l (
  K0 (d3, t121, t12_n1, t12_c1, t131, IntKind.wrap .i64 (t141 + 1)) w_4))) (
  K0 (d3, t121, t12_n1, t12_c1, t131, IntKind.wrap .i64 (t141 + 1)) w_1)) (
  disk_Disk_Delete_b0 R w)

def disk_Disk_Delete_b2 (d2 : Option Addr) (t12 : Option Addr) (t12_n : Nat) (t12_c : Nat) (t13 : Int) (t14 : Int) (R : Value → World → Prop) (w : World) : Prop :=
  LoopS (σ := (Option Addr) × (Option Addr) × Nat × Nat × Int × Int) (fun s w K0 =>
  disk_Disk_Delete_b1 s.1 s.2.1 s.2.2.1 s.2.2.2.1 s.2.2.2.2.1 s.2.2.2.2.2 K0 R w) (d2, t12, t12_n, t12_c, t13, t14) w

def disk_Disk_Delete_b3 (d1 : Option Addr) (names1 : Option Addr) (names_n1 : Nat) (names_c1 : Nat) (R : Value → World → Prop) (w : World) : Prop :=
  disk_Disk_Delete_b2 d1 names1 names_n1 names_c1 (names_n1 : Int) 0 R w

def disk_Disk_Delete_b4 (d : Option Addr) (names : Option Addr) (names_n : Nat) (names_c : Nat) (R : Value → World → Prop) (w : World) : Prop :=
  CallR Tryd.prog fn_disk_Disk_all #[(.pointer d), (.slice names names_n names_c)] w fun res w_ =>
  mBool res fun v =>
  Br (!v) (
  R (.int .i64 4) w_) (
  disk_Disk_Delete_b3 d names names_n names_c R w_)

def disk_Disk_Delete_p0 : Point ((Option Addr) × (Option Addr) × Nat × Nat) := { slots := fun s => [(0, (.pointer s.1)), (1, (.slice s.2.1 s.2.2.1 s.2.2.2))], dec := fun r K => mPtr (r 0) fun x => mSlice (r 1) fun x1 x2 x3 => K (x, x1, x2, x3) }
theorem disk_Disk_Delete_p0_ok : disk_Disk_Delete_p0.ok := by
  intro r K h
  unfold disk_Disk_Delete_p0 at h
  obtain ⟨x, e0, h⟩ := mPtr_elim h
  obtain ⟨x1, x2, x3, e1, h⟩ := mSlice_elim h
  exact ⟨(x, x1, x2, x3), regsOf_self (L := [(0, (.pointer x)), (1, (.slice x1 x2 x3))]) (List.forall_mem_cons.2 ⟨e0, List.forall_mem_cons.2 ⟨e1, List.forall_mem_nil _⟩⟩), h⟩
theorem disk_Disk_Delete_p0_re (s : (Option Addr) × (Option Addr) × Nat × Nat) (r : Regs) (K : ((Option Addr) × (Option Addr) × Nat × Nat) → Prop) (h : K s) : disk_Disk_Delete_p0.dec (regsOf (disk_Disk_Delete_p0.slots s) r) K := by
  obtain ⟨x4, x5, x6, x7⟩ := s
  exact cast (show K (x4, x5, x6, x7) = disk_Disk_Delete_p0.dec (regsOf (disk_Disk_Delete_p0.slots (x4, x5, x6, x7)) r) K by kernel_rfl) h

def disk_Disk_Delete_p1 : Point (Unit) := { slots := fun _ => [], dec := fun _ K => K () }
theorem disk_Disk_Delete_p1_ok : disk_Disk_Delete_p1.ok := by
  intro r K h
  unfold disk_Disk_Delete_p1 at h
  exact ⟨(), regsOf_self (L := []) (List.forall_mem_nil _), h⟩
theorem disk_Disk_Delete_p1_re (s : Unit) (r : Regs) (K : Unit → Prop) (h : K s) : disk_Disk_Delete_p1.dec (regsOf (disk_Disk_Delete_p1.slots s) r) K := by
  exact cast (show K () = disk_Disk_Delete_p1.dec (regsOf (disk_Disk_Delete_p1.slots ()) r) K by kernel_rfl) h

def disk_Disk_Delete_p2 : Point ((Option Addr) × (Option Addr) × Nat × Nat × Int × Int) := { slots := fun s => [(0, (.pointer s.1)), (12, (.slice s.2.1 s.2.2.1 s.2.2.2.1)), (13, (.int .i64 s.2.2.2.2.1)), (14, (.int .i64 s.2.2.2.2.2))], dec := fun r K => mPtr (r 0) fun x => mSlice (r 12) fun x1 x2 x3 => mInt .i64 (r 13) fun x4 => mInt .i64 (r 14) fun x5 => K (x, x1, x2, x3, x4, x5) }
theorem disk_Disk_Delete_p2_ok : disk_Disk_Delete_p2.ok := by
  intro r K h
  unfold disk_Disk_Delete_p2 at h
  obtain ⟨x, e0, h⟩ := mPtr_elim h
  obtain ⟨x1, x2, x3, e1, h⟩ := mSlice_elim h
  obtain ⟨x4, e2, h⟩ := mInt_elim h
  obtain ⟨x5, e3, h⟩ := mInt_elim h
  exact ⟨(x, x1, x2, x3, x4, x5), regsOf_self (L := [(0, (.pointer x)), (12, (.slice x1 x2 x3)), (13, (.int .i64 x4)), (14, (.int .i64 x5))]) (List.forall_mem_cons.2 ⟨e0, List.forall_mem_cons.2 ⟨e1, List.forall_mem_cons.2 ⟨e2, List.forall_mem_cons.2 ⟨e3, List.forall_mem_nil _⟩⟩⟩⟩), h⟩
theorem disk_Disk_Delete_p2_re (s : (Option Addr) × (Option Addr) × Nat × Nat × Int × Int) (r : Regs) (K : ((Option Addr) × (Option Addr) × Nat × Nat × Int × Int) → Prop) (h : K s) : disk_Disk_Delete_p2.dec (regsOf (disk_Disk_Delete_p2.slots s) r) K := by
  obtain ⟨x6, x7, x8, x9, x10, x11⟩ := s
  exact cast (show K (x6, x7, x8, x9, x10, x11) = disk_Disk_Delete_p2.dec (regsOf (disk_Disk_Delete_p2.slots (x6, x7, x8, x9, x10, x11)) r) K by kernel_rfl) h

set_option maxRecDepth 100000 in
theorem disk_Disk_Delete_sound (d : Option Addr) (names : Option Addr) (names_n : Nat) (names_c : Nat) (R : Value → World → Prop) (w : World) (h : disk_Disk_Delete_b4 d names names_n names_c R w) :
    CallR Tryd.prog fn_disk_Disk_Delete #[(.pointer d), (.slice names names_n names_c)] w R := by
  refine CallR_intro (args := [(.pointer d), (.slice names names_n names_c)]) Tryd.func41 rfl (Nat.le_of_ble_eq_true (by kernel_rfl)) ?_
  refine Wp_glue disk_Disk_Delete_p0 (fun s w => disk_Disk_Delete_b3 s.1 s.2.1 s.2.2.1 s.2.2.2 R w) [_, _] (Q0 := fun e _ r w => match e with | .normal => disk_Disk_Delete_p0.dec r (fun s => disk_Disk_Delete_b3 s.1 s.2.1 s.2.2.1 s.2.2.2 R w) | .exit _ => False | .ret => retQ Tryd.prog Tryd.f41.results R .ret [] r w | _ => False) h (by kernel_rfl) (fun s r w h => ?_) disk_Disk_Delete_p0_ok (fun _ _ _ h => h) ?_
  · obtain ⟨d1, names1, names_n1, names_c1⟩ := s
    have h : disk_Disk_Delete_b3 d1 names1 names_n1 names_c1 R w := h
    refine Wp_seq_via disk_Disk_Delete_p1 (fun _ w => disk_Disk_Delete_b0 R w) (fun s r w h => ?_) (fun hN1 => ?_)
    · cases s
      have h : disk_Disk_Delete_b0 R w := h
      refine Wp_leaf_end (Q0 := fun e _ r w => match e with | .normal => retQ Tryd.prog Tryd.f41.results R .normal [] r w | .exit _ => False | .ret => retQ Tryd.prog Tryd.f41.results R .ret [] r w | _ => False) h (by kernel_rfl) ?_
      intro e _ r w h
      cases e with
      | normal => exact h
      | exit i => exact h.elim
      | ret => exact h
      | goto i => exact h.elim
      | panic c => exact h.elim
      | outgrown => exact h.elim
    · refine Wp_glue disk_Disk_Delete_p2 (fun s w => disk_Disk_Delete_b2 s.1 s.2.1 s.2.2.1 s.2.2.2.1 s.2.2.2.2.1 s.2.2.2.2.2 R w) [_] (Q0 := fun e _ r w => match e with | .normal => disk_Disk_Delete_p2.dec r (fun s => disk_Disk_Delete_b2 s.1 s.2.1 s.2.2.1 s.2.2.2.1 s.2.2.2.2.1 s.2.2.2.2.2 R w) | .exit _ => False | .ret => retQ Tryd.prog Tryd.f41.results R .ret [] r w | _ => False) h (by kernel_rfl) (fun s r w h => ?_) disk_Disk_Delete_p2_ok (fun _ _ _ h => h) ?_
      · obtain ⟨d2, t12, t12_n, t12_c, t13, t14⟩ := s
        have h : disk_Disk_Delete_b2 d2 t12 t12_n t12_c t13 t14 R w := h
        refine Wp_block_via disk_Disk_Delete_p1 (fun _ w => disk_Disk_Delete_b0 R w) hN1 (fun hX2 => ?_)
        refine Wp_loop (p := disk_Disk_Delete_p2) disk_Disk_Delete_p2_ok (fun s r w K0 h => ?_) h
        obtain ⟨d3, t121, t12_n1, t12_c1, t131, t141⟩ := s
        have h : disk_Disk_Delete_b1 d3 t121 t12_n1 t12_c1 t131 t141 K0 R w := h
        have hK3 := fun (s : (Option Addr) × (Option Addr) × Nat × Nat × Int × Int) (r : Regs) (w : World) (h : K0 s w) => disk_Disk_Delete_p2_re s r (fun s => K0 s w) h
        refine Wp_leaf_end (Q0 := fun e _ r w => match e with | .normal => disk_Disk_Delete_p2.dec r (fun s => K0 s w) | .exit i => exitQ i 0 (disk_Disk_Delete_p1.dec r (fun _ => disk_Disk_Delete_b0 R w)) (False) | .ret => retQ Tryd.prog Tryd.f41.results R .ret [] r w | _ => False) h (by kernel_rfl) ?_
        intro e _ r w h
        cases e with
        | normal =>
          obtain ⟨s, hs, h⟩ := disk_Disk_Delete_p2_ok _ _ h
          rw [← hs]
          exact hK3 s r w h
        | exit i =>
          rcases exitQ_elim h with ⟨rfl, h⟩ | ⟨_, h⟩
          · obtain ⟨s, hs, h⟩ := disk_Disk_Delete_p1_ok _ _ h
            rw [← hs]
            exact hX2 s r w h
          exact h.elim
        | ret => exact h
        | goto i => exact h.elim
        | panic c => exact h.elim
        | outgrown => exact h.elim
      · intro e _ r w hne h
        cases e with
        | normal => exact absurd rfl hne
        | exit i => exact h.elim
        | ret => exact h
        | goto i => exact h.elim
        | panic c => exact h.elim
        | outgrown => exact h.elim
  · intro e _ r w hne h
    cases e with
    | normal => exact absurd rfl hne
    | exit i => exact h.elim
    | ret => exact h
    | goto i => exact h.elim
    | panic c => exact h.elim
    | outgrown => exact h.elim

/- (*glacier/disk.Disk).Rename -/
def disk_Disk_Rename_b0 (d1 : Option Addr) (from_1 : ByteArray) (to1 : ByteArray) (f : Option Addr) (R : Value → World → Prop) (w : World) : Prop :=
  NN d1 fun p5 =>
  LDM w (Addr.add p5 3) fun v7 =>
  rRun Tryd.prog (Instr.mapUpdate 73 (.map v7) (.string to1) (.pointer f)) w fun _ w_5 =>
  NN d1 fun p6 =>
  LDM w_5 (Addr.add p6 3) fun v8 =>
  rRun Tryd.prog (Builtin.delete_ #[73, 9] 0 #[(.map v8), (.string from_1)]) w_5 fun sr w_6 =>
  mTup sr fun l =>
  mNil l (
  R (.int .i64 0) w_6)

def disk_Disk_Rename_b1 (d : Option Addr) (from_ : ByteArray) (to : ByteArray) (R : Value → World → Prop) (w : World) : Prop :=
  NN d fun p =>
  LDM w (Addr.add p 3) fun v =>
  rRun Tryd.prog (Instr.lookup 73 (.map v) (.string from_) false) w fun vr w_ =>
  mPtr vr fun v1 =>
  Br (Option.isNone v1) (
  R (.int .i64 4) w_) (
  CallR Tryd.prog fn_disk_Name #[(.string to)] w_ fun res w_1 =>
  mBool res fun v2 =>
  Br (!v2) (
  R (.int .i64 1) w_1) (
  Br (ByteArray.toList from_ == ByteArray.toList to) (
  R (.int .i64 0) w_1) (
  NN d fun p1 =>
  LDM w_1 (Addr.add p1 3) fun v3 =>
  rRun Tryd.prog (Instr.lookup 73 (.map v3) (.string to) false) w_1 fun vr1 w_2 =>
  mPtr vr1 fun v4 =>
  Br (!(Option.isNone v4)) (
  LetW (World.drew w_2) fun w_3 =>
  NN d fun p2 =>
  LDI .i64 w_3 (Addr.add p2 1) fun v5 =>
  NN v4 fun p3 =>
  LDSl w_3 p3 fun _ v_n _ =>
  (w_3 = w_3 ∧ 
  NN d fun p4 =>
  ST w_3 (Addr.add p4 1) (.int .i64 (IntKind.wrap .i64 (v5 - (v_n : Int)))) fun w_4 =>
  disk_Disk_Rename_b0 d from_ to v1 R w_4)) (
  disk_Disk_Rename_b0 d from_ to v1 R w_2))))

def disk_Disk_Rename_p0 : Point ((Option Addr) × ByteArray × ByteArray × (Option Addr)) := { slots := fun s => [(0, (.pointer s.1)), (1, (.string s.2.1)), (2, (.string s.2.2.1)), (7, (.pointer s.2.2.2))], dec := fun r K => mPtr (r 0) fun x => mStr (r 1) fun x1 => mStr (r 2) fun x2 => mPtr (r 7) fun x3 => K (x, x1, x2, x3) }
theorem disk_Disk_Rename_p0_ok : disk_Disk_Rename_p0.ok := by
  intro r K h
  unfold disk_Disk_Rename_p0 at h
  obtain ⟨x, e0, h⟩ := mPtr_elim h
  obtain ⟨x1, e1, h⟩ := mStr_elim h
  obtain ⟨x2, e2, h⟩ := mStr_elim h
  obtain ⟨x3, e3, h⟩ := mPtr_elim h
  exact ⟨(x, x1, x2, x3), regsOf_self (L := [(0, (.pointer x)), (1, (.string x1)), (2, (.string x2)), (7, (.pointer x3))]) (List.forall_mem_cons.2 ⟨e0, List.forall_mem_cons.2 ⟨e1, List.forall_mem_cons.2 ⟨e2, List.forall_mem_cons.2 ⟨e3, List.forall_mem_nil _⟩⟩⟩⟩), h⟩
theorem disk_Disk_Rename_p0_re (s : (Option Addr) × ByteArray × ByteArray × (Option Addr)) (r : Regs) (K : ((Option Addr) × ByteArray × ByteArray × (Option Addr)) → Prop) (h : K s) : disk_Disk_Rename_p0.dec (regsOf (disk_Disk_Rename_p0.slots s) r) K := by
  obtain ⟨x4, x5, x6, x7⟩ := s
  exact cast (show K (x4, x5, x6, x7) = disk_Disk_Rename_p0.dec (regsOf (disk_Disk_Rename_p0.slots (x4, x5, x6, x7)) r) K by kernel_rfl) h

set_option maxRecDepth 100000 in
theorem disk_Disk_Rename_sound (d : Option Addr) (from_ : ByteArray) (to : ByteArray) (R : Value → World → Prop) (w : World) (h : disk_Disk_Rename_b1 d from_ to R w) :
    CallR Tryd.prog fn_disk_Disk_Rename #[(.pointer d), (.string from_), (.string to)] w R := by
  refine CallR_intro (args := [(.pointer d), (.string from_), (.string to)]) Tryd.func58 rfl (Nat.le_of_ble_eq_true (by kernel_rfl)) ?_
  refine Wp_glue disk_Disk_Rename_p0 (fun s w => disk_Disk_Rename_b0 s.1 s.2.1 s.2.2.1 s.2.2.2 R w) [_, _, _, _] (Q0 := fun e _ r w => match e with | .normal => disk_Disk_Rename_p0.dec r (fun s => disk_Disk_Rename_b0 s.1 s.2.1 s.2.2.1 s.2.2.2 R w) | .exit _ => False | .ret => retQ Tryd.prog Tryd.f58.results R .ret [] r w | _ => False) h (by kernel_rfl) (fun s r w h => ?_) disk_Disk_Rename_p0_ok (fun _ _ _ h => h) ?_
  · obtain ⟨d1, from_1, to1, f⟩ := s
    have h : disk_Disk_Rename_b0 d1 from_1 to1 f R w := h
    refine Wp_leaf_end (Q0 := fun e _ r w => match e with | .normal => retQ Tryd.prog Tryd.f58.results R .normal [] r w | .exit _ => False | .ret => retQ Tryd.prog Tryd.f58.results R .ret [] r w | _ => False) h (by kernel_rfl) ?_
    intro e _ r w h
    cases e with
    | normal => exact h
    | exit i => exact h.elim
    | ret => exact h
    | goto i => exact h.elim
    | panic c => exact h.elim
    | outgrown => exact h.elim
  · intro e _ r w hne h
    cases e with
    | normal => exact absurd rfl hne
    | exit i => exact h.elim
    | ret => exact h
    | goto i => exact h.elim
    | panic c => exact h.elim
    | outgrown => exact h.elim

/- (*glacier/disk.Disk).all -/
def disk_Disk_all_b0 (d : Option Addr) (names : Option Addr) (names_n : Nat) (names_c : Nat) (R : Value → World → Prop) (w : World) : Prop :=
  AL w (.cells #[(.pointer d)] 42) fun d1 w_ =>
  CallR Tryd.prog fn_slices_ContainsFunc_s_string_string #[(.slice names names_n names_c), (.func (.func fn_disk_Disk_all_1) #[] #[(.pointer (some d1))])] w_ fun res w_1 =>
  mBool res fun v =>
  R (.bool (!v)) w_1

set_option maxRecDepth 100000 in
theorem disk_Disk_all_sound (d : Option Addr) (names : Option Addr) (names_n : Nat) (names_c : Nat) (R : Value → World → Prop) (w : World) (h : disk_Disk_all_b0 d names names_n names_c R w) :
    CallR Tryd.prog fn_disk_Disk_all #[(.pointer d), (.slice names names_n names_c)] w R := by
  refine CallR_intro (args := [(.pointer d), (.slice names names_n names_c)]) Tryd.func59 rfl (Nat.le_of_ble_eq_true (by kernel_rfl)) ?_
  refine Wp_leaf_end (Q0 := fun e _ r w => match e with | .normal => retQ Tryd.prog Tryd.f59.results R .normal [] r w | .exit _ => False | .ret => retQ Tryd.prog Tryd.f59.results R .ret [] r w | _ => False) h (by kernel_rfl) ?_
  intro e _ r w h
  cases e with
  | normal => exact h
  | exit i => exact h.elim
  | ret => exact h
  | goto i => exact h.elim
  | panic c => exact h.elim
  | outgrown => exact h.elim

/- (*glacier/disk.Disk).all$1 -/
def disk_Disk_all_1_b0 (s : ByteArray) (cap : Addr) (R : Value → World → Prop) (w : World) : Prop :=
  LDP w cap fun v =>
  NN v fun p =>
  LDM w (Addr.add p 3) fun v1 =>
  rRun Tryd.prog (Instr.lookup 73 (.map v1) (.string s) false) w fun vr w_ =>
  mPtr vr fun v2 =>
  R (.bool (Option.isNone v2)) w_

set_option maxRecDepth 100000 in
theorem disk_Disk_all_1_sound (s : ByteArray) (cap : Addr) (R : Value → World → Prop) (w : World) (h : disk_Disk_all_1_b0 s cap R w) :
    CallR Tryd.prog fn_disk_Disk_all_1 #[(.string s), (.pointer (some cap))] w R := by
  refine CallR_intro (args := [(.string s), (.pointer (some cap))]) Tryd.func79 rfl (Nat.le_of_ble_eq_true (by kernel_rfl)) ?_
  refine Wp_leaf_end (Q0 := fun e _ r w => match e with | .normal => retQ Tryd.prog Tryd.f79.results R .normal [] r w | .exit _ => False | .ret => retQ Tryd.prog Tryd.f79.results R .ret [] r w | _ => False) h (by kernel_rfl) ?_
  intro e _ r w h
  cases e with
  | normal => exact h
  | exit i => exact h.elim
  | ret => exact h
  | goto i => exact h.elim
  | panic c => exact h.elim
  | outgrown => exact h.elim

/- glacier/disk.Name -/
def disk_Name_b0 (R : Value → World → Prop) (w : World) : Prop :=
  R (.bool true) w

def disk_Name_b1 (s3 : ByteArray) (t141 : Int) (t151 : Int) (K0 : (ByteArray × Int × Int) → World → Prop) (R : Value → World → Prop) (w : World) : Prop :=
  Br (decide (t151 < t141)) (
  SIX s3 t151 fun c =>
  Br (decide ((UInt8.toNat c : Int) ≥ 97)) (
  Br (decide ((UInt8.toNat c : Int) ≤ 122)) (
  Br (!true) (
  R (.bool false) w) (
  K0 (s3, t141, IntKind.wrap .i64 (t151 + 1)) w)) (
  Br (decide ((UInt8.toNat c : Int) ≥ 48)) (
  Br (decide ((UInt8.toNat c : Int) ≤ 57)) (
  Br (!true) (
  R (.bool false) w) (
  K0 (s3, t141, IntKind.wrap .i64 (t151 + 1)) w)) (
  Br ((UInt8.toNat c : Int) == 45) (
  Br (!true) (
  R (.bool false) w) (
  K0 (s3, t141, IntKind.wrap .i64 (t151 + 1)) w)) (
  Br (!((UInt8.toNat c : Int) == 46)) (
  R (.bool false) w) (
  K0 (s3, t141, IntKind.wrap .i64 (t151 + 1)) w)))) (
  Br ((UInt8.toNat c : Int) == 45) (
  Br (!true) (
  R (.bool false) w) (
  K0 (s3, t141, IntKind.wrap .i64 (t151 + 1)) w)) (
  Br (!((UInt8.toNat c : Int) == 46)) (
  R (.bool false) w) (
  K0 (s3, t141, IntKind.wrap .i64 (t151 + 1)) w))))) (
  Br (decide ((UInt8.toNat c : Int) ≥ 48)) (
  Br (decide ((UInt8.toNat c : Int) ≤ 57)) (
  Br (!true) (
  R (.bool false) w) (
  K0 (s3, t141, IntKind.wrap .i64 (t151 + 1)) w)) (
  Br ((UInt8.toNat c : Int) == 45) (
  Br (!true) (
  R (.bool false) w) (
  K0 (s3, t141, IntKind.wrap .i64 (t151 + 1)) w)) (
  Br (!((UInt8.toNat c : Int) == 46)) (
  R (.bool false) w) (
  K0 (s3, t141, IntKind.wrap .i64 (t151 + 1)) w)))) (
  Br ((UInt8.toNat c : Int) == 45) (
  Br (!true) (
  R (.bool false) w) (
  K0 (s3, t141, IntKind.wrap .i64 (t151 + 1)) w)) (
  Br (!((UInt8.toNat c : Int) == 46)) (
  R (.bool false) w) (
  K0 (s3, t141, IntKind.wrap .i64 (t151 + 1)) w))))) (
  disk_Name_b0 R w)

def disk_Name_b2 (s2 : ByteArray) (t14 : Int) (t15 : Int) (R : Value → World → Prop) (w : World) : Prop :=
  LoopS (σ := ByteArray × Int × Int) (fun s w K0 =>
  disk_Name_b1 s.1 s.2.1 s.2.2 K0 R w) (s2, t14, t15) w

def disk_Name_b3 (s1 : ByteArray) (R : Value → World → Prop) (w : World) : Prop :=
  disk_Name_b2 s1 (ByteArray.size s1 : Int) 0 R w

def disk_Name_b4 (s : ByteArray) (R : Value → World → Prop) (w : World) : Prop :=
  Br (decide ((ByteArray.size s : Int) < 1)) (
  R (.bool false) w) (
  Br (decide ((ByteArray.size s : Int) > 64)) (
  R (.bool false) w) (
  disk_Name_b3 s R w))

def disk_Name_p0 : Point (ByteArray) := { slots := fun s => [(0, (.string s))], dec := fun r K => mStr (r 0) fun x => K x }
theorem disk_Name_p0_ok : disk_Name_p0.ok := by
  intro r K h
  unfold disk_Name_p0 at h
  obtain ⟨x, e0, h⟩ := mStr_elim h
  exact ⟨x, regsOf_self (L := [(0, (.string x))]) (List.forall_mem_cons.2 ⟨e0, List.forall_mem_nil _⟩), h⟩
theorem disk_Name_p0_re (s : ByteArray) (r : Regs) (K : ByteArray → Prop) (h : K s) : disk_Name_p0.dec (regsOf (disk_Name_p0.slots s) r) K := by
  exact cast (show K s = disk_Name_p0.dec (regsOf (disk_Name_p0.slots s) r) K by kernel_rfl) h

def disk_Name_p1 : Point (Unit) := { slots := fun _ => [], dec := fun _ K => K () }
theorem disk_Name_p1_ok : disk_Name_p1.ok := by
  intro r K h
  unfold disk_Name_p1 at h
  exact ⟨(), regsOf_self (L := []) (List.forall_mem_nil _), h⟩
theorem disk_Name_p1_re (s : Unit) (r : Regs) (K : Unit → Prop) (h : K s) : disk_Name_p1.dec (regsOf (disk_Name_p1.slots s) r) K := by
  exact cast (show K () = disk_Name_p1.dec (regsOf (disk_Name_p1.slots ()) r) K by kernel_rfl) h

def disk_Name_p2 : Point (ByteArray × Int × Int) := { slots := fun s => [(0, (.string s.1)), (14, (.int .i64 s.2.1)), (15, (.int .i64 s.2.2))], dec := fun r K => mStr (r 0) fun x => mInt .i64 (r 14) fun x1 => mInt .i64 (r 15) fun x2 => K (x, x1, x2) }
theorem disk_Name_p2_ok : disk_Name_p2.ok := by
  intro r K h
  unfold disk_Name_p2 at h
  obtain ⟨x, e0, h⟩ := mStr_elim h
  obtain ⟨x1, e1, h⟩ := mInt_elim h
  obtain ⟨x2, e2, h⟩ := mInt_elim h
  exact ⟨(x, x1, x2), regsOf_self (L := [(0, (.string x)), (14, (.int .i64 x1)), (15, (.int .i64 x2))]) (List.forall_mem_cons.2 ⟨e0, List.forall_mem_cons.2 ⟨e1, List.forall_mem_cons.2 ⟨e2, List.forall_mem_nil _⟩⟩⟩), h⟩
theorem disk_Name_p2_re (s : ByteArray × Int × Int) (r : Regs) (K : (ByteArray × Int × Int) → Prop) (h : K s) : disk_Name_p2.dec (regsOf (disk_Name_p2.slots s) r) K := by
  obtain ⟨x3, x4, x5⟩ := s
  exact cast (show K (x3, x4, x5) = disk_Name_p2.dec (regsOf (disk_Name_p2.slots (x3, x4, x5)) r) K by kernel_rfl) h

set_option maxRecDepth 100000 in
theorem disk_Name_sound (s : ByteArray) (R : Value → World → Prop) (w : World) (h : disk_Name_b4 s R w) :
    CallR Tryd.prog fn_disk_Name #[(.string s)] w R := by
  refine CallR_intro (args := [(.string s)]) Tryd.func60 rfl (Nat.le_of_ble_eq_true (by kernel_rfl)) ?_
  refine Wp_glue disk_Name_p0 (fun s w => disk_Name_b3 s R w) [_, _] (Q0 := fun e _ r w => match e with | .normal => disk_Name_p0.dec r (fun s => disk_Name_b3 s R w) | .exit _ => False | .ret => retQ Tryd.prog Tryd.f60.results R .ret [] r w | _ => False) h (by kernel_rfl) (fun s r w h => ?_) disk_Name_p0_ok (fun _ _ _ h => h) ?_
  · obtain ⟨s1, rfl⟩ : ∃ y, y = s := ⟨s, rfl⟩
    have h : disk_Name_b3 s1 R w := h
    refine Wp_seq_via disk_Name_p1 (fun _ w => disk_Name_b0 R w) (fun s r w h => ?_) (fun hN1 => ?_)
    · cases s
      have h : disk_Name_b0 R w := h
      refine Wp_leaf_end (Q0 := fun e _ r w => match e with | .normal => retQ Tryd.prog Tryd.f60.results R .normal [] r w | .exit _ => False | .ret => retQ Tryd.prog Tryd.f60.results R .ret [] r w | _ => False) h (by kernel_rfl) ?_
      intro e _ r w h
      cases e with
      | normal => exact h
      | exit i => exact h.elim
      | ret => exact h
      | goto i => exact h.elim
      | panic c => exact h.elim
      | outgrown => exact h.elim
    · refine Wp_glue disk_Name_p2 (fun s w => disk_Name_b2 s.1 s.2.1 s.2.2 R w) [_] (Q0 := fun e _ r w => match e with | .normal => disk_Name_p2.dec r (fun s => disk_Name_b2 s.1 s.2.1 s.2.2 R w) | .exit _ => False | .ret => retQ Tryd.prog Tryd.f60.results R .ret [] r w | _ => False) h (by kernel_rfl) (fun s r w h => ?_) disk_Name_p2_ok (fun _ _ _ h => h) ?_
      · obtain ⟨s2, t14, t15⟩ := s
        have h : disk_Name_b2 s2 t14 t15 R w := h
        refine Wp_block_via disk_Name_p1 (fun _ w => disk_Name_b0 R w) hN1 (fun hX2 => ?_)
        refine Wp_loop (p := disk_Name_p2) disk_Name_p2_ok (fun s r w K0 h => ?_) h
        obtain ⟨s3, t141, t151⟩ := s
        have h : disk_Name_b1 s3 t141 t151 K0 R w := h
        have hK3 := fun (s : ByteArray × Int × Int) (r : Regs) (w : World) (h : K0 s w) => disk_Name_p2_re s r (fun s => K0 s w) h
        refine Wp_leaf_end (Q0 := fun e _ r w => match e with | .normal => disk_Name_p2.dec r (fun s => K0 s w) | .exit i => exitQ i 0 (disk_Name_p1.dec r (fun _ => disk_Name_b0 R w)) (False) | .ret => retQ Tryd.prog Tryd.f60.results R .ret [] r w | _ => False) h (by kernel_rfl) ?_
        intro e _ r w h
        cases e with
        | normal =>
          obtain ⟨s, hs, h⟩ := disk_Name_p2_ok _ _ h
          rw [← hs]
          exact hK3 s r w h
        | exit i =>
          rcases exitQ_elim h with ⟨rfl, h⟩ | ⟨_, h⟩
          · obtain ⟨s, hs, h⟩ := disk_Name_p1_ok _ _ h
            rw [← hs]
            exact hX2 s r w h
          exact h.elim
        | ret => exact h
        | goto i => exact h.elim
        | panic c => exact h.elim
        | outgrown => exact h.elim
      · intro e _ r w hne h
        cases e with
        | normal => exact absurd rfl hne
        | exit i => exact h.elim
        | ret => exact h
        | goto i => exact h.elim
        | panic c => exact h.elim
        | outgrown => exact h.elim
  · intro e _ r w hne h
    cases e with
    | normal => exact absurd rfl hne
    | exit i => exact h.elim
    | ret => exact h
    | goto i => exact h.elim
    | panic c => exact h.elim
    | outgrown => exact h.elim

/- (*glacier/disk.Disk).Crash -/
def disk_Disk_Crash_b0 (R : Value → World → Prop) (w : World) : Prop :=
  R (.tuple #[]) w

def disk_Disk_Crash_b1 (d2 : Option Addr) (picks2 : Option Addr) (picks_n2 : Nat) (picks_c2 : Nat) (t91 : Option Addr) (t9_n1 : Nat) (t9_c1 : Nat) (t101 : Int) (t111 : Int) (K0 : ((Option Addr) × (Option Addr) × Nat × Nat × (Option Addr) × Nat × Nat × Int × Int) → World → Prop) (R : Value → World → Prop) (w : World) : Prop :=
  Br (decide (t111 < t101)) (
  IX t91 t9_n1 t111 1 fun a =>
  LDS w a fun v1 =>
  NN d2 fun p =>
  LDM w (Addr.add p 3) fun v2 =>
  rRun Tryd.prog (Instr.lookup 73 (.map v2) (.string v1) false) w fun vr w_1 =>
  mPtr vr fun v3 =>
  NN v3 fun p1 =>
  LDI .i64 w_1 (Addr.add p1 1) fun v4 =>
  Br (decide (t111 < (picks_n2 : Int))) (
  IX picks2 picks_n2 t111 1 fun a1 =>
  LDI .i64 w_1 a1 fun v5 =>
  Br (decide (v5 ≥ 0)) (
  LetW (World.drew w_1) fun w_2 =>
  IX picks2 picks_n2 t111 1 fun a2 =>
  LDI .i64 w_2 a2 fun v6 =>
  NN v3 fun p2 =>
  LDSl w_2 p2 fun _ v_n1 _ =>
  (w_2 = w_2 ∧ 
  NN v3 fun p3 =>
  LDI .i64 w_2 (Addr.add p3 1) fun v8 =>
  Req ((IntKind.wrap .i64 ((IntKind.wrap .i64 ((v_n1 : Int) - v8)) + 1)) ≠ 0) (
  LetW (World.drew w_2) fun w_3 =>
  NN d2 fun p4 =>
  LDI .i64 w_3 (Addr.add p4 1) fun v9 =>
  NN v3 fun p5 =>
  LDSl w_3 p5 fun _ v_n2 _ =>
  (w_3 = w_3 ∧ 
  NN d2 fun p6 =>
  ST w_3 (Addr.add p6 1) (.int .i64 (IntKind.wrap .i64 (v9 - (IntKind.wrap .i64 ((v_n2 : Int) - (IntKind.wrap .i64 (v4 + (Int.tmod v6 (IntKind.wrap .i64 ((IntKind.wrap .i64 ((v_n1 : Int) - v8)) + 1)))))))))) fun w_4 =>
  NN v3 fun p7 =>
  LDSl w_4 p7 fun v11 v_n3 v_c3 =>
  rRun Tryd.prog (Instr.sliceAt 41 (.slice v11 v_n3 v_c3) none (some (.int .i64 (IntKind.wrap .i64 (v4 + (Int.tmod v6 (IntKind.wrap .i64 ((IntKind.wrap .i64 ((v_n1 : Int) - v8)) + 1))))))) (some (.int .i64 (IntKind.wrap .i64 (v4 + (Int.tmod v6 (IntKind.wrap .i64 ((IntKind.wrap .i64 ((v_n1 : Int) - v8)) + 1)))))))) w_4 fun sr w_5 =>
  mSlice sr fun v12 v_n4 v_c4 =>
  NN v3 fun p8 =>
  ST w_5 p8 (.slice v12 v_n4 v_c4) fun w_6 =>
  NN v3 fun p9 =>
  ST w_6 (Addr.add p9 1) (.int .i64 (IntKind.wrap .i64 (v4 + (Int.tmod v6 (IntKind.wrap .i64 ((IntKind.wrap .i64 ((v_n1 : Int) - v8)) + 1)))))) fun w_7 =>
  K0 (d2, picks2, picks_n2, picks_c2, t91, t9_n1, t9_c1, t101, IntKind.wrap .i64 (t111 + 1)) w_7)))) (
  LetW (World.drew w_1) fun w_8 =>
  NN d2 fun p10 =>
  LDI .i64 w_8 (Addr.add p10 1) fun v13 =>
  NN v3 fun p11 =>
  LDSl w_8 p11 fun _ v_n5 _ =>
  (w_8 = w_8 ∧ 
  NN d2 fun p12 =>
  ST w_8 (Addr.add p12 1) (.int .i64 (IntKind.wrap .i64 (v13 - (IntKind.wrap .i64 ((v_n5 : Int) - v4))))) fun w_9 =>
  NN v3 fun p13 =>
  LDSl w_9 p13 fun v15 v_n6 v_c6 =>
  rRun Tryd.prog (Instr.sliceAt 41 (.slice v15 v_n6 v_c6) none (some (.int .i64 v4)) (some (.int .i64 v4))) w_9 fun sr1 w_10 =>
  mSlice sr1 fun v16 v_n7 v_c7 =>
  NN v3 fun p14 =>
  ST w_10 p14 (.slice v16 v_n7 v_c7) fun w_11 =>
  NN v3 fun p15 =>
  ST w_11 (Addr.add p15 1) (.int .i64 v4) fun w_12 =>
  K0 (d2, picks2, picks_n2, picks_c2, t91, t9_n1, t9_c1, t101, IntKind.wrap .i64 (t111 + 1)) w_12))) (
  LetW (World.drew w_1) fun w_13 =>
  NN d2 fun p16 =>
  LDI .i64 w_13 (Addr.add p16 1) fun v17 =>
  NN v3 fun p17 =>
  LDSl w_13 p17 fun _ v_n8 _ =>
  (w_13 = w_13 ∧ 
  NN d2 fun p18 =>
  ST w_13 (Addr.add p18 1) (.int .i64 (IntKind.wrap .i64 (v17 - (IntKind.wrap .i64 ((v_n8 : Int) - v4))))) fun w_14 =>
  NN v3 fun p19 =>
  LDSl w_14 p19 fun v19 v_n9 v_c9 =>
  rRun Tryd.prog (Instr.sliceAt 41 (.slice v19 v_n9 v_c9) none (some (.int .i64 v4)) (some (.int .i64 v4))) w_14 fun sr2 w_15 =>
  mSlice sr2 fun v20 v_n10 v_c10 =>
  NN v3 fun p20 =>
  ST w_15 p20 (.slice v20 v_n10 v_c10) fun w_16 =>
  NN v3 fun p21 =>
  ST w_16 (Addr.add p21 1) (.int .i64 v4) fun w_17 =>
  K0 (d2, picks2, picks_n2, picks_c2, t91, t9_n1, t9_c1, t101, IntKind.wrap .i64 (t111 + 1)) w_17))) (
  disk_Disk_Crash_b0 R w)

def disk_Disk_Crash_b2 (d1 : Option Addr) (picks1 : Option Addr) (picks_n1 : Nat) (picks_c1 : Nat) (t9 : Option Addr) (t9_n : Nat) (t9_c : Nat) (t10 : Int) (t11 : Int) (R : Value → World → Prop) (w : World) : Prop :=
  LoopS (σ := (Option Addr) × (Option Addr) × Nat × Nat × (Option Addr) × Nat × Nat × Int × Int) (fun s w K0 =>
  disk_Disk_Crash_b1 s.1 s.2.1 s.2.2.1 s.2.2.2.1 s.2.2.2.2.1 s.2.2.2.2.2.1 s.2.2.2.2.2.2.1 s.2.2.2.2.2.2.2.1 s.2.2.2.2.2.2.2.2 K0 R w) (d1, picks1, picks_n1, picks_c1, t9, t9_n, t9_c, t10, t11) w

def disk_Disk_Crash_b3 (d : Option Addr) (picks : Option Addr) (picks_n : Nat) (picks_c : Nat) (R : Value → World → Prop) (w : World) : Prop :=
  CallR Tryd.prog fn_disk_Disk_List #[(.pointer d), (.slice none 0 0)] w fun res w_ =>
  mSlice res fun v v_n v_c =>
  disk_Disk_Crash_b2 d picks picks_n picks_c v v_n v_c (v_n : Int) 0 R w_

def disk_Disk_Crash_p0 : Point ((Option Addr) × (Option Addr) × Nat × Nat × (Option Addr) × Nat × Nat × Int × Int) := { slots := fun s => [(0, (.pointer s.1)), (1, (.slice s.2.1 s.2.2.1 s.2.2.2.1)), (9, (.slice s.2.2.2.2.1 s.2.2.2.2.2.1 s.2.2.2.2.2.2.1)), (10, (.int .i64 s.2.2.2.2.2.2.2.1)), (11, (.int .i64 s.2.2.2.2.2.2.2.2))], dec := fun r K => mPtr (r 0) fun x => mSlice (r 1) fun x1 x2 x3 => mSlice (r 9) fun x4 x5 x6 => mInt .i64 (r 10) fun x7 => mInt .i64 (r 11) fun x8 => K (x, x1, x2, x3, x4, x5, x6, x7, x8) }
theorem disk_Disk_Crash_p0_ok : disk_Disk_Crash_p0.ok := by
  intro r K h
  unfold disk_Disk_Crash_p0 at h
  obtain ⟨x, e0, h⟩ := mPtr_elim h
  obtain ⟨x1, x2, x3, e1, h⟩ := mSlice_elim h
  obtain ⟨x4, x5, x6, e2, h⟩ := mSlice_elim h
  obtain ⟨x7, e3, h⟩ := mInt_elim h
  obtain ⟨x8, e4, h⟩ := mInt_elim h
  exact ⟨(x, x1, x2, x3, x4, x5, x6, x7, x8), regsOf_self (L := [(0, (.pointer x)), (1, (.slice x1 x2 x3)), (9, (.slice x4 x5 x6)), (10, (.int .i64 x7)), (11, (.int .i64 x8))]) (List.forall_mem_cons.2 ⟨e0, List.forall_mem_cons.2 ⟨e1, List.forall_mem_cons.2 ⟨e2, List.forall_mem_cons.2 ⟨e3, List.forall_mem_cons.2 ⟨e4, List.forall_mem_nil _⟩⟩⟩⟩⟩), h⟩
theorem disk_Disk_Crash_p0_re (s : (Option Addr) × (Option Addr) × Nat × Nat × (Option Addr) × Nat × Nat × Int × Int) (r : Regs) (K : ((Option Addr) × (Option Addr) × Nat × Nat × (Option Addr) × Nat × Nat × Int × Int) → Prop) (h : K s) : disk_Disk_Crash_p0.dec (regsOf (disk_Disk_Crash_p0.slots s) r) K := by
  obtain ⟨x9, x10, x11, x12, x13, x14, x15, x16, x17⟩ := s
  exact cast (show K (x9, x10, x11, x12, x13, x14, x15, x16, x17) = disk_Disk_Crash_p0.dec (regsOf (disk_Disk_Crash_p0.slots (x9, x10, x11, x12, x13, x14, x15, x16, x17)) r) K by kernel_rfl) h

def disk_Disk_Crash_p1 : Point (Unit) := { slots := fun _ => [], dec := fun _ K => K () }
theorem disk_Disk_Crash_p1_ok : disk_Disk_Crash_p1.ok := by
  intro r K h
  unfold disk_Disk_Crash_p1 at h
  exact ⟨(), regsOf_self (L := []) (List.forall_mem_nil _), h⟩
theorem disk_Disk_Crash_p1_re (s : Unit) (r : Regs) (K : Unit → Prop) (h : K s) : disk_Disk_Crash_p1.dec (regsOf (disk_Disk_Crash_p1.slots s) r) K := by
  exact cast (show K () = disk_Disk_Crash_p1.dec (regsOf (disk_Disk_Crash_p1.slots ()) r) K by kernel_rfl) h

set_option maxRecDepth 100000 in
theorem disk_Disk_Crash_sound (d : Option Addr) (picks : Option Addr) (picks_n : Nat) (picks_c : Nat) (R : Value → World → Prop) (w : World) (h : disk_Disk_Crash_b3 d picks picks_n picks_c R w) :
    CallR Tryd.prog fn_disk_Disk_Crash #[(.pointer d), (.slice picks picks_n picks_c)] w R := by
  refine CallR_intro (args := [(.pointer d), (.slice picks picks_n picks_c)]) Tryd.func18 rfl (Nat.le_of_ble_eq_true (by kernel_rfl)) ?_
  have hEnd : ∀ (s : Unit) (r : Regs) (w : World), disk_Disk_Crash_b0 R w → retQ Tryd.prog Tryd.f18.results R .normal [] (regsOf (disk_Disk_Crash_p1.slots s) r) w := by
    intro s r w h
    cases s
    have h : disk_Disk_Crash_b0 R w := h
    exact cast (show (disk_Disk_Crash_b0 R w) = retQ Tryd.prog Tryd.f18.results R .normal [] (regsOf (disk_Disk_Crash_p1.slots ()) r) w by kernel_rfl) h
  refine Wp_glue disk_Disk_Crash_p0 (fun s w => disk_Disk_Crash_b2 s.1 s.2.1 s.2.2.1 s.2.2.2.1 s.2.2.2.2.1 s.2.2.2.2.2.1 s.2.2.2.2.2.2.1 s.2.2.2.2.2.2.2.1 s.2.2.2.2.2.2.2.2 R w) [_] (Q0 := fun e _ r w => match e with | .normal => disk_Disk_Crash_p0.dec r (fun s => disk_Disk_Crash_b2 s.1 s.2.1 s.2.2.1 s.2.2.2.1 s.2.2.2.2.1 s.2.2.2.2.2.1 s.2.2.2.2.2.2.1 s.2.2.2.2.2.2.2.1 s.2.2.2.2.2.2.2.2 R w) | .exit _ => False | .ret => retQ Tryd.prog Tryd.f18.results R .ret [] r w | _ => False) h (by kernel_rfl) (fun s r w h => ?_) disk_Disk_Crash_p0_ok (fun _ _ _ h => h) ?_
  · obtain ⟨d1, picks1, picks_n1, picks_c1, t9, t9_n, t9_c, t10, t11⟩ := s
    have h : disk_Disk_Crash_b2 d1 picks1 picks_n1 picks_c1 t9 t9_n t9_c t10 t11 R w := h
    refine Wp_block_via disk_Disk_Crash_p1 (fun _ w => disk_Disk_Crash_b0 R w) hEnd (fun hX1 => ?_)
    refine Wp_loop (p := disk_Disk_Crash_p0) disk_Disk_Crash_p0_ok (fun s r w K0 h => ?_) h
    obtain ⟨d2, picks2, picks_n2, picks_c2, t91, t9_n1, t9_c1, t101, t111⟩ := s
    have h : disk_Disk_Crash_b1 d2 picks2 picks_n2 picks_c2 t91 t9_n1 t9_c1 t101 t111 K0 R w := h
    have hK2 := fun (s : (Option Addr) × (Option Addr) × Nat × Nat × (Option Addr) × Nat × Nat × Int × Int) (r : Regs) (w : World) (h : K0 s w) => disk_Disk_Crash_p0_re s r (fun s => K0 s w) h
    refine Wp_leaf_end (Q0 := fun e _ r w => match e with | .normal => disk_Disk_Crash_p0.dec r (fun s => K0 s w) | .exit i => exitQ i 0 (disk_Disk_Crash_p1.dec r (fun _ => disk_Disk_Crash_b0 R w)) (False) | .ret => retQ Tryd.prog Tryd.f18.results R .ret [] r w | _ => False) h (by kernel_rfl) ?_
    intro e _ r w h
    cases e with
    | normal =>
      obtain ⟨s, hs, h⟩ := disk_Disk_Crash_p0_ok _ _ h
      rw [← hs]
      exact hK2 s r w h
    | exit i =>
      rcases exitQ_elim h with ⟨rfl, h⟩ | ⟨_, h⟩
      · obtain ⟨s, hs, h⟩ := disk_Disk_Crash_p1_ok _ _ h
        rw [← hs]
        exact hX1 s r w h
      exact h.elim
    | ret => exact h
    | goto i => exact h.elim
    | panic c => exact h.elim
    | outgrown => exact h.elim
  · intro e _ r w hne h
    cases e with
    | normal => exact absurd rfl hne
    | exit i => exact h.elim
    | ret => exact h
    | goto i => exact h.elim
    | panic c => exact h.elim
    | outgrown => exact h.elim

/- (*glacier/disk.Disk).List -/
def disk_Disk_List_b0 (out3 : Option Addr) (out_n3 : Nat) (out_c3 : Nat) (R : Value → World → Prop) (w : World) : Prop :=
  CallR Tryd.prog fn_slices_Sort_s_string_string #[(.slice out3 out_n3 out_c3)] w fun res1 w_10 =>
  mTup res1 fun l2 =>
  mNil l2 (
  R (.slice out3 out_n3 out_c3) w_10)

def disk_Disk_List_b1 (prefixes3 : Option Addr) (prefixes_n3 : Nat) (prefixes_c3 : Nat) (out2 : Option Addr) (out_n2 : Nat) (out_c2 : Nat) (t111 : Value) (K0 : ((Option Addr) × Nat × Nat × (Option Addr) × Nat × Nat × Value) → World → Prop) (R : Value → World → Prop) (w : World) : Prop :=
  rRun Tryd.prog (Instr.next t111 false 0) w fun vr w_1 =>
  mTup vr fun l =>
  mNth l 0 fun x =>
  mBool x fun v1 =>
  Br v1 (
  rRun Tryd.prog (Instr.entry t111) w_1 fun vr1 w_2 =>
  mTup vr1 fun l1 =>
  mNth l1 0 fun x1 =>
  mStr x1 fun v2 =>
  AL w_2 (.cells #[(.string (ByteArray.mk #[]))] 9) fun s w_3 =>
  ST w_3 s (.string v2) fun w_4 =>
  Br ((prefixes_n3 : Int) == 0) (
  LDS w_4 s fun v3 =>
  AL w_4 (.cells #[(.string v3)] 9) fun b w_5 =>
  rRun Tryd.prog (Builtin.append_ #[91, 91] 91 #[(.slice out2 out_n2 out_c2), (.slice (some b) 1 1)]) w_5 fun sr w_6 =>
  mSlice sr fun v4 v_n v_c =>
  K0 (prefixes3, prefixes_n3, prefixes_c3, v4, v_n, v_c, t111) w_6) (
  CallR Tryd.prog fn_slices_ContainsFunc_s_string_string #[(.slice prefixes3 prefixes_n3 prefixes_c3), (.func (.func fn_disk_Disk_List_1) #[] #[(.pointer (some s))])] w_4 fun res w_7 =>
  mBool res fun v5 =>
  Br v5 (
  LDS w_7 s fun v6 =>
  AL w_7 (.cells #[(.string v6)] 9) fun b1 w_8 =>
  rRun Tryd.prog (Builtin.append_ #[91, 91] 91 #[(.slice out2 out_n2 out_c2), (.slice (some b1) 1 1)]) w_8 fun sr1 w_9 =>
  mSlice sr1 fun v7 v_n1 v_c1 =>
  K0 (prefixes3, prefixes_n3, prefixes_c3, v7, v_n1, v_c1, t111) w_9) (
  K0 (prefixes3, prefixes_n3, prefixes_c3, out2, out_n2, out_c2, t111) w_7))) (
  disk_Disk_List_b0 out2 out_n2 out_c2 R w_1)

def disk_Disk_List_b2 (prefixes2 : Option Addr) (prefixes_n2 : Nat) (prefixes_c2 : Nat) (out1 : Option Addr) (out_n1 : Nat) (out_c1 : Nat) (t11 : Value) (R : Value → World → Prop) (w : World) : Prop :=
  LoopS (σ := (Option Addr) × Nat × Nat × (Option Addr) × Nat × Nat × Value) (fun s w K0 =>
  disk_Disk_List_b1 s.1 s.2.1 s.2.2.1 s.2.2.2.1 s.2.2.2.2.1 s.2.2.2.2.2.1 s.2.2.2.2.2.2 K0 R w) (prefixes2, prefixes_n2, prefixes_c2, out1, out_n1, out_c1, t11) w

def disk_Disk_List_b3 (d1 : Option Addr) (prefixes1 : Option Addr) (prefixes_n1 : Nat) (prefixes_c1 : Nat) (out : Option Addr) (out_n : Nat) (out_c : Nat) (R : Value → World → Prop) (w : World) : Prop :=
  NN d1 fun p =>
  LDM w (Addr.add p 3) fun v =>
  rRun Tryd.prog (Instr.range 73 (.map v)) w fun itr w_ =>
  disk_Disk_List_b2 prefixes1 prefixes_n1 prefixes_c1 out out_n out_c itr R w_

def disk_Disk_List_b4 (d : Option Addr) (prefixes : Option Addr) (prefixes_n : Nat) (prefixes_c : Nat) (R : Value → World → Prop) (w : World) : Prop :=
  disk_Disk_List_b3 d prefixes prefixes_n prefixes_c none 0 0 R w

def disk_Disk_List_p0 : Point ((Option Addr) × (Option Addr) × Nat × Nat × (Option Addr) × Nat × Nat) := { slots := fun s => [(0, (.pointer s.1)), (1, (.slice s.2.1 s.2.2.1 s.2.2.2.1)), (5, (.slice s.2.2.2.2.1 s.2.2.2.2.2.1 s.2.2.2.2.2.2))], dec := fun r K => mPtr (r 0) fun x => mSlice (r 1) fun x1 x2 x3 => mSlice (r 5) fun x4 x5 x6 => K (x, x1, x2, x3, x4, x5, x6) }
theorem disk_Disk_List_p0_ok : disk_Disk_List_p0.ok := by
  intro r K h
  unfold disk_Disk_List_p0 at h
  obtain ⟨x, e0, h⟩ := mPtr_elim h
  obtain ⟨x1, x2, x3, e1, h⟩ := mSlice_elim h
  obtain ⟨x4, x5, x6, e2, h⟩ := mSlice_elim h
  exact ⟨(x, x1, x2, x3, x4, x5, x6), regsOf_self (L := [(0, (.pointer x)), (1, (.slice x1 x2 x3)), (5, (.slice x4 x5 x6))]) (List.forall_mem_cons.2 ⟨e0, List.forall_mem_cons.2 ⟨e1, List.forall_mem_cons.2 ⟨e2, List.forall_mem_nil _⟩⟩⟩), h⟩
theorem disk_Disk_List_p0_re (s : (Option Addr) × (Option Addr) × Nat × Nat × (Option Addr) × Nat × Nat) (r : Regs) (K : ((Option Addr) × (Option Addr) × Nat × Nat × (Option Addr) × Nat × Nat) → Prop) (h : K s) : disk_Disk_List_p0.dec (regsOf (disk_Disk_List_p0.slots s) r) K := by
  obtain ⟨x7, x8, x9, x10, x11, x12, x13⟩ := s
  exact cast (show K (x7, x8, x9, x10, x11, x12, x13) = disk_Disk_List_p0.dec (regsOf (disk_Disk_List_p0.slots (x7, x8, x9, x10, x11, x12, x13)) r) K by kernel_rfl) h

def disk_Disk_List_p1 : Point ((Option Addr) × Nat × Nat) := { slots := fun s => [(5, (.slice s.1 s.2.1 s.2.2))], dec := fun r K => mSlice (r 5) fun x x1 x2 => K (x, x1, x2) }
theorem disk_Disk_List_p1_ok : disk_Disk_List_p1.ok := by
  intro r K h
  unfold disk_Disk_List_p1 at h
  obtain ⟨x, x1, x2, e0, h⟩ := mSlice_elim h
  exact ⟨(x, x1, x2), regsOf_self (L := [(5, (.slice x x1 x2))]) (List.forall_mem_cons.2 ⟨e0, List.forall_mem_nil _⟩), h⟩
theorem disk_Disk_List_p1_re (s : (Option Addr) × Nat × Nat) (r : Regs) (K : ((Option Addr) × Nat × Nat) → Prop) (h : K s) : disk_Disk_List_p1.dec (regsOf (disk_Disk_List_p1.slots s) r) K := by
  obtain ⟨x3, x4, x5⟩ := s
  exact cast (show K (x3, x4, x5) = disk_Disk_List_p1.dec (regsOf (disk_Disk_List_p1.slots (x3, x4, x5)) r) K by kernel_rfl) h

def disk_Disk_List_p2 : Point ((Option Addr) × Nat × Nat × (Option Addr) × Nat × Nat × Value) := { slots := fun s => [(1, (.slice s.1 s.2.1 s.2.2.1)), (5, (.slice s.2.2.2.1 s.2.2.2.2.1 s.2.2.2.2.2.1)), (11, s.2.2.2.2.2.2)], dec := fun r K => mSlice (r 1) fun x x1 x2 => mSlice (r 5) fun x3 x4 x5 => K (x, x1, x2, x3, x4, x5, (r 11)) }
theorem disk_Disk_List_p2_ok : disk_Disk_List_p2.ok := by
  intro r K h
  unfold disk_Disk_List_p2 at h
  obtain ⟨x, x1, x2, e0, h⟩ := mSlice_elim h
  obtain ⟨x3, x4, x5, e1, h⟩ := mSlice_elim h
  exact ⟨(x, x1, x2, x3, x4, x5, (r 11)), regsOf_self (L := [(1, (.slice x x1 x2)), (5, (.slice x3 x4 x5)), (11, (r 11))]) (List.forall_mem_cons.2 ⟨e0, List.forall_mem_cons.2 ⟨e1, List.forall_mem_cons.2 ⟨rfl, List.forall_mem_nil _⟩⟩⟩), h⟩
theorem disk_Disk_List_p2_re (s : (Option Addr) × Nat × Nat × (Option Addr) × Nat × Nat × Value) (r : Regs) (K : ((Option Addr) × Nat × Nat × (Option Addr) × Nat × Nat × Value) → Prop) (h : K s) : disk_Disk_List_p2.dec (regsOf (disk_Disk_List_p2.slots s) r) K := by
  obtain ⟨x6, x7, x8, x9, x10, x11, x12⟩ := s
  exact cast (show K (x6, x7, x8, x9, x10, x11, x12) = disk_Disk_List_p2.dec (regsOf (disk_Disk_List_p2.slots (x6, x7, x8, x9, x10, x11, x12)) r) K by kernel_rfl) h

set_option maxRecDepth 100000 in
theorem disk_Disk_List_sound (d : Option Addr) (prefixes : Option Addr) (prefixes_n : Nat) (prefixes_c : Nat) (R : Value → World → Prop) (w : World) (h : disk_Disk_List_b4 d prefixes prefixes_n prefixes_c R w) :
    CallR Tryd.prog fn_disk_Disk_List #[(.pointer d), (.slice prefixes prefixes_n prefixes_c)] w R := by
  refine CallR_intro (args := [(.pointer d), (.slice prefixes prefixes_n prefixes_c)]) Tryd.func45 rfl (Nat.le_of_ble_eq_true (by kernel_rfl)) ?_
  refine Wp_glue disk_Disk_List_p0 (fun s w => disk_Disk_List_b3 s.1 s.2.1 s.2.2.1 s.2.2.2.1 s.2.2.2.2.1 s.2.2.2.2.2.1 s.2.2.2.2.2.2 R w) [_, _] (Q0 := fun e _ r w => match e with | .normal => disk_Disk_List_p0.dec r (fun s => disk_Disk_List_b3 s.1 s.2.1 s.2.2.1 s.2.2.2.1 s.2.2.2.2.1 s.2.2.2.2.2.1 s.2.2.2.2.2.2 R w) | .exit _ => False | .ret => retQ Tryd.prog Tryd.f45.results R .ret [] r w | _ => False) h (by kernel_rfl) (fun s r w h => ?_) disk_Disk_List_p0_ok (fun _ _ _ h => h) ?_
  · obtain ⟨d1, prefixes1, prefixes_n1, prefixes_c1, out, out_n, out_c⟩ := s
    have h : disk_Disk_List_b3 d1 prefixes1 prefixes_n1 prefixes_c1 out out_n out_c R w := h
    refine Wp_seq_via disk_Disk_List_p1 (fun s w => disk_Disk_List_b0 s.1 s.2.1 s.2.2 R w) (fun s r w h => ?_) (fun hN1 => ?_)
    · obtain ⟨out3, out_n3, out_c3⟩ := s
      have h : disk_Disk_List_b0 out3 out_n3 out_c3 R w := h
      refine Wp_leaf_end (Q0 := fun e _ r w => match e with | .normal => retQ Tryd.prog Tryd.f45.results R .normal [] r w | .exit _ => False | .ret => retQ Tryd.prog Tryd.f45.results R .ret [] r w | _ => False) h (by kernel_rfl) ?_
      intro e _ r w h
      cases e with
      | normal => exact h
      | exit i => exact h.elim
      | ret => exact h
      | goto i => exact h.elim
      | panic c => exact h.elim
      | outgrown => exact h.elim
    · refine Wp_glue disk_Disk_List_p2 (fun s w => disk_Disk_List_b2 s.1 s.2.1 s.2.2.1 s.2.2.2.1 s.2.2.2.2.1 s.2.2.2.2.2.1 s.2.2.2.2.2.2 R w) [_] (Q0 := fun e _ r w => match e with | .normal => disk_Disk_List_p2.dec r (fun s => disk_Disk_List_b2 s.1 s.2.1 s.2.2.1 s.2.2.2.1 s.2.2.2.2.1 s.2.2.2.2.2.1 s.2.2.2.2.2.2 R w) | .exit _ => False | .ret => retQ Tryd.prog Tryd.f45.results R .ret [] r w | _ => False) h (by kernel_rfl) (fun s r w h => ?_) disk_Disk_List_p2_ok (fun _ _ _ h => h) ?_
      · obtain ⟨prefixes2, prefixes_n2, prefixes_c2, out1, out_n1, out_c1, t11⟩ := s
        have h : disk_Disk_List_b2 prefixes2 prefixes_n2 prefixes_c2 out1 out_n1 out_c1 t11 R w := h
        refine Wp_block_via disk_Disk_List_p1 (fun s w => disk_Disk_List_b0 s.1 s.2.1 s.2.2 R w) hN1 (fun hX2 => ?_)
        refine Wp_loop (p := disk_Disk_List_p2) disk_Disk_List_p2_ok (fun s r w K0 h => ?_) h
        obtain ⟨prefixes3, prefixes_n3, prefixes_c3, out2, out_n2, out_c2, t111⟩ := s
        have h : disk_Disk_List_b1 prefixes3 prefixes_n3 prefixes_c3 out2 out_n2 out_c2 t111 K0 R w := h
        have hK3 := fun (s : (Option Addr) × Nat × Nat × (Option Addr) × Nat × Nat × Value) (r : Regs) (w : World) (h : K0 s w) => disk_Disk_List_p2_re s r (fun s => K0 s w) h
        refine Wp_leaf_end (Q0 := fun e _ r w => match e with | .normal => disk_Disk_List_p2.dec r (fun s => K0 s w) | .exit i => exitQ i 0 (disk_Disk_List_p1.dec r (fun s => disk_Disk_List_b0 s.1 s.2.1 s.2.2 R w)) (False) | .ret => retQ Tryd.prog Tryd.f45.results R .ret [] r w | _ => False) h (by kernel_rfl) ?_
        intro e _ r w h
        cases e with
        | normal =>
          obtain ⟨s, hs, h⟩ := disk_Disk_List_p2_ok _ _ h
          rw [← hs]
          exact hK3 s r w h
        | exit i =>
          rcases exitQ_elim h with ⟨rfl, h⟩ | ⟨_, h⟩
          · obtain ⟨s, hs, h⟩ := disk_Disk_List_p1_ok _ _ h
            rw [← hs]
            exact hX2 s r w h
          exact h.elim
        | ret => exact h
        | goto i => exact h.elim
        | panic c => exact h.elim
        | outgrown => exact h.elim
      · intro e _ r w hne h
        cases e with
        | normal => exact absurd rfl hne
        | exit i => exact h.elim
        | ret => exact h
        | goto i => exact h.elim
        | panic c => exact h.elim
        | outgrown => exact h.elim
  · intro e _ r w hne h
    cases e with
    | normal => exact absurd rfl hne
    | exit i => exact h.elim
    | ret => exact h
    | goto i => exact h.elim
    | panic c => exact h.elim
    | outgrown => exact h.elim

/- (*glacier/disk.Disk).List$1 -/
def disk_Disk_List_1_b0 (p : ByteArray) (cap : Addr) (R : Value → World → Prop) (w : World) : Prop :=
  LDS w cap fun v =>
  CallR Tryd.prog fn_strings_HasPrefix #[(.string v), (.string p)] w fun res w_ =>
  mBool res fun v1 =>
  R (.bool v1) w_

set_option maxRecDepth 100000 in
theorem disk_Disk_List_1_sound (p : ByteArray) (cap : Addr) (R : Value → World → Prop) (w : World) (h : disk_Disk_List_1_b0 p cap R w) :
    CallR Tryd.prog fn_disk_Disk_List_1 #[(.string p), (.pointer (some cap))] w R := by
  refine CallR_intro (args := [(.string p), (.pointer (some cap))]) Tryd.func66 rfl (Nat.le_of_ble_eq_true (by kernel_rfl)) ?_
  refine Wp_leaf_end (Q0 := fun e _ r w => match e with | .normal => retQ Tryd.prog Tryd.f66.results R .normal [] r w | .exit _ => False | .ret => retQ Tryd.prog Tryd.f66.results R .ret [] r w | _ => False) h (by kernel_rfl) ?_
  intro e _ r w h
  cases e with
  | normal => exact h
  | exit i => exact h.elim
  | ret => exact h
  | goto i => exact h.elim
  | panic c => exact h.elim
  | outgrown => exact h.elim

/- slices.ContainsFunc[[]string,string] -/
def slices_ContainsFunc_s_string_string_b0 (s : Option Addr) (s_n : Nat) (s_c : Nat) (f : Value) (R : Value → World → Prop) (w : World) : Prop :=
  CallR Tryd.prog fn_slices_IndexFunc_s_string_string #[(.slice s s_n s_c), f] w fun res w_ =>
  mInt .i64 res fun v =>
  R (.bool (decide (v ≥ 0))) w_

set_option maxRecDepth 100000 in
theorem slices_ContainsFunc_s_string_string_sound (s : Option Addr) (s_n : Nat) (s_c : Nat) (f : Value) (R : Value → World → Prop) (w : World) (h : slices_ContainsFunc_s_string_string_b0 s s_n s_c f R w) :
    CallR Tryd.prog fn_slices_ContainsFunc_s_string_string #[(.slice s s_n s_c), f] w R := by
  refine CallR_intro (args := [(.slice s s_n s_c), f]) Tryd.func65 rfl (Nat.le_of_ble_eq_true (by kernel_rfl)) ?_
  refine Wp_leaf_end (Q0 := fun e _ r w => match e with | .normal => retQ Tryd.prog Tryd.f65.results R .normal [] r w | .exit _ => False | .ret => retQ Tryd.prog Tryd.f65.results R .ret [] r w | _ => False) h (by kernel_rfl) ?_
  intro e _ r w h
  cases e with
  | normal => exact h
  | exit i => exact h.elim
  | ret => exact h
  | goto i => exact h.elim
  | panic c => exact h.elim
  | outgrown => exact h.elim

/- slices.IndexFunc[[]string,string] -/
def slices_IndexFunc_s_string_string_b0 (R : Value → World → Prop) (w : World) : Prop :=
  R (.int .i64 (-1)) w

def slices_IndexFunc_s_string_string_b1 (s3 : Option Addr) (s_n3 : Nat) (s_c3 : Nat) (f3 : Value) (t71 : Int) (t81 : Int) (K0 : ((Option Addr) × Nat × Nat × Value × Int × Int) → World → Prop) (R : Value → World → Prop) (w : World) : Prop :=
  Br (decide (t81 < t71)) (
  IX s3 s_n3 t81 1 fun a =>
  LDS w a fun v =>
  CallV Tryd.prog f3 [(.string v)] w fun res w_ =>
  mBool res fun v1 =>
  Br v1 (
  R (.int .i64 t81) w_) (
  K0 (s3, s_n3, s_c3, f3, t71, IntKind.wrap .i64 (t81 + 1)) w_)) (
  slices_IndexFunc_s_string_string_b0 R w)

def slices_IndexFunc_s_string_string_b2 (s2 : Option Addr) (s_n2 : Nat) (s_c2 : Nat) (f2 : Value) (t7 : Int) (t8 : Int) (R : Value → World → Prop) (w : World) : Prop :=
  LoopS (σ := (Option Addr) × Nat × Nat × Value × Int × Int) (fun s w K0 =>
  slices_IndexFunc_s_string_string_b1 s.1 s.2.1 s.2.2.1 s.2.2.2.1 s.2.2.2.2.1 s.2.2.2.2.2 K0 R w) (s2, s_n2, s_c2, f2, t7, t8) w

def slices_IndexFunc_s_string_string_b3 (s1 : Option Addr) (s_n1 : Nat) (s_c1 : Nat) (f1 : Value) (R : Value → World → Prop) (w : World) : Prop :=
  slices_IndexFunc_s_string_string_b2 s1 s_n1 s_c1 f1 (s_n1 : Int) 0 R w

def slices_IndexFunc_s_string_string_b4 (s : Option Addr) (s_n : Nat) (s_c : Nat) (f : Value) (R : Value → World → Prop) (w : World) : Prop :=
  slices_IndexFunc_s_string_string_b3 s s_n s_c f R w

def slices_IndexFunc_s_string_string_p0 : Point ((Option Addr) × Nat × Nat × Value) := { slots := fun s => [(0, (.slice s.1 s.2.1 s.2.2.1)), (1, s.2.2.2)], dec := fun r K => mSlice (r 0) fun x x1 x2 => K (x, x1, x2, (r 1)) }
theorem slices_IndexFunc_s_string_string_p0_ok : slices_IndexFunc_s_string_string_p0.ok := by
  intro r K h
  unfold slices_IndexFunc_s_string_string_p0 at h
  obtain ⟨x, x1, x2, e0, h⟩ := mSlice_elim h
  exact ⟨(x, x1, x2, (r 1)), regsOf_self (L := [(0, (.slice x x1 x2)), (1, (r 1))]) (List.forall_mem_cons.2 ⟨e0, List.forall_mem_cons.2 ⟨rfl, List.forall_mem_nil _⟩⟩), h⟩
theorem slices_IndexFunc_s_string_string_p0_re (s : (Option Addr) × Nat × Nat × Value) (r : Regs) (K : ((Option Addr) × Nat × Nat × Value) → Prop) (h : K s) : slices_IndexFunc_s_string_string_p0.dec (regsOf (slices_IndexFunc_s_string_string_p0.slots s) r) K := by
  obtain ⟨x3, x4, x5, x6⟩ := s
  exact cast (show K (x3, x4, x5, x6) = slices_IndexFunc_s_string_string_p0.dec (regsOf (slices_IndexFunc_s_string_string_p0.slots (x3, x4, x5, x6)) r) K by kernel_rfl) h

def slices_IndexFunc_s_string_string_p1 : Point (Unit) := { slots := fun _ => [], dec := fun _ K => K () }
theorem slices_IndexFunc_s_string_string_p1_ok : slices_IndexFunc_s_string_string_p1.ok := by
  intro r K h
  unfold slices_IndexFunc_s_string_string_p1 at h
  exact ⟨(), regsOf_self (L := []) (List.forall_mem_nil _), h⟩
theorem slices_IndexFunc_s_string_string_p1_re (s : Unit) (r : Regs) (K : Unit → Prop) (h : K s) : slices_IndexFunc_s_string_string_p1.dec (regsOf (slices_IndexFunc_s_string_string_p1.slots s) r) K := by
  exact cast (show K () = slices_IndexFunc_s_string_string_p1.dec (regsOf (slices_IndexFunc_s_string_string_p1.slots ()) r) K by kernel_rfl) h

def slices_IndexFunc_s_string_string_p2 : Point ((Option Addr) × Nat × Nat × Value × Int × Int) := { slots := fun s => [(0, (.slice s.1 s.2.1 s.2.2.1)), (1, s.2.2.2.1), (7, (.int .i64 s.2.2.2.2.1)), (8, (.int .i64 s.2.2.2.2.2))], dec := fun r K => mSlice (r 0) fun x x1 x2 => mInt .i64 (r 7) fun x3 => mInt .i64 (r 8) fun x4 => K (x, x1, x2, (r 1), x3, x4) }
theorem slices_IndexFunc_s_string_string_p2_ok : slices_IndexFunc_s_string_string_p2.ok := by
  intro r K h
  unfold slices_IndexFunc_s_string_string_p2 at h
  obtain ⟨x, x1, x2, e0, h⟩ := mSlice_elim h
  obtain ⟨x3, e2, h⟩ := mInt_elim h
  obtain ⟨x4, e3, h⟩ := mInt_elim h
  exact ⟨(x, x1, x2, (r 1), x3, x4), regsOf_self (L := [(0, (.slice x x1 x2)), (1, (r 1)), (7, (.int .i64 x3)), (8, (.int .i64 x4))]) (List.forall_mem_cons.2 ⟨e0, List.forall_mem_cons.2 ⟨rfl, List.forall_mem_cons.2 ⟨e2, List.forall_mem_cons.2 ⟨e3, List.forall_mem_nil _⟩⟩⟩⟩), h⟩
theorem slices_IndexFunc_s_string_string_p2_re (s : (Option Addr) × Nat × Nat × Value × Int × Int) (r : Regs) (K : ((Option Addr) × Nat × Nat × Value × Int × Int) → Prop) (h : K s) : slices_IndexFunc_s_string_string_p2.dec (regsOf (slices_IndexFunc_s_string_string_p2.slots s) r) K := by
  obtain ⟨x5, x6, x7, x8, x9, x10⟩ := s
  exact cast (show K (x5, x6, x7, x8, x9, x10) = slices_IndexFunc_s_string_string_p2.dec (regsOf (slices_IndexFunc_s_string_string_p2.slots (x5, x6, x7, x8, x9, x10)) r) K by kernel_rfl) h

set_option maxRecDepth 100000 in
theorem slices_IndexFunc_s_string_string_sound (s : Option Addr) (s_n : Nat) (s_c : Nat) (f : Value) (R : Value → World → Prop) (w : World) (h : slices_IndexFunc_s_string_string_b4 s s_n s_c f R w) :
    CallR Tryd.prog fn_slices_IndexFunc_s_string_string #[(.slice s s_n s_c), f] w R := by
  refine CallR_intro (args := [(.slice s s_n s_c), f]) Tryd.func85 rfl (Nat.le_of_ble_eq_true (by kernel_rfl)) ?_
  refine Wp_glue slices_IndexFunc_s_string_string_p0 (fun s w => slices_IndexFunc_s_string_string_b3 s.1 s.2.1 s.2.2.1 s.2.2.2 R w) [_] (Q0 := fun e _ r w => match e with | .normal => slices_IndexFunc_s_string_string_p0.dec r (fun s => slices_IndexFunc_s_string_string_b3 s.1 s.2.1 s.2.2.1 s.2.2.2 R w) | .exit _ => False | .ret => retQ Tryd.prog Tryd.f85.results R .ret [] r w | _ => False) h (by kernel_rfl) (fun s r w h => ?_) slices_IndexFunc_s_string_string_p0_ok (fun _ _ _ h => h) ?_
  · obtain ⟨s1, s_n1, s_c1, f1⟩ := s
    have h : slices_IndexFunc_s_string_string_b3 s1 s_n1 s_c1 f1 R w := h
    refine Wp_seq_via slices_IndexFunc_s_string_string_p1 (fun _ w => slices_IndexFunc_s_string_string_b0 R w) (fun s r w h => ?_) (fun hN1 => ?_)
    · cases s
      have h : slices_IndexFunc_s_string_string_b0 R w := h
      refine Wp_leaf_end (Q0 := fun e _ r w => match e with | .normal => retQ Tryd.prog Tryd.f85.results R .normal [] r w | .exit _ => False | .ret => retQ Tryd.prog Tryd.f85.results R .ret [] r w | _ => False) h (by kernel_rfl) ?_
      intro e _ r w h
      cases e with
      | normal => exact h
      | exit i => exact h.elim
      | ret => exact h
      | goto i => exact h.elim
      | panic c => exact h.elim
      | outgrown => exact h.elim
    · refine Wp_glue slices_IndexFunc_s_string_string_p2 (fun s w => slices_IndexFunc_s_string_string_b2 s.1 s.2.1 s.2.2.1 s.2.2.2.1 s.2.2.2.2.1 s.2.2.2.2.2 R w) [_] (Q0 := fun e _ r w => match e with | .normal => slices_IndexFunc_s_string_string_p2.dec r (fun s => slices_IndexFunc_s_string_string_b2 s.1 s.2.1 s.2.2.1 s.2.2.2.1 s.2.2.2.2.1 s.2.2.2.2.2 R w) | .exit _ => False | .ret => retQ Tryd.prog Tryd.f85.results R .ret [] r w | _ => False) h (by kernel_rfl) (fun s r w h => ?_) slices_IndexFunc_s_string_string_p2_ok (fun _ _ _ h => h) ?_
      · obtain ⟨s2, s_n2, s_c2, f2, t7, t8⟩ := s
        have h : slices_IndexFunc_s_string_string_b2 s2 s_n2 s_c2 f2 t7 t8 R w := h
        refine Wp_block_via slices_IndexFunc_s_string_string_p1 (fun _ w => slices_IndexFunc_s_string_string_b0 R w) hN1 (fun hX2 => ?_)
        refine Wp_loop (p := slices_IndexFunc_s_string_string_p2) slices_IndexFunc_s_string_string_p2_ok (fun s r w K0 h => ?_) h
        obtain ⟨s3, s_n3, s_c3, f3, t71, t81⟩ := s
        have h : slices_IndexFunc_s_string_string_b1 s3 s_n3 s_c3 f3 t71 t81 K0 R w := h
        have hK3 := fun (s : (Option Addr) × Nat × Nat × Value × Int × Int) (r : Regs) (w : World) (h : K0 s w) => slices_IndexFunc_s_string_string_p2_re s r (fun s => K0 s w) h
        refine Wp_leaf_end (Q0 := fun e _ r w => match e with | .normal => slices_IndexFunc_s_string_string_p2.dec r (fun s => K0 s w) | .exit i => exitQ i 0 (slices_IndexFunc_s_string_string_p1.dec r (fun _ => slices_IndexFunc_s_string_string_b0 R w)) (False) | .ret => retQ Tryd.prog Tryd.f85.results R .ret [] r w | _ => False) h (by kernel_rfl) ?_
        intro e _ r w h
        cases e with
        | normal =>
          obtain ⟨s, hs, h⟩ := slices_IndexFunc_s_string_string_p2_ok _ _ h
          rw [← hs]
          exact hK3 s r w h
        | exit i =>
          rcases exitQ_elim h with ⟨rfl, h⟩ | ⟨_, h⟩
          · obtain ⟨s, hs, h⟩ := slices_IndexFunc_s_string_string_p1_ok _ _ h
            rw [← hs]
            exact hX2 s r w h
          exact h.elim
        | ret => exact h
        | goto i => exact h.elim
        | panic c => exact h.elim
        | outgrown => exact h.elim
      · intro e _ r w hne h
        cases e with
        | normal => exact absurd rfl hne
        | exit i => exact h.elim
        | ret => exact h
        | goto i => exact h.elim
        | panic c => exact h.elim
        | outgrown => exact h.elim
  · intro e _ r w hne h
    cases e with
    | normal => exact absurd rfl hne
    | exit i => exact h.elim
    | ret => exact h
    | goto i => exact h.elim
    | panic c => exact h.elim
    | outgrown => exact h.elim

/- slices.Sort[[]string,string] -/
def slices_Sort_s_string_string_b0 (x : Option Addr) (x_n : Nat) (x_c : Nat) (R : Value → World → Prop) (w : World) : Prop :=
  CallR Tryd.prog fn_math_bits_Len #[(.int .u64 (IntKind.wrap .u64 (x_n : Int)))] w fun res w_ =>
  mInt .i64 res fun v =>
  CallR Tryd.prog fn_slices_pdqsortOrdered_string #[(.slice x x_n x_c), (.int .i64 0), (.int .i64 (x_n : Int)), (.int .i64 v)] w_ fun res1 w_1 =>
  mTup res1 fun l =>
  mNil l (
  R (.tuple #[]) w_1)

set_option maxRecDepth 100000 in
theorem slices_Sort_s_string_string_sound (x : Option Addr) (x_n : Nat) (x_c : Nat) (R : Value → World → Prop) (w : World) (h : slices_Sort_s_string_string_b0 x x_n x_c R w) :
    CallR Tryd.prog fn_slices_Sort_s_string_string #[(.slice x x_n x_c)] w R := by
  refine CallR_intro (args := [(.slice x x_n x_c)]) Tryd.func68 rfl (Nat.le_of_ble_eq_true (by kernel_rfl)) ?_
  refine Wp_leaf_end (Q0 := fun e _ r w => match e with | .normal => retQ Tryd.prog Tryd.f68.results R .normal [] r w | .exit _ => False | .ret => retQ Tryd.prog Tryd.f68.results R .ret [] r w | _ => False) h (by kernel_rfl) ?_
  intro e _ r w h
  cases e with
  | normal => exact h
  | exit i => exact h.elim
  | ret => exact h
  | goto i => exact h.elim
  | panic c => exact h.elim
  | outgrown => exact h.elim

/- slices.pdqsortOrdered[string] -/
def slices_pdqsortOrdered_string_b0 (data5 : Option Addr) (data_n5 : Nat) (data_c5 : Nat) (a5 : Int) (b5 : Int) (limit5 : Int) (wasBalanced4 : Bool) (wasPartitioned4 : Bool) (length2 : Int) (pivot1 : Int) (K0 : ((Option Addr) × Nat × Nat × Int × Int × Int × Bool × Bool) → World → Prop) (w : World) : Prop :=
  LetW (World.drew w) fun w_6 =>
  Br (decide (a5 > 0)) (
  IX data5 data_n5 (IntKind.wrap .i64 (a5 - 1)) 1 fun a6 =>
  LDS w_6 a6 fun v5 =>
  IX data5 data_n5 pivot1 1 fun a7 =>
  LDS w_6 a7 fun v6 =>
  CallR Tryd.prog fn_cmp_Less_string #[(.string v5), (.string v6)] w_6 fun res6 w_7 =>
  mBool res6 fun v7 =>
  (w_7 = w_7 ∧ 
  Br (!v7) (
  CallR Tryd.prog fn_slices_partitionEqualOrdered_string #[(.slice data5 data_n5 data_c5), (.int .i64 a5), (.int .i64 b5), (.int .i64 pivot1)] w_7 fun res7 w_8 =>
  mInt .i64 res7 fun v8 =>
  K0 (data5, data_n5, data_c5, v8, b5, limit5, wasBalanced4, wasPartitioned4) w_8) (
  CallR Tryd.prog fn_slices_partitionOrdered_string #[(.slice data5 data_n5 data_c5), (.int .i64 a5), (.int .i64 b5), (.int .i64 pivot1)] w_7 fun res8 w_9 =>
  mTup res8 fun l7 =>
  mCons l7 fun v9 l8 =>
  mInt .i64 v9 fun v10 =>
  mCons l8 fun v11 l9 =>
  mBool v11 fun v12 =>
  mNil l9 (
  Req ((8 : Int) ≠ 0) (
  Br (decide ((IntKind.wrap .i64 (v10 - a5)) < (IntKind.wrap .i64 (b5 - v10)))) (
  CallR Tryd.prog fn_slices_pdqsortOrdered_string #[(.slice data5 data_n5 data_c5), (.int .i64 a5), (.int .i64 v10), (.int .i64 limit5)] w_9 fun res9 w_10 =>
  mTup res9 fun l10 =>
  mNil l10 (
  K0 (data5, data_n5, data_c5, IntKind.wrap .i64 (v10 + 1), b5, limit5, decide ((IntKind.wrap .i64 (v10 - a5)) ≥ (IntKind.wrap .i64 (Int.tdiv length2 8))), v12) w_10)) (
  CallR Tryd.prog fn_slices_pdqsortOrdered_string #[(.slice data5 data_n5 data_c5), (.int .i64 (IntKind.wrap .i64 (v10 + 1))), (.int .i64 b5), (.int .i64 limit5)] w_9 fun res10 w_11 =>
  mTup res10 fun l11 =>
  mNil l11 (
  K0 (data5, data_n5, data_c5, a5, v10, limit5, decide ((IntKind.wrap .i64 (b5 - v10)) ≥ (IntKind.wrap .i64 (Int.tdiv length2 8))), v12) w_11))))))) (
  CallR Tryd.prog fn_slices_partitionOrdered_string #[(.slice data5 data_n5 data_c5), (.int .i64 a5), (.int .i64 b5), (.int .i64 pivot1)] w_6 fun res11 w_12 =>
  mTup res11 fun l12 =>
  mCons l12 fun v13 l13 =>
  mInt .i64 v13 fun v14 =>
  mCons l13 fun v15 l14 =>
  mBool v15 fun v16 =>
  mNil l14 (
  Req ((8 : Int) ≠ 0) (
  Br (decide ((IntKind.wrap .i64 (v14 - a5)) < (IntKind.wrap .i64 (b5 - v14)))) (
  CallR Tryd.prog fn_slices_pdqsortOrdered_string #[(.slice data5 data_n5 data_c5), (.int .i64 a5), (.int .i64 v14), (.int .i64 limit5)] w_12 fun res12 w_13 =>
  mTup res12 fun l15 =>
  mNil l15 (
  K0 (data5, data_n5, data_c5, IntKind.wrap .i64 (v14 + 1), b5, limit5, decide ((IntKind.wrap .i64 (v14 - a5)) ≥ (IntKind.wrap .i64 (Int.tdiv length2 8))), v16) w_13)) (
  CallR Tryd.prog fn_slices_pdqsortOrdered_string #[(.slice data5 data_n5 data_c5), (.int .i64 (IntKind.wrap .i64 (v14 + 1))), (.int .i64 b5), (.int .i64 limit5)] w_12 fun res13 w_14 =>
  mTup res13 fun l16 =>
  mNil l16 (
  K0 (data5, data_n5, data_c5, a5, v14, limit5, decide ((IntKind.wrap .i64 (b5 - v14)) ≥ (IntKind.wrap .i64 (Int.tdiv length2 8))), v16) w_14)))))

def slices_pdqsortOrdered_string_b1 (data4 : Option Addr) (data_n4 : Nat) (data_c4 : Nat) (a4 : Int) (b4 : Int) (limit4 : Int) (wasBalanced3 : Bool) (wasPartitioned3 : Bool) (length1 : Int) (pivot : Int) (hint : Int) (K0 : ((Option Addr) × Nat × Nat × Int × Int × Int × Bool × Bool) → World → Prop) (R : Value → World → Prop) (w : World) : Prop :=
  Br wasBalanced3 (
  Br wasPartitioned3 (
  Br (hint == 1) (
  CallR Tryd.prog fn_slices_partialInsertionSortOrdered_string #[(.slice data4 data_n4 data_c4), (.int .i64 a4), (.int .i64 b4)] w fun res5 w_5 =>
  mBool res5 fun v4 =>
  Br v4 (
  R (.tuple #[]) w_5) (
  slices_pdqsortOrdered_string_b0 data4 data_n4 data_c4 a4 b4 limit4 wasBalanced3 wasPartitioned3 length1 pivot K0 w_5)) (
  slices_pdqsortOrdered_string_b0 data4 data_n4 data_c4 a4 b4 limit4 wasBalanced3 wasPartitioned3 length1 pivot K0 w)) (
  slices_pdqsortOrdered_string_b0 data4 data_n4 data_c4 a4 b4 limit4 wasBalanced3 wasPartitioned3 length1 pivot K0 w)) (
  slices_pdqsortOrdered_string_b0 data4 data_n4 data_c4 a4 b4 limit4 wasBalanced3 wasPartitioned3 length1 pivot K0 w)

def slices_pdqsortOrdered_string_b2 (data3 : Option Addr) (data_n3 : Nat) (data_c3 : Nat) (a3 : Int) (b3 : Int) (limit3 : Int) (wasBalanced2 : Bool) (wasPartitioned2 : Bool) (length : Int) (K0 : ((Option Addr) × Nat × Nat × Int × Int × Int × Bool × Bool) → World → Prop) (R : Value → World → Prop) (w : World) : Prop :=
  CallR Tryd.prog fn_slices_choosePivotOrdered_string #[(.slice data3 data_n3 data_c3), (.int .i64 a3), (.int .i64 b3)] w fun res3 w_3 =>
  mTup res3 fun l3 =>
  mCons l3 fun v l4 =>
  mInt .i64 v fun v1 =>
  mCons l4 fun v2 l5 =>
  mInt .i64 v2 fun v3 =>
  mNil l5 (
  Br (v3 == 2) (
  CallR Tryd.prog fn_slices_reverseRangeOrdered_string #[(.slice data3 data_n3 data_c3), (.int .i64 a3), (.int .i64 b3)] w_3 fun res4 w_4 =>
  mTup res4 fun l6 =>
  mNil l6 (
  slices_pdqsortOrdered_string_b1 data3 data_n3 data_c3 a3 b3 limit3 wasBalanced2 wasPartitioned2 length (IntKind.wrap .i64 ((IntKind.wrap .i64 (b3 - 1)) - (IntKind.wrap .i64 (v1 - a3)))) 1 K0 R w_4)) (
  slices_pdqsortOrdered_string_b1 data3 data_n3 data_c3 a3 b3 limit3 wasBalanced2 wasPartitioned2 length v1 v3 K0 R w_3))

def slices_pdqsortOrdered_string_b3 (data2 : Option Addr) (data_n2 : Nat) (data_c2 : Nat) (a2 : Int) (b2 : Int) (limit2 : Int) (wasBalanced1 : Bool) (wasPartitioned1 : Bool) (K0 : ((Option Addr) × Nat × Nat × Int × Int × Int × Bool × Bool) → World → Prop) (R : Value → World → Prop) (w : World) : Prop :=
  Br (decide ((IntKind.wrap .i64 (b2 - a2)) ≤ 12)) (
  CallR Tryd.prog fn_slices_insertionSortOrdered_string #[(.slice data2 data_n2 data_c2), (.int .i64 a2), (.int .i64 b2)] w fun res w_ =>
  mTup res fun l =>
  mNil l (
  R (.tuple #[]) w_)) (
  Br (limit2 == 0) (
  CallR Tryd.prog fn_slices_heapSortOrdered_string #[(.slice data2 data_n2 data_c2), (.int .i64 a2), (.int .i64 b2)] w fun res1 w_1 =>
  mTup res1 fun l1 =>
  mNil l1 (
  R (.tuple #[]) w_1)) (
  Br (!wasBalanced1) (
  CallR Tryd.prog fn_slices_breakPatternsOrdered_string #[(.slice data2 data_n2 data_c2), (.int .i64 a2), (.int .i64 b2)] w fun res2 w_2 =>
  mTup res2 fun l2 =>
  mNil l2 (
  slices_pdqsortOrdered_string_b2 data2 data_n2 data_c2 a2 b2 (IntKind.wrap .i64 (limit2 - 1)) wasBalanced1 wasPartitioned1 (IntKind.wrap .i64 (b2 - a2)) K0 R w_2)) (
  slices_pdqsortOrdered_string_b2 data2 data_n2 data_c2 a2 b2 limit2 wasBalanced1 wasPartitioned1 (IntKind.wrap .i64 (b2 - a2)) K0 R w)))

def slices_pdqsortOrdered_string_b4 (data1 : Option Addr) (data_n1 : Nat) (data_c1 : Nat) (a1 : Int) (b1 : Int) (limit1 : Int) (wasBalanced : Bool) (wasPartitioned : Bool) (R : Value → World → Prop) (w : World) : Prop :=
  LoopS (σ := (Option Addr) × Nat × Nat × Int × Int × Int × Bool × Bool) (fun s w K0 =>
  slices_pdqsortOrdered_string_b3 s.1 s.2.1 s.2.2.1 s.2.2.2.1 s.2.2.2.2.1 s.2.2.2.2.2.1 s.2.2.2.2.2.2.1 s.2.2.2.2.2.2.2 K0 R w) (data1, data_n1, data_c1, a1, b1, limit1, wasBalanced, wasPartitioned) w

def slices_pdqsortOrdered_string_b5 (data : Option Addr) (data_n : Nat) (data_c : Nat) (a : Int) (b : Int) (limit : Int) (R : Value → World → Prop) (w : World) : Prop :=
  slices_pdqsortOrdered_string_b4 data data_n data_c a b limit true true R w

def slices_pdqsortOrdered_string_p0 : Point ((Option Addr) × Nat × Nat × Int × Int × Int × Bool × Bool) := { slots := fun s => [(0, (.slice s.1 s.2.1 s.2.2.1)), (1, (.int .i64 s.2.2.2.1)), (2, (.int .i64 s.2.2.2.2.1)), (3, (.int .i64 s.2.2.2.2.2.1)), (8, (.bool s.2.2.2.2.2.2.1)), (9, (.bool s.2.2.2.2.2.2.2))], dec := fun r K => mSlice (r 0) fun x x1 x2 => mInt .i64 (r 1) fun x3 => mInt .i64 (r 2) fun x4 => mInt .i64 (r 3) fun x5 => mBool (r 8) fun x6 => mBool (r 9) fun x7 => K (x, x1, x2, x3, x4, x5, x6, x7) }
theorem slices_pdqsortOrdered_string_p0_ok : slices_pdqsortOrdered_string_p0.ok := by
  intro r K h
  unfold slices_pdqsortOrdered_string_p0 at h
  obtain ⟨x, x1, x2, e0, h⟩ := mSlice_elim h
  obtain ⟨x3, e1, h⟩ := mInt_elim h
  obtain ⟨x4, e2, h⟩ := mInt_elim h
  obtain ⟨x5, e3, h⟩ := mInt_elim h
  obtain ⟨x6, e4, h⟩ := mBool_elim h
  obtain ⟨x7, e5, h⟩ := mBool_elim h
  exact ⟨(x, x1, x2, x3, x4, x5, x6, x7), regsOf_self (L := [(0, (.slice x x1 x2)), (1, (.int .i64 x3)), (2, (.int .i64 x4)), (3, (.int .i64 x5)), (8, (.bool x6)), (9, (.bool x7))]) (List.forall_mem_cons.2 ⟨e0, List.forall_mem_cons.2 ⟨e1, List.forall_mem_cons.2 ⟨e2, List.forall_mem_cons.2 ⟨e3, List.forall_mem_cons.2 ⟨e4, List.forall_mem_cons.2 ⟨e5, List.forall_mem_nil _⟩⟩⟩⟩⟩⟩), h⟩
theorem slices_pdqsortOrdered_string_p0_re (s : (Option Addr) × Nat × Nat × Int × Int × Int × Bool × Bool) (r : Regs) (K : ((Option Addr) × Nat × Nat × Int × Int × Int × Bool × Bool) → Prop) (h : K s) : slices_pdqsortOrdered_string_p0.dec (regsOf (slices_pdqsortOrdered_string_p0.slots s) r) K := by
  obtain ⟨x8, x9, x10, x11, x12, x13, x14, x15⟩ := s
  exact cast (show K (x8, x9, x10, x11, x12, x13, x14, x15) = slices_pdqsortOrdered_string_p0.dec (regsOf (slices_pdqsortOrdered_string_p0.slots (x8, x9, x10, x11, x12, x13, x14, x15)) r) K by kernel_rfl) h

def slices_pdqsortOrdered_string_p1 : Point ((Option Addr) × Nat × Nat × Int × Int × Int × Bool × Bool × Int) := { slots := fun s => [(0, (.slice s.1 s.2.1 s.2.2.1)), (1, (.int .i64 s.2.2.2.1)), (2, (.int .i64 s.2.2.2.2.1)), (3, (.int .i64 s.2.2.2.2.2.1)), (8, (.bool s.2.2.2.2.2.2.1)), (9, (.bool s.2.2.2.2.2.2.2.1)), (10, (.int .i64 s.2.2.2.2.2.2.2.2))], dec := fun r K => mSlice (r 0) fun x x1 x2 => mInt .i64 (r 1) fun x3 => mInt .i64 (r 2) fun x4 => mInt .i64 (r 3) fun x5 => mBool (r 8) fun x6 => mBool (r 9) fun x7 => mInt .i64 (r 10) fun x8 => K (x, x1, x2, x3, x4, x5, x6, x7, x8) }
theorem slices_pdqsortOrdered_string_p1_ok : slices_pdqsortOrdered_string_p1.ok := by
  intro r K h
  unfold slices_pdqsortOrdered_string_p1 at h
  obtain ⟨x, x1, x2, e0, h⟩ := mSlice_elim h
  obtain ⟨x3, e1, h⟩ := mInt_elim h
  obtain ⟨x4, e2, h⟩ := mInt_elim h
  obtain ⟨x5, e3, h⟩ := mInt_elim h
  obtain ⟨x6, e4, h⟩ := mBool_elim h
  obtain ⟨x7, e5, h⟩ := mBool_elim h
  obtain ⟨x8, e6, h⟩ := mInt_elim h
  exact ⟨(x, x1, x2, x3, x4, x5, x6, x7, x8), regsOf_self (L := [(0, (.slice x x1 x2)), (1, (.int .i64 x3)), (2, (.int .i64 x4)), (3, (.int .i64 x5)), (8, (.bool x6)), (9, (.bool x7)), (10, (.int .i64 x8))]) (List.forall_mem_cons.2 ⟨e0, List.forall_mem_cons.2 ⟨e1, List.forall_mem_cons.2 ⟨e2, List.forall_mem_cons.2 ⟨e3, List.forall_mem_cons.2 ⟨e4, List.forall_mem_cons.2 ⟨e5, List.forall_mem_cons.2 ⟨e6, List.forall_mem_nil _⟩⟩⟩⟩⟩⟩⟩), h⟩
theorem slices_pdqsortOrdered_string_p1_re (s : (Option Addr) × Nat × Nat × Int × Int × Int × Bool × Bool × Int) (r : Regs) (K : ((Option Addr) × Nat × Nat × Int × Int × Int × Bool × Bool × Int) → Prop) (h : K s) : slices_pdqsortOrdered_string_p1.dec (regsOf (slices_pdqsortOrdered_string_p1.slots s) r) K := by
  obtain ⟨x9, x10, x11, x12, x13, x14, x15, x16, x17⟩ := s
  exact cast (show K (x9, x10, x11, x12, x13, x14, x15, x16, x17) = slices_pdqsortOrdered_string_p1.dec (regsOf (slices_pdqsortOrdered_string_p1.slots (x9, x10, x11, x12, x13, x14, x15, x16, x17)) r) K by kernel_rfl) h

def slices_pdqsortOrdered_string_p2 : Point ((Option Addr) × Nat × Nat × Int × Int × Int × Bool × Bool × Int × Int × Int) := { slots := fun s => [(0, (.slice s.1 s.2.1 s.2.2.1)), (1, (.int .i64 s.2.2.2.1)), (2, (.int .i64 s.2.2.2.2.1)), (3, (.int .i64 s.2.2.2.2.2.1)), (8, (.bool s.2.2.2.2.2.2.1)), (9, (.bool s.2.2.2.2.2.2.2.1)), (10, (.int .i64 s.2.2.2.2.2.2.2.2.1)), (11, (.int .i64 s.2.2.2.2.2.2.2.2.2.1)), (12, (.int .i64 s.2.2.2.2.2.2.2.2.2.2))], dec := fun r K => mSlice (r 0) fun x x1 x2 => mInt .i64 (r 1) fun x3 => mInt .i64 (r 2) fun x4 => mInt .i64 (r 3) fun x5 => mBool (r 8) fun x6 => mBool (r 9) fun x7 => mInt .i64 (r 10) fun x8 => mInt .i64 (r 11) fun x9 => mInt .i64 (r 12) fun x10 => K (x, x1, x2, x3, x4, x5, x6, x7, x8, x9, x10) }
theorem slices_pdqsortOrdered_string_p2_ok : slices_pdqsortOrdered_string_p2.ok := by
  intro r K h
  unfold slices_pdqsortOrdered_string_p2 at h
  obtain ⟨x, x1, x2, e0, h⟩ := mSlice_elim h
  obtain ⟨x3, e1, h⟩ := mInt_elim h
  obtain ⟨x4, e2, h⟩ := mInt_elim h
  obtain ⟨x5, e3, h⟩ := mInt_elim h
  obtain ⟨x6, e4, h⟩ := mBool_elim h
  obtain ⟨x7, e5, h⟩ := mBool_elim h
  obtain ⟨x8, e6, h⟩ := mInt_elim h
  obtain ⟨x9, e7, h⟩ := mInt_elim h
  obtain ⟨x10, e8, h⟩ := mInt_elim h
  exact ⟨(x, x1, x2, x3, x4, x5, x6, x7, x8, x9, x10), regsOf_self (L := [(0, (.slice x x1 x2)), (1, (.int .i64 x3)), (2, (.int .i64 x4)), (3, (.int .i64 x5)), (8, (.bool x6)), (9, (.bool x7)), (10, (.int .i64 x8)), (11, (.int .i64 x9)), (12, (.int .i64 x10))]) (List.forall_mem_cons.2 ⟨e0, List.forall_mem_cons.2 ⟨e1, List.forall_mem_cons.2 ⟨e2, List.forall_mem_cons.2 ⟨e3, List.forall_mem_cons.2 ⟨e4, List.forall_mem_cons.2 ⟨e5, List.forall_mem_cons.2 ⟨e6, List.forall_mem_cons.2 ⟨e7, List.forall_mem_cons.2 ⟨e8, List.forall_mem_nil _⟩⟩⟩⟩⟩⟩⟩⟩⟩), h⟩
theorem slices_pdqsortOrdered_string_p2_re (s : (Option Addr) × Nat × Nat × Int × Int × Int × Bool × Bool × Int × Int × Int) (r : Regs) (K : ((Option Addr) × Nat × Nat × Int × Int × Int × Bool × Bool × Int × Int × Int) → Prop) (h : K s) : slices_pdqsortOrdered_string_p2.dec (regsOf (slices_pdqsortOrdered_string_p2.slots s) r) K := by
  obtain ⟨x11, x12, x13, x14, x15, x16, x17, x18, x19, x20, x21⟩ := s
  exact cast (show K (x11, x12, x13, x14, x15, x16, x17, x18, x19, x20, x21) = slices_pdqsortOrdered_string_p2.dec (regsOf (slices_pdqsortOrdered_string_p2.slots (x11, x12, x13, x14, x15, x16, x17, x18, x19, x20, x21)) r) K by kernel_rfl) h

def slices_pdqsortOrdered_string_p3 : Point ((Option Addr) × Nat × Nat × Int × Int × Int × Bool × Bool × Int × Int) := { slots := fun s => [(0, (.slice s.1 s.2.1 s.2.2.1)), (1, (.int .i64 s.2.2.2.1)), (2, (.int .i64 s.2.2.2.2.1)), (3, (.int .i64 s.2.2.2.2.2.1)), (8, (.bool s.2.2.2.2.2.2.1)), (9, (.bool s.2.2.2.2.2.2.2.1)), (10, (.int .i64 s.2.2.2.2.2.2.2.2.1)), (11, (.int .i64 s.2.2.2.2.2.2.2.2.2))], dec := fun r K => mSlice (r 0) fun x x1 x2 => mInt .i64 (r 1) fun x3 => mInt .i64 (r 2) fun x4 => mInt .i64 (r 3) fun x5 => mBool (r 8) fun x6 => mBool (r 9) fun x7 => mInt .i64 (r 10) fun x8 => mInt .i64 (r 11) fun x9 => K (x, x1, x2, x3, x4, x5, x6, x7, x8, x9) }
theorem slices_pdqsortOrdered_string_p3_ok : slices_pdqsortOrdered_string_p3.ok := by
  intro r K h
  unfold slices_pdqsortOrdered_string_p3 at h
  obtain ⟨x, x1, x2, e0, h⟩ := mSlice_elim h
  obtain ⟨x3, e1, h⟩ := mInt_elim h
  obtain ⟨x4, e2, h⟩ := mInt_elim h
  obtain ⟨x5, e3, h⟩ := mInt_elim h
  obtain ⟨x6, e4, h⟩ := mBool_elim h
  obtain ⟨x7, e5, h⟩ := mBool_elim h
  obtain ⟨x8, e6, h⟩ := mInt_elim h
  obtain ⟨x9, e7, h⟩ := mInt_elim h
  exact ⟨(x, x1, x2, x3, x4, x5, x6, x7, x8, x9), regsOf_self (L := [(0, (.slice x x1 x2)), (1, (.int .i64 x3)), (2, (.int .i64 x4)), (3, (.int .i64 x5)), (8, (.bool x6)), (9, (.bool x7)), (10, (.int .i64 x8)), (11, (.int .i64 x9))]) (List.forall_mem_cons.2 ⟨e0, List.forall_mem_cons.2 ⟨e1, List.forall_mem_cons.2 ⟨e2, List.forall_mem_cons.2 ⟨e3, List.forall_mem_cons.2 ⟨e4, List.forall_mem_cons.2 ⟨e5, List.forall_mem_cons.2 ⟨e6, List.forall_mem_cons.2 ⟨e7, List.forall_mem_nil _⟩⟩⟩⟩⟩⟩⟩⟩), h⟩
theorem slices_pdqsortOrdered_string_p3_re (s : (Option Addr) × Nat × Nat × Int × Int × Int × Bool × Bool × Int × Int) (r : Regs) (K : ((Option Addr) × Nat × Nat × Int × Int × Int × Bool × Bool × Int × Int) → Prop) (h : K s) : slices_pdqsortOrdered_string_p3.dec (regsOf (slices_pdqsortOrdered_string_p3.slots s) r) K := by
  obtain ⟨x10, x11, x12, x13, x14, x15, x16, x17, x18, x19⟩ := s
  exact cast (show K (x10, x11, x12, x13, x14, x15, x16, x17, x18, x19) = slices_pdqsortOrdered_string_p3.dec (regsOf (slices_pdqsortOrdered_string_p3.slots (x10, x11, x12, x13, x14, x15, x16, x17, x18, x19)) r) K by kernel_rfl) h

set_option maxRecDepth 100000 in
theorem slices_pdqsortOrdered_string_sound (data : Option Addr) (data_n : Nat) (data_c : Nat) (a : Int) (b : Int) (limit : Int) (R : Value → World → Prop) (w : World) (h : slices_pdqsortOrdered_string_b5 data data_n data_c a b limit R w) :
    CallR Tryd.prog fn_slices_pdqsortOrdered_string #[(.slice data data_n data_c), (.int .i64 a), (.int .i64 b), (.int .i64 limit)] w R := by
  refine CallR_intro (args := [(.slice data data_n data_c), (.int .i64 a), (.int .i64 b), (.int .i64 limit)]) Tryd.func87 rfl (Nat.le_of_ble_eq_true (by kernel_rfl)) ?_
  refine Wp_glue slices_pdqsortOrdered_string_p0 (fun s w => slices_pdqsortOrdered_string_b4 s.1 s.2.1 s.2.2.1 s.2.2.2.1 s.2.2.2.2.1 s.2.2.2.2.2.1 s.2.2.2.2.2.2.1 s.2.2.2.2.2.2.2 R w) [_, _] (Q0 := fun e _ r w => match e with | .normal => slices_pdqsortOrdered_string_p0.dec r (fun s => slices_pdqsortOrdered_string_b4 s.1 s.2.1 s.2.2.1 s.2.2.2.1 s.2.2.2.2.1 s.2.2.2.2.2.1 s.2.2.2.2.2.2.1 s.2.2.2.2.2.2.2 R w) | .exit _ => False | .ret => retQ Tryd.prog Tryd.f87.results R .ret [] r w | _ => False) h (by kernel_rfl) (fun s r w h => ?_) slices_pdqsortOrdered_string_p0_ok (fun _ _ _ h => h) ?_
  · obtain ⟨data1, data_n1, data_c1, a1, b1, limit1, wasBalanced, wasPartitioned⟩ := s
    have h : slices_pdqsortOrdered_string_b4 data1 data_n1 data_c1 a1 b1 limit1 wasBalanced wasPartitioned R w := h
    refine Wp_block ?_
    refine Wp_loop (p := slices_pdqsortOrdered_string_p0) slices_pdqsortOrdered_string_p0_ok (fun s r w K0 h => ?_) h
    obtain ⟨data2, data_n2, data_c2, a2, b2, limit2, wasBalanced1, wasPartitioned1⟩ := s
    have h : slices_pdqsortOrdered_string_b3 data2 data_n2 data_c2 a2 b2 limit2 wasBalanced1 wasPartitioned1 K0 R w := h
    have hK2 := fun (s : (Option Addr) × Nat × Nat × Int × Int × Int × Bool × Bool) (r : Regs) (w : World) (h : K0 s w) => slices_pdqsortOrdered_string_p0_re s r (fun s => K0 s w) h
    refine Wp_block_via slices_pdqsortOrdered_string_p0 (fun s w => K0 s w) hK2 (fun hX3 => ?_)
    refine Wp_glue slices_pdqsortOrdered_string_p1 (fun s w => slices_pdqsortOrdered_string_b2 s.1 s.2.1 s.2.2.1 s.2.2.2.1 s.2.2.2.2.1 s.2.2.2.2.2.1 s.2.2.2.2.2.2.1 s.2.2.2.2.2.2.2.1 s.2.2.2.2.2.2.2.2 K0 R w) [_, _, _, _] (Q0 := fun e _ r w => match e with | .normal => slices_pdqsortOrdered_string_p1.dec r (fun s => slices_pdqsortOrdered_string_b2 s.1 s.2.1 s.2.2.1 s.2.2.2.1 s.2.2.2.2.1 s.2.2.2.2.2.1 s.2.2.2.2.2.2.1 s.2.2.2.2.2.2.2.1 s.2.2.2.2.2.2.2.2 K0 R w) | .exit i => exitQ i 1 (slices_pdqsortOrdered_string_p0.dec r (fun s => K0 s w)) (False) | .ret => retQ Tryd.prog Tryd.f87.results R .ret [] r w | _ => False) h (by kernel_rfl) (fun s r w h => ?_) slices_pdqsortOrdered_string_p1_ok (fun _ _ _ h => h) ?_
    · obtain ⟨data3, data_n3, data_c3, a3, b3, limit3, wasBalanced2, wasPartitioned2, length⟩ := s
      have h : slices_pdqsortOrdered_string_b2 data3 data_n3 data_c3 a3 b3 limit3 wasBalanced2 wasPartitioned2 length K0 R w := h
      refine Wp_glue slices_pdqsortOrdered_string_p2 (fun s w => slices_pdqsortOrdered_string_b1 s.1 s.2.1 s.2.2.1 s.2.2.2.1 s.2.2.2.2.1 s.2.2.2.2.2.1 s.2.2.2.2.2.2.1 s.2.2.2.2.2.2.2.1 s.2.2.2.2.2.2.2.2.1 s.2.2.2.2.2.2.2.2.2.1 s.2.2.2.2.2.2.2.2.2.2 K0 R w) [_, _] (Q0 := fun e _ r w => match e with | .normal => slices_pdqsortOrdered_string_p2.dec r (fun s => slices_pdqsortOrdered_string_b1 s.1 s.2.1 s.2.2.1 s.2.2.2.1 s.2.2.2.2.1 s.2.2.2.2.2.1 s.2.2.2.2.2.2.1 s.2.2.2.2.2.2.2.1 s.2.2.2.2.2.2.2.2.1 s.2.2.2.2.2.2.2.2.2.1 s.2.2.2.2.2.2.2.2.2.2 K0 R w) | .exit i => exitQ i 1 (slices_pdqsortOrdered_string_p0.dec r (fun s => K0 s w)) (False) | .ret => retQ Tryd.prog Tryd.f87.results R .ret [] r w | _ => False) h (by kernel_rfl) (fun s r w h => ?_) slices_pdqsortOrdered_string_p2_ok (fun _ _ _ h => h) ?_
      · obtain ⟨data4, data_n4, data_c4, a4, b4, limit4, wasBalanced3, wasPartitioned3, length1, pivot, hint⟩ := s
        have h : slices_pdqsortOrdered_string_b1 data4 data_n4 data_c4 a4 b4 limit4 wasBalanced3 wasPartitioned3 length1 pivot hint K0 R w := h
        refine Wp_glue slices_pdqsortOrdered_string_p3 (fun s w => slices_pdqsortOrdered_string_b0 s.1 s.2.1 s.2.2.1 s.2.2.2.1 s.2.2.2.2.1 s.2.2.2.2.2.1 s.2.2.2.2.2.2.1 s.2.2.2.2.2.2.2.1 s.2.2.2.2.2.2.2.2.1 s.2.2.2.2.2.2.2.2.2 K0 w) [_] (Q0 := fun e _ r w => match e with | .normal => slices_pdqsortOrdered_string_p3.dec r (fun s => slices_pdqsortOrdered_string_b0 s.1 s.2.1 s.2.2.1 s.2.2.2.1 s.2.2.2.2.1 s.2.2.2.2.2.1 s.2.2.2.2.2.2.1 s.2.2.2.2.2.2.2.1 s.2.2.2.2.2.2.2.2.1 s.2.2.2.2.2.2.2.2.2 K0 w) | .exit i => exitQ i 1 (slices_pdqsortOrdered_string_p0.dec r (fun s => K0 s w)) (False) | .ret => retQ Tryd.prog Tryd.f87.results R .ret [] r w | _ => False) h (by kernel_rfl) (fun s r w h => ?_) slices_pdqsortOrdered_string_p3_ok (fun _ _ _ h => h) ?_
        · obtain ⟨data5, data_n5, data_c5, a5, b5, limit5, wasBalanced4, wasPartitioned4, length2, pivot1⟩ := s
          have h : slices_pdqsortOrdered_string_b0 data5 data_n5 data_c5 a5 b5 limit5 wasBalanced4 wasPartitioned4 length2 pivot1 K0 w := h
          refine Wp_leaf_end (Q0 := fun e _ r w => match e with | .normal => slices_pdqsortOrdered_string_p0.dec r (fun s => K0 s w) | .exit i => exitQ i 1 (slices_pdqsortOrdered_string_p0.dec r (fun s => K0 s w)) (False) | .ret => retQ Tryd.prog Tryd.f87.results R .ret [] r w | _ => False) h (by kernel_rfl) ?_
          intro e _ r w h
          cases e with
          | normal =>
            obtain ⟨s, hs, h⟩ := slices_pdqsortOrdered_string_p0_ok _ _ h
            rw [← hs]
            exact hK2 s r w h
          | exit i =>
            rcases exitQ_elim h with ⟨rfl, h⟩ | ⟨_, h⟩
            · obtain ⟨s, hs, h⟩ := slices_pdqsortOrdered_string_p0_ok _ _ h
              rw [← hs]
              exact hX3 s r w h
            exact h.elim
          | ret => exact h
          | goto i => exact h.elim
          | panic c => exact h.elim
          | outgrown => exact h.elim
        · intro e _ r w hne h
          cases e with
          | normal => exact absurd rfl hne
          | exit i =>
            rcases exitQ_elim h with ⟨rfl, h⟩ | ⟨_, h⟩
            · obtain ⟨s, hs, h⟩ := slices_pdqsortOrdered_string_p0_ok _ _ h
              rw [← hs]
              exact hX3 s r w h
            exact h.elim
          | ret => exact h
          | goto i => exact h.elim
          | panic c => exact h.elim
          | outgrown => exact h.elim
      · intro e _ r w hne h
        cases e with
        | normal => exact absurd rfl hne
        | exit i =>
          rcases exitQ_elim h with ⟨rfl, h⟩ | ⟨_, h⟩
          · obtain ⟨s, hs, h⟩ := slices_pdqsortOrdered_string_p0_ok _ _ h
            rw [← hs]
            exact hX3 s r w h
          exact h.elim
        | ret => exact h
        | goto i => exact h.elim
        | panic c => exact h.elim
        | outgrown => exact h.elim
    · intro e _ r w hne h
      cases e with
      | normal => exact absurd rfl hne
      | exit i =>
        rcases exitQ_elim h with ⟨rfl, h⟩ | ⟨_, h⟩
        · obtain ⟨s, hs, h⟩ := slices_pdqsortOrdered_string_p0_ok _ _ h
          rw [← hs]
          exact hX3 s r w h
        exact h.elim
      | ret => exact h
      | goto i => exact h.elim
      | panic c => exact h.elim
      | outgrown => exact h.elim
  · intro e _ r w hne h
    cases e with
    | normal => exact absurd rfl hne
    | exit i => exact h.elim
    | ret => exact h
    | goto i => exact h.elim
    | panic c => exact h.elim
    | outgrown => exact h.elim

/- slices.insertionSortOrdered[string] -/
def slices_insertionSortOrdered_string_b0 (data6 : Option Addr) (data_n6 : Nat) (data_c6 : Nat) (a12 : Int) (b6 : Int) (i5 : Int) (K0 : ((Option Addr) × Nat × Nat × Int × Int × Int) → World → Prop) (w : World) : Prop :=
  K0 (data6, data_n6, data_c6, a12, b6, IntKind.wrap .i64 (i5 + 1)) w

def slices_insertionSortOrdered_string_b1 (data5 : Option Addr) (data_n5 : Nat) (data_c5 : Nat) (a5 : Int) (b5 : Int) (i4 : Int) (j1 : Int) (K0 : ((Option Addr) × Nat × Nat × Int × Int × Int) → World → Prop) (K1 : ((Option Addr) × Nat × Nat × Int × Int × Int × Int) → World → Prop) (w : World) : Prop :=
  LetW (World.drew w) fun w_ =>
  Br (decide (j1 > a5)) (
  IX data5 data_n5 j1 1 fun a6 =>
  LDS w_ a6 fun v =>
  IX data5 data_n5 (IntKind.wrap .i64 (j1 - 1)) 1 fun a7 =>
  LDS w_ a7 fun v1 =>
  CallR Tryd.prog fn_cmp_Less_string #[(.string v), (.string v1)] w_ fun res w_1 =>
  mBool res fun v2 =>
  Br v2 (
  LetW (World.drew w_1) fun w_2 =>
  IX data5 data_n5 (IntKind.wrap .i64 (j1 - 1)) 1 fun a8 =>
  LDS w_2 a8 fun v3 =>
  IX data5 data_n5 j1 1 fun a9 =>
  LDS w_2 a9 fun v4 =>
  IX data5 data_n5 j1 1 fun a10 =>
  ST w_2 a10 (.string v3) fun w_3 =>
  IX data5 data_n5 (IntKind.wrap .i64 (j1 - 1)) 1 fun a11 =>
  ST w_3 a11 (.string v4) fun w_4 =>
  K1 (data5, data_n5, data_c5, a5, b5, i4, IntKind.wrap .i64 (j1 - 1)) w_4) (
  slices_insertionSortOrdered_string_b0 data5 data_n5 data_c5 a5 b5 i4 K0 w_1)) (
  slices_insertionSortOrdered_string_b0 data5 data_n5 data_c5 a5 b5 i4 K0 w_)

def slices_insertionSortOrdered_string_b2 (data4 : Option Addr) (data_n4 : Nat) (data_c4 : Nat) (a4 : Int) (b4 : Int) (i3 : Int) (j : Int) (K0 : ((Option Addr) × Nat × Nat × Int × Int × Int) → World → Prop) (w : World) : Prop :=
  LoopS (σ := (Option Addr) × Nat × Nat × Int × Int × Int × Int) (fun s w K1 =>
  slices_insertionSortOrdered_string_b1 s.1 s.2.1 s.2.2.1 s.2.2.2.1 s.2.2.2.2.1 s.2.2.2.2.2.1 s.2.2.2.2.2.2 K0 K1 w) (data4, data_n4, data_c4, a4, b4, i3, j) w

def slices_insertionSortOrdered_string_b3 (data3 : Option Addr) (data_n3 : Nat) (data_c3 : Nat) (a3 : Int) (b3 : Int) (i2 : Int) (K0 : ((Option Addr) × Nat × Nat × Int × Int × Int) → World → Prop) (w : World) : Prop :=
  slices_insertionSortOrdered_string_b2 data3 data_n3 data_c3 a3 b3 i2 i2 K0 w

def slices_insertionSortOrdered_string_b4 (R : Value → World → Prop) (w : World) : Prop :=
  R (.tuple #[]) w

def slices_insertionSortOrdered_string_b5 (data2 : Option Addr) (data_n2 : Nat) (data_c2 : Nat) (a2 : Int) (b2 : Int) (i1 : Int) (K0 : ((Option Addr) × Nat × Nat × Int × Int × Int) → World → Prop) (R : Value → World → Prop) (w : World) : Prop :=
  Br (decide (i1 < b2)) (
  slices_insertionSortOrdered_string_b3 data2 data_n2 data_c2 a2 b2 i1 K0 w) (
  slices_insertionSortOrdered_string_b4 R w)

def slices_insertionSortOrdered_string_b6 (data1 : Option Addr) (data_n1 : Nat) (data_c1 : Nat) (a1 : Int) (b1 : Int) (i : Int) (R : Value → World → Prop) (w : World) : Prop :=
  LoopS (σ := (Option Addr) × Nat × Nat × Int × Int × Int) (fun s w K0 =>
  slices_insertionSortOrdered_string_b5 s.1 s.2.1 s.2.2.1 s.2.2.2.1 s.2.2.2.2.1 s.2.2.2.2.2 K0 R w) (data1, data_n1, data_c1, a1, b1, i) w

def slices_insertionSortOrdered_string_b7 (data : Option Addr) (data_n : Nat) (data_c : Nat) (a : Int) (b : Int) (R : Value → World → Prop) (w : World) : Prop :=
  slices_insertionSortOrdered_string_b6 data data_n data_c a b (IntKind.wrap .i64 (a + 1)) R w

def slices_insertionSortOrdered_string_p0 : Point ((Option Addr) × Nat × Nat × Int × Int × Int) := { slots := fun s => [(0, (.slice s.1 s.2.1 s.2.2.1)), (1, (.int .i64 s.2.2.2.1)), (2, (.int .i64 s.2.2.2.2.1)), (6, (.int .i64 s.2.2.2.2.2))], dec := fun r K => mSlice (r 0) fun x x1 x2 => mInt .i64 (r 1) fun x3 => mInt .i64 (r 2) fun x4 => mInt .i64 (r 6) fun x5 => K (x, x1, x2, x3, x4, x5) }
theorem slices_insertionSortOrdered_string_p0_ok : slices_insertionSortOrdered_string_p0.ok := by
  intro r K h
  unfold slices_insertionSortOrdered_string_p0 at h
  obtain ⟨x, x1, x2, e0, h⟩ := mSlice_elim h
  obtain ⟨x3, e1, h⟩ := mInt_elim h
  obtain ⟨x4, e2, h⟩ := mInt_elim h
  obtain ⟨x5, e3, h⟩ := mInt_elim h
  exact ⟨(x, x1, x2, x3, x4, x5), regsOf_self (L := [(0, (.slice x x1 x2)), (1, (.int .i64 x3)), (2, (.int .i64 x4)), (6, (.int .i64 x5))]) (List.forall_mem_cons.2 ⟨e0, List.forall_mem_cons.2 ⟨e1, List.forall_mem_cons.2 ⟨e2, List.forall_mem_cons.2 ⟨e3, List.forall_mem_nil _⟩⟩⟩⟩), h⟩
theorem slices_insertionSortOrdered_string_p0_re (s : (Option Addr) × Nat × Nat × Int × Int × Int) (r : Regs) (K : ((Option Addr) × Nat × Nat × Int × Int × Int) → Prop) (h : K s) : slices_insertionSortOrdered_string_p0.dec (regsOf (slices_insertionSortOrdered_string_p0.slots s) r) K := by
  obtain ⟨x6, x7, x8, x9, x10, x11⟩ := s
  exact cast (show K (x6, x7, x8, x9, x10, x11) = slices_insertionSortOrdered_string_p0.dec (regsOf (slices_insertionSortOrdered_string_p0.slots (x6, x7, x8, x9, x10, x11)) r) K by kernel_rfl) h

def slices_insertionSortOrdered_string_p1 : Point ((Option Addr) × Nat × Nat × Int × Int × Int) := { slots := fun s => [(0, (.slice s.1 s.2.1 s.2.2.1)), (1, (.int .i64 s.2.2.2.1)), (2, (.int .i64 s.2.2.2.2.1)), (6, (.int .i64 s.2.2.2.2.2))], dec := fun r K => mSlice (r 0) fun x x1 x2 => mInt .i64 (r 1) fun x3 => mInt .i64 (r 2) fun x4 => mInt .i64 (r 6) fun x5 => K (x, x1, x2, x3, x4, x5) }
theorem slices_insertionSortOrdered_string_p1_ok : slices_insertionSortOrdered_string_p1.ok := by
  intro r K h
  unfold slices_insertionSortOrdered_string_p1 at h
  obtain ⟨x, x1, x2, e0, h⟩ := mSlice_elim h
  obtain ⟨x3, e1, h⟩ := mInt_elim h
  obtain ⟨x4, e2, h⟩ := mInt_elim h
  obtain ⟨x5, e3, h⟩ := mInt_elim h
  exact ⟨(x, x1, x2, x3, x4, x5), regsOf_self (L := [(0, (.slice x x1 x2)), (1, (.int .i64 x3)), (2, (.int .i64 x4)), (6, (.int .i64 x5))]) (List.forall_mem_cons.2 ⟨e0, List.forall_mem_cons.2 ⟨e1, List.forall_mem_cons.2 ⟨e2, List.forall_mem_cons.2 ⟨e3, List.forall_mem_nil _⟩⟩⟩⟩), h⟩
theorem slices_insertionSortOrdered_string_p1_re (s : (Option Addr) × Nat × Nat × Int × Int × Int) (r : Regs) (K : ((Option Addr) × Nat × Nat × Int × Int × Int) → Prop) (h : K s) : slices_insertionSortOrdered_string_p1.dec (regsOf (slices_insertionSortOrdered_string_p1.slots s) r) K := by
  obtain ⟨x6, x7, x8, x9, x10, x11⟩ := s
  exact cast (show K (x6, x7, x8, x9, x10, x11) = slices_insertionSortOrdered_string_p1.dec (regsOf (slices_insertionSortOrdered_string_p1.slots (x6, x7, x8, x9, x10, x11)) r) K by kernel_rfl) h

def slices_insertionSortOrdered_string_p2 : Point ((Option Addr) × Nat × Nat × Int × Int × Int) := { slots := fun s => [(0, (.slice s.1 s.2.1 s.2.2.1)), (1, (.int .i64 s.2.2.2.1)), (2, (.int .i64 s.2.2.2.2.1)), (6, (.int .i64 s.2.2.2.2.2))], dec := fun r K => mSlice (r 0) fun x x1 x2 => mInt .i64 (r 1) fun x3 => mInt .i64 (r 2) fun x4 => mInt .i64 (r 6) fun x5 => K (x, x1, x2, x3, x4, x5) }
theorem slices_insertionSortOrdered_string_p2_ok : slices_insertionSortOrdered_string_p2.ok := by
  intro r K h
  unfold slices_insertionSortOrdered_string_p2 at h
  obtain ⟨x, x1, x2, e0, h⟩ := mSlice_elim h
  obtain ⟨x3, e1, h⟩ := mInt_elim h
  obtain ⟨x4, e2, h⟩ := mInt_elim h
  obtain ⟨x5, e3, h⟩ := mInt_elim h
  exact ⟨(x, x1, x2, x3, x4, x5), regsOf_self (L := [(0, (.slice x x1 x2)), (1, (.int .i64 x3)), (2, (.int .i64 x4)), (6, (.int .i64 x5))]) (List.forall_mem_cons.2 ⟨e0, List.forall_mem_cons.2 ⟨e1, List.forall_mem_cons.2 ⟨e2, List.forall_mem_cons.2 ⟨e3, List.forall_mem_nil _⟩⟩⟩⟩), h⟩
theorem slices_insertionSortOrdered_string_p2_re (s : (Option Addr) × Nat × Nat × Int × Int × Int) (r : Regs) (K : ((Option Addr) × Nat × Nat × Int × Int × Int) → Prop) (h : K s) : slices_insertionSortOrdered_string_p2.dec (regsOf (slices_insertionSortOrdered_string_p2.slots s) r) K := by
  obtain ⟨x6, x7, x8, x9, x10, x11⟩ := s
  exact cast (show K (x6, x7, x8, x9, x10, x11) = slices_insertionSortOrdered_string_p2.dec (regsOf (slices_insertionSortOrdered_string_p2.slots (x6, x7, x8, x9, x10, x11)) r) K by kernel_rfl) h

def slices_insertionSortOrdered_string_p3 : Point ((Option Addr) × Nat × Nat × Int × Int × Int × Int) := { slots := fun s => [(0, (.slice s.1 s.2.1 s.2.2.1)), (1, (.int .i64 s.2.2.2.1)), (2, (.int .i64 s.2.2.2.2.1)), (6, (.int .i64 s.2.2.2.2.2.1)), (7, (.int .i64 s.2.2.2.2.2.2))], dec := fun r K => mSlice (r 0) fun x x1 x2 => mInt .i64 (r 1) fun x3 => mInt .i64 (r 2) fun x4 => mInt .i64 (r 6) fun x5 => mInt .i64 (r 7) fun x6 => K (x, x1, x2, x3, x4, x5, x6) }
theorem slices_insertionSortOrdered_string_p3_ok : slices_insertionSortOrdered_string_p3.ok := by
  intro r K h
  unfold slices_insertionSortOrdered_string_p3 at h
  obtain ⟨x, x1, x2, e0, h⟩ := mSlice_elim h
  obtain ⟨x3, e1, h⟩ := mInt_elim h
  obtain ⟨x4, e2, h⟩ := mInt_elim h
  obtain ⟨x5, e3, h⟩ := mInt_elim h
  obtain ⟨x6, e4, h⟩ := mInt_elim h
  exact ⟨(x, x1, x2, x3, x4, x5, x6), regsOf_self (L := [(0, (.slice x x1 x2)), (1, (.int .i64 x3)), (2, (.int .i64 x4)), (6, (.int .i64 x5)), (7, (.int .i64 x6))]) (List.forall_mem_cons.2 ⟨e0, List.forall_mem_cons.2 ⟨e1, List.forall_mem_cons.2 ⟨e2, List.forall_mem_cons.2 ⟨e3, List.forall_mem_cons.2 ⟨e4, List.forall_mem_nil _⟩⟩⟩⟩⟩), h⟩
theorem slices_insertionSortOrdered_string_p3_re (s : (Option Addr) × Nat × Nat × Int × Int × Int × Int) (r : Regs) (K : ((Option Addr) × Nat × Nat × Int × Int × Int × Int) → Prop) (h : K s) : slices_insertionSortOrdered_string_p3.dec (regsOf (slices_insertionSortOrdered_string_p3.slots s) r) K := by
  obtain ⟨x7, x8, x9, x10, x11, x12, x13⟩ := s
  exact cast (show K (x7, x8, x9, x10, x11, x12, x13) = slices_insertionSortOrdered_string_p3.dec (regsOf (slices_insertionSortOrdered_string_p3.slots (x7, x8, x9, x10, x11, x12, x13)) r) K by kernel_rfl) h

def slices_insertionSortOrdered_string_p4 : Point (Unit) := { slots := fun _ => [], dec := fun _ K => K () }
theorem slices_insertionSortOrdered_string_p4_ok : slices_insertionSortOrdered_string_p4.ok := by
  intro r K h
  unfold slices_insertionSortOrdered_string_p4 at h
  exact ⟨(), regsOf_self (L := []) (List.forall_mem_nil _), h⟩
theorem slices_insertionSortOrdered_string_p4_re (s : Unit) (r : Regs) (K : Unit → Prop) (h : K s) : slices_insertionSortOrdered_string_p4.dec (regsOf (slices_insertionSortOrdered_string_p4.slots s) r) K := by
  exact cast (show K () = slices_insertionSortOrdered_string_p4.dec (regsOf (slices_insertionSortOrdered_string_p4.slots ()) r) K by kernel_rfl) h

set_option maxRecDepth 100000 in
theorem slices_insertionSortOrdered_string_sound (data : Option Addr) (data_n : Nat) (data_c : Nat) (a : Int) (b : Int) (R : Value → World → Prop) (w : World) (h : slices_insertionSortOrdered_string_b7 data data_n data_c a b R w) :
    CallR Tryd.prog fn_slices_insertionSortOrdered_string #[(.slice data data_n data_c), (.int .i64 a), (.int .i64 b)] w R := by
  refine CallR_intro (args := [(.slice data data_n data_c), (.int .i64 a), (.int .i64 b)]) Tryd.func109 rfl (Nat.le_of_ble_eq_true (by kernel_rfl)) ?_
  have hEnd : ∀ (s : Unit) (r : Regs) (w : World), slices_insertionSortOrdered_string_b4 R w → retQ Tryd.prog Tryd.f109.results R .normal [] (regsOf (slices_insertionSortOrdered_string_p4.slots s) r) w := by
    intro s r w h
    cases s
    have h : slices_insertionSortOrdered_string_b4 R w := h
    exact cast (show (slices_insertionSortOrdered_string_b4 R w) = retQ Tryd.prog Tryd.f109.results R .normal [] (regsOf (slices_insertionSortOrdered_string_p4.slots ()) r) w by kernel_rfl) h
  refine Wp_glue slices_insertionSortOrdered_string_p0 (fun s w => slices_insertionSortOrdered_string_b6 s.1 s.2.1 s.2.2.1 s.2.2.2.1 s.2.2.2.2.1 s.2.2.2.2.2 R w) [_] (Q0 := fun e _ r w => match e with | .normal => slices_insertionSortOrdered_string_p0.dec r (fun s => slices_insertionSortOrdered_string_b6 s.1 s.2.1 s.2.2.1 s.2.2.2.1 s.2.2.2.2.1 s.2.2.2.2.2 R w) | .exit _ => False | .ret => retQ Tryd.prog Tryd.f109.results R .ret [] r w | _ => False) h (by kernel_rfl) (fun s r w h => ?_) slices_insertionSortOrdered_string_p0_ok (fun _ _ _ h => h) ?_
  · obtain ⟨data1, data_n1, data_c1, a1, b1, i⟩ := s
    have h : slices_insertionSortOrdered_string_b6 data1 data_n1 data_c1 a1 b1 i R w := h
    refine Wp_block_via slices_insertionSortOrdered_string_p4 (fun _ w => slices_insertionSortOrdered_string_b4 R w) hEnd (fun hX1 => ?_)
    refine Wp_loop (p := slices_insertionSortOrdered_string_p0) slices_insertionSortOrdered_string_p0_ok (fun s r w K0 h => ?_) h
    obtain ⟨data2, data_n2, data_c2, a2, b2, i1⟩ := s
    have h : slices_insertionSortOrdered_string_b5 data2 data_n2 data_c2 a2 b2 i1 K0 R w := h
    have hK2 := fun (s : (Option Addr) × Nat × Nat × Int × Int × Int) (r : Regs) (w : World) (h : K0 s w) => slices_insertionSortOrdered_string_p0_re s r (fun s => K0 s w) h
    refine Wp_glue slices_insertionSortOrdered_string_p1 (fun s w => slices_insertionSortOrdered_string_b3 s.1 s.2.1 s.2.2.1 s.2.2.2.1 s.2.2.2.2.1 s.2.2.2.2.2 K0 w) [_] (Q0 := fun e _ r w => match e with | .normal => slices_insertionSortOrdered_string_p1.dec r (fun s => slices_insertionSortOrdered_string_b3 s.1 s.2.1 s.2.2.1 s.2.2.2.1 s.2.2.2.2.1 s.2.2.2.2.2 K0 w) | .exit i => exitQ i 0 (slices_insertionSortOrdered_string_p4.dec r (fun _ => slices_insertionSortOrdered_string_b4 R w)) (False) | .ret => retQ Tryd.prog Tryd.f109.results R .ret [] r w | _ => False) h (by kernel_rfl) (fun s r w h => ?_) slices_insertionSortOrdered_string_p1_ok (fun _ _ _ h => h) ?_
    · obtain ⟨data3, data_n3, data_c3, a3, b3, i2⟩ := s
      have h : slices_insertionSortOrdered_string_b3 data3 data_n3 data_c3 a3 b3 i2 K0 w := h
      refine Wp_seq_via slices_insertionSortOrdered_string_p2 (fun s w => slices_insertionSortOrdered_string_b0 s.1 s.2.1 s.2.2.1 s.2.2.2.1 s.2.2.2.2.1 s.2.2.2.2.2 K0 w) (fun s r w h => ?_) (fun hN3 => ?_)
      · obtain ⟨data6, data_n6, data_c6, a12, b6, i5⟩ := s
        have h : slices_insertionSortOrdered_string_b0 data6 data_n6 data_c6 a12 b6 i5 K0 w := h
        refine Wp_leaf_end (Q0 := fun e _ r w => match e with | .normal => slices_insertionSortOrdered_string_p0.dec r (fun s => K0 s w) | .exit i => exitQ i 0 (slices_insertionSortOrdered_string_p4.dec r (fun _ => slices_insertionSortOrdered_string_b4 R w)) (False) | .ret => retQ Tryd.prog Tryd.f109.results R .ret [] r w | _ => False) h (by kernel_rfl) ?_
        intro e _ r w h
        cases e with
        | normal =>
          obtain ⟨s, hs, h⟩ := slices_insertionSortOrdered_string_p0_ok _ _ h
          rw [← hs]
          exact hK2 s r w h
        | exit i =>
          rcases exitQ_elim h with ⟨rfl, h⟩ | ⟨_, h⟩
          · obtain ⟨s, hs, h⟩ := slices_insertionSortOrdered_string_p4_ok _ _ h
            rw [← hs]
            exact hX1 s r w h
          exact h.elim
        | ret => exact h
        | goto i => exact h.elim
        | panic c => exact h.elim
        | outgrown => exact h.elim
      · refine Wp_block_via slices_insertionSortOrdered_string_p2 (fun s w => slices_insertionSortOrdered_string_b0 s.1 s.2.1 s.2.2.1 s.2.2.2.1 s.2.2.2.2.1 s.2.2.2.2.2 K0 w) hN3 (fun hX4 => ?_)
        refine Wp_glue slices_insertionSortOrdered_string_p3 (fun s w => slices_insertionSortOrdered_string_b2 s.1 s.2.1 s.2.2.1 s.2.2.2.1 s.2.2.2.2.1 s.2.2.2.2.2.1 s.2.2.2.2.2.2 K0 w) [_] (Q0 := fun e _ r w => match e with | .normal => slices_insertionSortOrdered_string_p3.dec r (fun s => slices_insertionSortOrdered_string_b2 s.1 s.2.1 s.2.2.1 s.2.2.2.1 s.2.2.2.2.1 s.2.2.2.2.2.1 s.2.2.2.2.2.2 K0 w) | .exit i => exitQ i 0 (slices_insertionSortOrdered_string_p4.dec r (fun _ => slices_insertionSortOrdered_string_b4 R w)) (exitQ i 1 (slices_insertionSortOrdered_string_p2.dec r (fun s => slices_insertionSortOrdered_string_b0 s.1 s.2.1 s.2.2.1 s.2.2.2.1 s.2.2.2.2.1 s.2.2.2.2.2 K0 w)) (False)) | .ret => retQ Tryd.prog Tryd.f109.results R .ret [] r w | _ => False) h (by kernel_rfl) (fun s r w h => ?_) slices_insertionSortOrdered_string_p3_ok (fun _ _ _ h => h) ?_
        · obtain ⟨data4, data_n4, data_c4, a4, b4, i3, j⟩ := s
          have h : slices_insertionSortOrdered_string_b2 data4 data_n4 data_c4 a4 b4 i3 j K0 w := h
          refine Wp_block_via slices_insertionSortOrdered_string_p2 (fun s w => slices_insertionSortOrdered_string_b0 s.1 s.2.1 s.2.2.1 s.2.2.2.1 s.2.2.2.2.1 s.2.2.2.2.2 K0 w) hN3 (fun hX5 => ?_)
          refine Wp_loop (p := slices_insertionSortOrdered_string_p3) slices_insertionSortOrdered_string_p3_ok (fun s r w K1 h => ?_) h
          obtain ⟨data5, data_n5, data_c5, a5, b5, i4, j1⟩ := s
          have h : slices_insertionSortOrdered_string_b1 data5 data_n5 data_c5 a5 b5 i4 j1 K0 K1 w := h
          have hK6 := fun (s : (Option Addr) × Nat × Nat × Int × Int × Int × Int) (r : Regs) (w : World) (h : K1 s w) => slices_insertionSortOrdered_string_p3_re s r (fun s => K1 s w) h
          refine Wp_leaf_end (Q0 := fun e _ r w => match e with | .normal => slices_insertionSortOrdered_string_p3.dec r (fun s => K1 s w) | .exit i => exitQ i 0 (slices_insertionSortOrdered_string_p4.dec r (fun _ => slices_insertionSortOrdered_string_b4 R w)) (exitQ i 1 (slices_insertionSortOrdered_string_p2.dec r (fun s => slices_insertionSortOrdered_string_b0 s.1 s.2.1 s.2.2.1 s.2.2.2.1 s.2.2.2.2.1 s.2.2.2.2.2 K0 w)) (exitQ i 2 (slices_insertionSortOrdered_string_p2.dec r (fun s => slices_insertionSortOrdered_string_b0 s.1 s.2.1 s.2.2.1 s.2.2.2.1 s.2.2.2.2.1 s.2.2.2.2.2 K0 w)) (False))) | .ret => retQ Tryd.prog Tryd.f109.results R .ret [] r w | _ => False) h (by kernel_rfl) ?_
          intro e _ r w h
          cases e with
          | normal =>
            obtain ⟨s, hs, h⟩ := slices_insertionSortOrdered_string_p3_ok _ _ h
            rw [← hs]
            exact hK6 s r w h
          | exit i =>
            rcases exitQ_elim h with ⟨rfl, h⟩ | ⟨_, h⟩
            · obtain ⟨s, hs, h⟩ := slices_insertionSortOrdered_string_p4_ok _ _ h
              rw [← hs]
              exact (fun s r w h => blockQ_other (id := 2) (j := 0) (by decide) ((fun s r w h => blockQ_other (id := 1) (j := 0) (by decide) (hX1 s r w h)) s r w h)) s r w h
            rcases exitQ_elim h with ⟨rfl, h⟩ | ⟨_, h⟩
            · obtain ⟨s, hs, h⟩ := slices_insertionSortOrdered_string_p2_ok _ _ h
              rw [← hs]
              exact (fun s r w h => blockQ_other (id := 2) (j := 1) (by decide) (hX4 s r w h)) s r w h
            rcases exitQ_elim h with ⟨rfl, h⟩ | ⟨_, h⟩
            · obtain ⟨s, hs, h⟩ := slices_insertionSortOrdered_string_p2_ok _ _ h
              rw [← hs]
              exact hX5 s r w h
            exact h.elim
          | ret => exact h
          | goto i => exact h.elim
          | panic c => exact h.elim
          | outgrown => exact h.elim
        · intro e _ r w hne h
          cases e with
          | normal => exact absurd rfl hne
          | exit i =>
            rcases exitQ_elim h with ⟨rfl, h⟩ | ⟨_, h⟩
            · obtain ⟨s, hs, h⟩ := slices_insertionSortOrdered_string_p4_ok _ _ h
              rw [← hs]
              exact (fun s r w h => blockQ_other (id := 1) (j := 0) (by decide) (hX1 s r w h)) s r w h
            rcases exitQ_elim h with ⟨rfl, h⟩ | ⟨_, h⟩
            · obtain ⟨s, hs, h⟩ := slices_insertionSortOrdered_string_p2_ok _ _ h
              rw [← hs]
              exact hX4 s r w h
            exact h.elim
          | ret => exact h
          | goto i => exact h.elim
          | panic c => exact h.elim
          | outgrown => exact h.elim
    · intro e _ r w hne h
      cases e with
      | normal => exact absurd rfl hne
      | exit i =>
        rcases exitQ_elim h with ⟨rfl, h⟩ | ⟨_, h⟩
        · obtain ⟨s, hs, h⟩ := slices_insertionSortOrdered_string_p4_ok _ _ h
          rw [← hs]
          exact hX1 s r w h
        exact h.elim
      | ret => exact h
      | goto i => exact h.elim
      | panic c => exact h.elim
      | outgrown => exact h.elim
  · intro e _ r w hne h
    cases e with
    | normal => exact absurd rfl hne
    | exit i => exact h.elim
    | ret => exact h
    | goto i => exact h.elim
    | panic c => exact h.elim
    | outgrown => exact h.elim

end Go.Proofs.YtnhjcjnjpciifaaDoor
