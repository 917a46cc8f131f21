/- Printed by a program of this claim: the shallow readings of functions, and that they are sound. -/
import Derived.Test.YtnhjcjnjpciifaaDoorShNames
namespace Go.Proofs.YtnhjcjnjpciifaaDoor
open Go.Sh

/- strings.TrimPrefix -/
def strings_TrimPrefix_b0 (s : ByteArray) (prefix_ : ByteArray) (R : Value → World → Prop) (w : World) : Prop :=
  CallR Tryd.prog fn_internal_stringslite_TrimPrefix #[(.string s), (.string prefix_)] w fun res w_ =>
  mStr res fun v =>
  R (.string v) w_

set_option maxRecDepth 100000 in
theorem strings_TrimPrefix_sound (s : ByteArray) (prefix_ : ByteArray) (R : Value → World → Prop) (w : World) (h : strings_TrimPrefix_b0 s prefix_ R w) :
    CallR Tryd.prog fn_strings_TrimPrefix #[(.string s), (.string prefix_)] w R := by
  refine CallR_intro (args := [(.string s), (.string prefix_)]) Tryd.func62 rfl (Nat.le_of_ble_eq_true (by kernel_rfl)) ?_
  refine Wp_leaf_end (Q0 := fun e _ r w => match e with | .normal => retQ Tryd.prog Tryd.f62.results R .normal [] r w | .exit _ => False | .ret => retQ Tryd.prog Tryd.f62.results R .ret [] r w | _ => False) h (by kernel_rfl) ?_
  intro e _ r w h
  cases e with
  | normal => exact h
  | exit i => exact h.elim
  | ret => exact h
  | goto i => exact h.elim
  | panic c => exact h.elim
  | outgrown => exact h.elim

/- internal/stringslite.TrimPrefix -/
def internal_stringslite_TrimPrefix_b0 (s : ByteArray) (prefix_ : ByteArray) (R : Value → World → Prop) (w : World) : Prop :=
  CallR Tryd.prog fn_internal_stringslite_HasPrefix #[(.string s), (.string prefix_)] w fun res w_ =>
  mBool res fun v =>
  Br v (
  rRun Tryd.prog (Instr.sliceAt 9 (.string s) (some (.int .i64 (ByteArray.size prefix_ : Int))) none none) w_ fun sr w_1 =>
  mStr sr fun v1 =>
  R (.string v1) w_1) (
  R (.string s) w_)

set_option maxRecDepth 100000 in
theorem internal_stringslite_TrimPrefix_sound (s : ByteArray) (prefix_ : ByteArray) (R : Value → World → Prop) (w : World) (h : internal_stringslite_TrimPrefix_b0 s prefix_ R w) :
    CallR Tryd.prog fn_internal_stringslite_TrimPrefix #[(.string s), (.string prefix_)] w R := by
  refine CallR_intro (args := [(.string s), (.string prefix_)]) Tryd.func82 rfl (Nat.le_of_ble_eq_true (by kernel_rfl)) ?_
  refine Wp_leaf_end (Q0 := fun e _ r w => match e with | .normal => retQ Tryd.prog Tryd.f82.results R .normal [] r w | .exit _ => False | .ret => retQ Tryd.prog Tryd.f82.results R .ret [] r w | _ => False) h (by kernel_rfl) ?_
  intro e _ r w h
  cases e with
  | normal => exact h
  | exit i => exact h.elim
  | ret => exact h
  | goto i => exact h.elim
  | panic c => exact h.elim
  | outgrown => exact h.elim

/- glacier/wal.Segment -/
def wal_Segment_b0 (name3 : ByteArray) (s2 : ByteArray) (R : Value → World → Prop) (w : World) : Prop :=
  Req (ByteArray.size name3 + ByteArray.size (ByteArray.mk #[45]) ≤ 9223372036854775807) (
  Req (ByteArray.size (name3 ++ (ByteArray.mk #[45])) + ByteArray.size s2 ≤ 9223372036854775807) (
  R (.string ((name3 ++ (ByteArray.mk #[45])) ++ s2)) w))

def wal_Segment_b1 (name2 : ByteArray) (s1 : ByteArray) (K0 : (ByteArray × ByteArray) → World → Prop) (R : Value → World → Prop) (w : World) : Prop :=
  Br (decide ((ByteArray.size s1 : Int) < 6)) (
  Req (ByteArray.size (ByteArray.mk #[48]) + ByteArray.size s1 ≤ 9223372036854775807) (
  K0 (name2, (ByteArray.mk #[48]) ++ s1) w)) (
  wal_Segment_b0 name2 s1 R w)

def wal_Segment_b2 (name1 : ByteArray) (s : ByteArray) (R : Value → World → Prop) (w : World) : Prop :=
  LoopS (σ := ByteArray × ByteArray) (fun s w K0 =>
  wal_Segment_b1 s.1 s.2 K0 R w) (name1, s) w

def wal_Segment_b3 (name : ByteArray) (n : Int) (R : Value → World → Prop) (w : World) : Prop :=
  CallR Tryd.prog fn_strconv_Itoa #[(.int .i64 n)] w fun res w_ =>
  mStr res fun v =>
  wal_Segment_b2 name v R w_

def wal_Segment_p0 : Point (ByteArray × ByteArray) := { slots := fun s => [(0, (.string s.1)), (5, (.string s.2))], dec := fun r K => mStr (r 0) fun x => mStr (r 5) fun x1 => K (x, x1) }
theorem wal_Segment_p0_ok : wal_Segment_p0.ok := by
  intro r K h
  unfold wal_Segment_p0 at h
  obtain ⟨x, e0, h⟩ := mStr_elim h
  obtain ⟨x1, e1, h⟩ := mStr_elim h
  exact ⟨(x, x1), regsOf_self (L := [(0, (.string x)), (5, (.string x1))]) (List.forall_mem_cons.2 ⟨e0, List.forall_mem_cons.2 ⟨e1, List.forall_mem_nil _⟩⟩), h⟩
theorem wal_Segment_p0_re (s : ByteArray × ByteArray) (r : Regs) (K : (ByteArray × ByteArray) → Prop) (h : K s) : wal_Segment_p0.dec (regsOf (wal_Segment_p0.slots s) r) K := by
  obtain ⟨x2, x3⟩ := s
  exact cast (show K (x2, x3) = wal_Segment_p0.dec (regsOf (wal_Segment_p0.slots (x2, x3)) r) K by kernel_rfl) h

def wal_Segment_p1 : Point (ByteArray × ByteArray) := { slots := fun s => [(0, (.string s.1)), (5, (.string s.2))], dec := fun r K => mStr (r 0) fun x => mStr (r 5) fun x1 => K (x, x1) }
theorem wal_Segment_p1_ok : wal_Segment_p1.ok := by
  intro r K h
  unfold wal_Segment_p1 at h
  obtain ⟨x, e0, h⟩ := mStr_elim h
  obtain ⟨x1, e1, h⟩ := mStr_elim h
  exact ⟨(x, x1), regsOf_self (L := [(0, (.string x)), (5, (.string x1))]) (List.forall_mem_cons.2 ⟨e0, List.forall_mem_cons.2 ⟨e1, List.forall_mem_nil _⟩⟩), h⟩
theorem wal_Segment_p1_re (s : ByteArray × ByteArray) (r : Regs) (K : (ByteArray × ByteArray) → Prop) (h : K s) : wal_Segment_p1.dec (regsOf (wal_Segment_p1.slots s) r) K := by
  obtain ⟨x2, x3⟩ := s
  exact cast (show K (x2, x3) = wal_Segment_p1.dec (regsOf (wal_Segment_p1.slots (x2, x3)) r) K by kernel_rfl) h

set_option maxRecDepth 100000 in
theorem wal_Segment_sound (name : ByteArray) (n : Int) (R : Value → World → Prop) (w : World) (h : wal_Segment_b3 name n R w) :
    CallR Tryd.prog fn_wal_Segment #[(.string name), (.int .i64 n)] w R := by
  refine CallR_intro (args := [(.string name), (.int .i64 n)]) Tryd.func17 rfl (Nat.le_of_ble_eq_true (by kernel_rfl)) ?_
  refine Wp_glue wal_Segment_p0 (fun s w => wal_Segment_b2 s.1 s.2 R w) [_, _] (Q0 := fun e _ r w => match e with | .normal => wal_Segment_p0.dec r (fun s => wal_Segment_b2 s.1 s.2 R w) | .exit _ => False | .ret => retQ Tryd.prog Tryd.f17.results R .ret [] r w | _ => False) h (by kernel_rfl) (fun s r w h => ?_) wal_Segment_p0_ok (fun _ _ _ h => h) ?_
  · obtain ⟨name1, s⟩ := s
    have h : wal_Segment_b2 name1 s R w := h
    refine Wp_seq_via wal_Segment_p1 (fun s w => wal_Segment_b0 s.1 s.2 R w) (fun s r w h => ?_) (fun hN1 => ?_)
    · obtain ⟨name3, s2⟩ := s
      have h : wal_Segment_b0 name3 s2 R w := h
      refine Wp_leaf_end (Q0 := fun e _ r w => match e with | .normal => retQ Tryd.prog Tryd.f17.results R .normal [] r w | .exit _ => False | .ret => retQ Tryd.prog Tryd.f17.results R .ret [] r w | _ => False) h (by kernel_rfl) ?_
      intro e _ r w h
      cases e with
      | normal => exact h
      | exit i => exact h.elim
      | ret => exact h
      | goto i => exact h.elim
      | panic c => exact h.elim
      | outgrown => exact h.elim
    · refine Wp_block_via wal_Segment_p1 (fun s w => wal_Segment_b0 s.1 s.2 R w) hN1 (fun hX2 => ?_)
      refine Wp_loop (p := wal_Segment_p0) wal_Segment_p0_ok (fun s r w K0 h => ?_) h
      obtain ⟨name2, s1⟩ := s
      have h : wal_Segment_b1 name2 s1 K0 R w := h
      have hK3 := fun (s : ByteArray × ByteArray) (r : Regs) (w : World) (h : K0 s w) => wal_Segment_p0_re s r (fun s => K0 s w) h
      refine Wp_leaf_end (Q0 := fun e _ r w => match e with | .normal => wal_Segment_p0.dec r (fun s => K0 s w) | .exit i => exitQ i 0 (wal_Segment_p1.dec r (fun s => wal_Segment_b0 s.1 s.2 R w)) (False) | .ret => retQ Tryd.prog Tryd.f17.results R .ret [] r w | _ => False) h (by kernel_rfl) ?_
      intro e _ r w h
      cases e with
      | normal =>
        obtain ⟨s, hs, h⟩ := wal_Segment_p0_ok _ _ h
        rw [← hs]
        exact hK3 s r w h
      | exit i =>
        rcases exitQ_elim h with ⟨rfl, h⟩ | ⟨_, h⟩
        · obtain ⟨s, hs, h⟩ := wal_Segment_p1_ok _ _ h
          rw [← hs]
          exact hX2 s r w h
        exact h.elim
      | ret => exact h
      | goto i => exact h.elim
      | panic c => exact h.elim
      | outgrown => exact h.elim
  · intro e _ r w hne h
    cases e with
    | normal => exact absurd rfl hne
    | exit i => exact h.elim
    | ret => exact h
    | goto i => exact h.elim
    | panic c => exact h.elim
    | outgrown => exact h.elim

/- glacier/wal.named -/
def wal_named_b0 (R : Value → World → Prop) (w : World) : Prop :=
  R (.bool true) w

def wal_named_b1 (s3 : ByteArray) (t141 : Int) (t151 : Int) (K0 : (ByteArray × Int × Int) → World → Prop) (R : Value → World → Prop) (w : World) : Prop :=
  Br (decide (t151 < t141)) (
  SIX s3 t151 fun c =>
  Br (decide ((UInt8.toNat c : Int) ≥ 97)) (
  Br (decide ((UInt8.toNat c : Int) ≤ 122)) (
  Br (!true) (
  R (.bool false) w) (
  K0 (s3, t141, IntKind.wrap .i64 (t151 + 1)) w)) (
  Br (decide ((UInt8.toNat c : Int) ≥ 48)) (
  Br (!(decide ((UInt8.toNat c : Int) ≤ 57))) (
  R (.bool false) w) (
  K0 (s3, t141, IntKind.wrap .i64 (t151 + 1)) w)) (
  Br (!false) (
  R (.bool false) w) (
  K0 (s3, t141, IntKind.wrap .i64 (t151 + 1)) w)))) (
  Br (decide ((UInt8.toNat c : Int) ≥ 48)) (
  Br (!(decide ((UInt8.toNat c : Int) ≤ 57))) (
  R (.bool false) w) (
  K0 (s3, t141, IntKind.wrap .i64 (t151 + 1)) w)) (
  Br (!false) (
  R (.bool false) w) (
  K0 (s3, t141, IntKind.wrap .i64 (t151 + 1)) w)))) (
  wal_named_b0 R w)

def wal_named_b2 (s2 : ByteArray) (t14 : Int) (t15 : Int) (R : Value → World → Prop) (w : World) : Prop :=
  LoopS (σ := ByteArray × Int × Int) (fun s w K0 =>
  wal_named_b1 s.1 s.2.1 s.2.2 K0 R w) (s2, t14, t15) w

def wal_named_b3 (s1 : ByteArray) (R : Value → World → Prop) (w : World) : Prop :=
  wal_named_b2 s1 (ByteArray.size s1 : Int) 0 R w

def wal_named_b4 (s : ByteArray) (R : Value → World → Prop) (w : World) : Prop :=
  Br (decide ((ByteArray.size s : Int) < 1)) (
  R (.bool false) w) (
  Br (decide ((ByteArray.size s : Int) > 32)) (
  R (.bool false) w) (
  wal_named_b3 s R w))

def wal_named_p0 : Point (ByteArray) := { slots := fun s => [(0, (.string s))], dec := fun r K => mStr (r 0) fun x => K x }
theorem wal_named_p0_ok : wal_named_p0.ok := by
  intro r K h
  unfold wal_named_p0 at h
  obtain ⟨x, e0, h⟩ := mStr_elim h
  exact ⟨x, regsOf_self (L := [(0, (.string x))]) (List.forall_mem_cons.2 ⟨e0, List.forall_mem_nil _⟩), h⟩
theorem wal_named_p0_re (s : ByteArray) (r : Regs) (K : ByteArray → Prop) (h : K s) : wal_named_p0.dec (regsOf (wal_named_p0.slots s) r) K := by
  exact cast (show K s = wal_named_p0.dec (regsOf (wal_named_p0.slots s) r) K by kernel_rfl) h

def wal_named_p1 : Point (Unit) := { slots := fun _ => [], dec := fun _ K => K () }
theorem wal_named_p1_ok : wal_named_p1.ok := by
  intro r K h
  unfold wal_named_p1 at h
  exact ⟨(), regsOf_self (L := []) (List.forall_mem_nil _), h⟩
theorem wal_named_p1_re (s : Unit) (r : Regs) (K : Unit → Prop) (h : K s) : wal_named_p1.dec (regsOf (wal_named_p1.slots s) r) K := by
  exact cast (show K () = wal_named_p1.dec (regsOf (wal_named_p1.slots ()) r) K by kernel_rfl) h

def wal_named_p2 : Point (ByteArray × Int × Int) := { slots := fun s => [(0, (.string s.1)), (14, (.int .i64 s.2.1)), (15, (.int .i64 s.2.2))], dec := fun r K => mStr (r 0) fun x => mInt .i64 (r 14) fun x1 => mInt .i64 (r 15) fun x2 => K (x, x1, x2) }
theorem wal_named_p2_ok : wal_named_p2.ok := by
  intro r K h
  unfold wal_named_p2 at h
  obtain ⟨x, e0, h⟩ := mStr_elim h
  obtain ⟨x1, e1, h⟩ := mInt_elim h
  obtain ⟨x2, e2, h⟩ := mInt_elim h
  exact ⟨(x, x1, x2), regsOf_self (L := [(0, (.string x)), (14, (.int .i64 x1)), (15, (.int .i64 x2))]) (List.forall_mem_cons.2 ⟨e0, List.forall_mem_cons.2 ⟨e1, List.forall_mem_cons.2 ⟨e2, List.forall_mem_nil _⟩⟩⟩), h⟩
theorem wal_named_p2_re (s : ByteArray × Int × Int) (r : Regs) (K : (ByteArray × Int × Int) → Prop) (h : K s) : wal_named_p2.dec (regsOf (wal_named_p2.slots s) r) K := by
  obtain ⟨x3, x4, x5⟩ := s
  exact cast (show K (x3, x4, x5) = wal_named_p2.dec (regsOf (wal_named_p2.slots (x3, x4, x5)) r) K by kernel_rfl) h

set_option maxRecDepth 100000 in
theorem wal_named_sound (s : ByteArray) (R : Value → World → Prop) (w : World) (h : wal_named_b4 s R w) :
    CallR Tryd.prog fn_wal_named #[(.string s)] w R := by
  refine CallR_intro (args := [(.string s)]) Tryd.func34 rfl (Nat.le_of_ble_eq_true (by kernel_rfl)) ?_
  refine Wp_glue wal_named_p0 (fun s w => wal_named_b3 s R w) [_, _] (Q0 := fun e _ r w => match e with | .normal => wal_named_p0.dec r (fun s => wal_named_b3 s R w) | .exit _ => False | .ret => retQ Tryd.prog Tryd.f34.results R .ret [] r w | _ => False) h (by kernel_rfl) (fun s r w h => ?_) wal_named_p0_ok (fun _ _ _ h => h) ?_
  · obtain ⟨s1, rfl⟩ : ∃ y, y = s := ⟨s, rfl⟩
    have h : wal_named_b3 s1 R w := h
    refine Wp_seq_via wal_named_p1 (fun _ w => wal_named_b0 R w) (fun s r w h => ?_) (fun hN1 => ?_)
    · cases s
      have h : wal_named_b0 R w := h
      refine Wp_leaf_end (Q0 := fun e _ r w => match e with | .normal => retQ Tryd.prog Tryd.f34.results R .normal [] r w | .exit _ => False | .ret => retQ Tryd.prog Tryd.f34.results R .ret [] r w | _ => False) h (by kernel_rfl) ?_
      intro e _ r w h
      cases e with
      | normal => exact h
      | exit i => exact h.elim
      | ret => exact h
      | goto i => exact h.elim
      | panic c => exact h.elim
      | outgrown => exact h.elim
    · refine Wp_glue wal_named_p2 (fun s w => wal_named_b2 s.1 s.2.1 s.2.2 R w) [_] (Q0 := fun e _ r w => match e with | .normal => wal_named_p2.dec r (fun s => wal_named_b2 s.1 s.2.1 s.2.2 R w) | .exit _ => False | .ret => retQ Tryd.prog Tryd.f34.results R .ret [] r w | _ => False) h (by kernel_rfl) (fun s r w h => ?_) wal_named_p2_ok (fun _ _ _ h => h) ?_
      · obtain ⟨s2, t14, t15⟩ := s
        have h : wal_named_b2 s2 t14 t15 R w := h
        refine Wp_block_via wal_named_p1 (fun _ w => wal_named_b0 R w) hN1 (fun hX2 => ?_)
        refine Wp_loop (p := wal_named_p2) wal_named_p2_ok (fun s r w K0 h => ?_) h
        obtain ⟨s3, t141, t151⟩ := s
        have h : wal_named_b1 s3 t141 t151 K0 R w := h
        have hK3 := fun (s : ByteArray × Int × Int) (r : Regs) (w : World) (h : K0 s w) => wal_named_p2_re s r (fun s => K0 s w) h
        refine Wp_leaf_end (Q0 := fun e _ r w => match e with | .normal => wal_named_p2.dec r (fun s => K0 s w) | .exit i => exitQ i 0 (wal_named_p1.dec r (fun _ => wal_named_b0 R w)) (False) | .ret => retQ Tryd.prog Tryd.f34.results R .ret [] r w | _ => False) h (by kernel_rfl) ?_
        intro e _ r w h
        cases e with
        | normal =>
          obtain ⟨s, hs, h⟩ := wal_named_p2_ok _ _ h
          rw [← hs]
          exact hK3 s r w h
        | exit i =>
          rcases exitQ_elim h with ⟨rfl, h⟩ | ⟨_, h⟩
          · obtain ⟨s, hs, h⟩ := wal_named_p1_ok _ _ h
            rw [← hs]
            exact hX2 s r w h
          exact h.elim
        | ret => exact h
        | goto i => exact h.elim
        | panic c => exact h.elim
        | outgrown => exact h.elim
      · intro e _ r w hne h
        cases e with
        | normal => exact absurd rfl hne
        | exit i => exact h.elim
        | ret => exact h
        | goto i => exact h.elim
        | panic c => exact h.elim
        | outgrown => exact h.elim
  · intro e _ r w hne h
    cases e with
    | normal => exact absurd rfl hne
    | exit i => exact h.elim
    | ret => exact h
    | goto i => exact h.elim
    | panic c => exact h.elim
    | outgrown => exact h.elim

/- (*glacier/wal.Log).segments -/
def wal_Log_segments_b0 (out3 : Option Addr) (out_n3 : Nat) (out_c3 : Nat) (R : Value → World → Prop) (w : World) : Prop :=
  R (.slice out3 out_n3 out_c3) w

def wal_Log_segments_b1 (l3 : Option Addr) (out2 : Option Addr) (out_n2 : Nat) (out_c2 : Nat) (t181 : Option Addr) (t18_n1 : Nat) (t18_c1 : Nat) (t191 : Int) (t201 : Int) (K0 : ((Option Addr) × (Option Addr) × Nat × Nat × (Option Addr) × Nat × Nat × Int × Int) → World → Prop) (R : Value → World → Prop) (w : World) : Prop :=
  Br (decide (t201 < t191)) (
  IX t181 t18_n1 t201 1 fun a =>
  LDS w a fun v3 =>
  NN l3 fun p2 =>
  LDS w (Addr.add p2 1) fun v4 =>
  Req (ByteArray.size v4 + ByteArray.size (ByteArray.mk #[45]) ≤ 9223372036854775807) (
  CallR Tryd.prog fn_strings_TrimPrefix #[(.string v3), (.string (v4 ++ (ByteArray.mk #[45])))] w fun res1 w_3 =>
  mStr res1 fun v5 =>
  CallR Tryd.prog fn_strconv_Atoi #[(.string v5)] w_3 fun res2 w_4 =>
  mTup res2 fun l4 =>
  mCons l4 fun v6 l5 =>
  mInt .i64 v6 fun v7 =>
  mCons l5 fun v8 l6 =>
  mNil l6 (
  EqI v8 fun b1 =>
  Br b1 (
  NN l3 fun p3 =>
  LDS w_4 (Addr.add p3 1) fun v9 =>
  CallR Tryd.prog fn_wal_Segment #[(.string v9), (.int .i64 v7)] w_4 fun res3 w_5 =>
  mStr res3 fun v10 =>
  Br (ByteArray.toList v10 == ByteArray.toList v3) (
  AL w_5 (.cells #[(.int .i64 v7)] 3) fun b2 w_6 =>
  rRun Tryd.prog (Builtin.append_ #[29, 29] 29 #[(.slice out2 out_n2 out_c2), (.slice (some b2) 1 1)]) w_6 fun sr w_7 =>
  mSlice sr fun v11 v_n1 v_c1 =>
  K0 (l3, v11, v_n1, v_c1, t181, t18_n1, t18_c1, t191, IntKind.wrap .i64 (t201 + 1)) w_7) (
  K0 (l3, out2, out_n2, out_c2, t181, t18_n1, t18_c1, t191, IntKind.wrap .i64 (t201 + 1)) w_5)) (
  K0 (l3, out2, out_n2, out_c2, t181, t18_n1, t18_c1, t191, IntKind.wrap .i64 (t201 + 1)) w_4)))) (
  wal_Log_segments_b0 out2 out_n2 out_c2 R w)

def wal_Log_segments_b2 (l2 : Option Addr) (out1 : Option Addr) (out_n1 : Nat) (out_c1 : Nat) (t18 : Option Addr) (t18_n : Nat) (t18_c : Nat) (t19 : Int) (t20 : Int) (R : Value → World → Prop) (w : World) : Prop :=
  LoopS (σ := (Option Addr) × (Option Addr) × Nat × Nat × (Option Addr) × Nat × Nat × Int × Int) (fun s w K0 =>
  wal_Log_segments_b1 s.1 s.2.1 s.2.2.1 s.2.2.2.1 s.2.2.2.2.1 s.2.2.2.2.2.1 s.2.2.2.2.2.2.1 s.2.2.2.2.2.2.2.1 s.2.2.2.2.2.2.2.2 K0 R w) (l2, out1, out_n1, out_c1, t18, t18_n, t18_c, t19, t20) w

def wal_Log_segments_b3 (l1 : Option Addr) (out : Option Addr) (out_n : Nat) (out_c : Nat) (R : Value → World → Prop) (w : World) : Prop :=
  LetW (World.drew w) fun w_ =>
  NN l1 fun p =>
  LDP w_ p fun v =>
  NN l1 fun p1 =>
  LDS w_ (Addr.add p1 1) fun v1 =>
  Req (ByteArray.size v1 + ByteArray.size (ByteArray.mk #[45]) ≤ 9223372036854775807) (
  AL w_ (.cells #[(.string (v1 ++ (ByteArray.mk #[45])))] 9) fun b w_1 =>
  (World.cell? w_1 p = some (.pointer v) ∧ 
  CallR Tryd.prog fn_disk_Disk_List #[(.pointer v), (.slice (some b) 1 1)] w_1 fun res w_2 =>
  mSlice res fun v2 v_n v_c =>
  (w_2 = w_2 ∧ 
  wal_Log_segments_b2 l1 out out_n out_c v2 v_n v_c (v_n : Int) 0 R w_2)))

def wal_Log_segments_b4 (l : Option Addr) (R : Value → World → Prop) (w : World) : Prop :=
  wal_Log_segments_b3 l none 0 0 R w

def wal_Log_segments_p0 : Point ((Option Addr) × (Option Addr) × Nat × Nat) := { slots := fun s => [(0, (.pointer s.1)), (3, (.slice s.2.1 s.2.2.1 s.2.2.2))], dec := fun r K => mPtr (r 0) fun x => mSlice (r 3) fun x1 x2 x3 => K (x, x1, x2, x3) }
theorem wal_Log_segments_p0_ok : wal_Log_segments_p0.ok := by
  intro r K h
  unfold wal_Log_segments_p0 at h
  obtain ⟨x, e0, h⟩ := mPtr_elim h
  obtain ⟨x1, x2, x3, e1, h⟩ := mSlice_elim h
  exact ⟨(x, x1, x2, x3), regsOf_self (L := [(0, (.pointer x)), (3, (.slice x1 x2 x3))]) (List.forall_mem_cons.2 ⟨e0, List.forall_mem_cons.2 ⟨e1, List.forall_mem_nil _⟩⟩), h⟩
theorem wal_Log_segments_p0_re (s : (Option Addr) × (Option Addr) × Nat × Nat) (r : Regs) (K : ((Option Addr) × (Option Addr) × Nat × Nat) → Prop) (h : K s) : wal_Log_segments_p0.dec (regsOf (wal_Log_segments_p0.slots s) r) K := by
  obtain ⟨x4, x5, x6, x7⟩ := s
  exact cast (show K (x4, x5, x6, x7) = wal_Log_segments_p0.dec (regsOf (wal_Log_segments_p0.slots (x4, x5, x6, x7)) r) K by kernel_rfl) h

def wal_Log_segments_p1 : Point ((Option Addr) × Nat × Nat) := { slots := fun s => [(3, (.slice s.1 s.2.1 s.2.2))], dec := fun r K => mSlice (r 3) fun x x1 x2 => K (x, x1, x2) }
theorem wal_Log_segments_p1_ok : wal_Log_segments_p1.ok := by
  intro r K h
  unfold wal_Log_segments_p1 at h
  obtain ⟨x, x1, x2, e0, h⟩ := mSlice_elim h
  exact ⟨(x, x1, x2), regsOf_self (L := [(3, (.slice x x1 x2))]) (List.forall_mem_cons.2 ⟨e0, List.forall_mem_nil _⟩), h⟩
theorem wal_Log_segments_p1_re (s : (Option Addr) × Nat × Nat) (r : Regs) (K : ((Option Addr) × Nat × Nat) → Prop) (h : K s) : wal_Log_segments_p1.dec (regsOf (wal_Log_segments_p1.slots s) r) K := by
  obtain ⟨x3, x4, x5⟩ := s
  exact cast (show K (x3, x4, x5) = wal_Log_segments_p1.dec (regsOf (wal_Log_segments_p1.slots (x3, x4, x5)) r) K by kernel_rfl) h

def wal_Log_segments_p2 : Point ((Option Addr) × (Option Addr) × Nat × Nat × (Option Addr) × Nat × Nat × Int × Int) := { slots := fun s => [(0, (.pointer s.1)), (3, (.slice s.2.1 s.2.2.1 s.2.2.2.1)), (18, (.slice s.2.2.2.2.1 s.2.2.2.2.2.1 s.2.2.2.2.2.2.1)), (19, (.int .i64 s.2.2.2.2.2.2.2.1)), (20, (.int .i64 s.2.2.2.2.2.2.2.2))], dec := fun r K => mPtr (r 0) fun x => mSlice (r 3) fun x1 x2 x3 => mSlice (r 18) fun x4 x5 x6 => mInt .i64 (r 19) fun x7 => mInt .i64 (r 20) fun x8 => K (x, x1, x2, x3, x4, x5, x6, x7, x8) }
theorem wal_Log_segments_p2_ok : wal_Log_segments_p2.ok := by
  intro r K h
  unfold wal_Log_segments_p2 at h
  obtain ⟨x, e0, h⟩ := mPtr_elim h
  obtain ⟨x1, x2, x3, e1, h⟩ := mSlice_elim h
  obtain ⟨x4, x5, x6, e2, h⟩ := mSlice_elim h
  obtain ⟨x7, e3, h⟩ := mInt_elim h
  obtain ⟨x8, e4, h⟩ := mInt_elim h
  exact ⟨(x, x1, x2, x3, x4, x5, x6, x7, x8), regsOf_self (L := [(0, (.pointer x)), (3, (.slice x1 x2 x3)), (18, (.slice x4 x5 x6)), (19, (.int .i64 x7)), (20, (.int .i64 x8))]) (List.forall_mem_cons.2 ⟨e0, List.forall_mem_cons.2 ⟨e1, List.forall_mem_cons.2 ⟨e2, List.forall_mem_cons.2 ⟨e3, List.forall_mem_cons.2 ⟨e4, List.forall_mem_nil _⟩⟩⟩⟩⟩), h⟩
theorem wal_Log_segments_p2_re (s : (Option Addr) × (Option Addr) × Nat × Nat × (Option Addr) × Nat × Nat × Int × Int) (r : Regs) (K : ((Option Addr) × (Option Addr) × Nat × Nat × (Option Addr) × Nat × Nat × Int × Int) → Prop) (h : K s) : wal_Log_segments_p2.dec (regsOf (wal_Log_segments_p2.slots s) r) K := by
  obtain ⟨x9, x10, x11, x12, x13, x14, x15, x16, x17⟩ := s
  exact cast (show K (x9, x10, x11, x12, x13, x14, x15, x16, x17) = wal_Log_segments_p2.dec (regsOf (wal_Log_segments_p2.slots (x9, x10, x11, x12, x13, x14, x15, x16, x17)) r) K by kernel_rfl) h

set_option maxRecDepth 100000 in
theorem wal_Log_segments_sound (l : Option Addr) (R : Value → World → Prop) (w : World) (h : wal_Log_segments_b4 l R w) :
    CallR Tryd.prog fn_wal_Log_segments #[(.pointer l)] w R := by
  refine CallR_intro (args := [(.pointer l)]) Tryd.func40 rfl (Nat.le_of_ble_eq_true (by kernel_rfl)) ?_
  refine Wp_glue wal_Log_segments_p0 (fun s w => wal_Log_segments_b3 s.1 s.2.1 s.2.2.1 s.2.2.2 R w) [_, _] (Q0 := fun e _ r w => match e with | .normal => wal_Log_segments_p0.dec r (fun s => wal_Log_segments_b3 s.1 s.2.1 s.2.2.1 s.2.2.2 R w) | .exit _ => False | .ret => retQ Tryd.prog Tryd.f40.results R .ret [] r w | _ => False) h (by kernel_rfl) (fun s r w h => ?_) wal_Log_segments_p0_ok (fun _ _ _ h => h) ?_
  · obtain ⟨l1, out, out_n, out_c⟩ := s
    have h : wal_Log_segments_b3 l1 out out_n out_c R w := h
    refine Wp_seq_via wal_Log_segments_p1 (fun s w => wal_Log_segments_b0 s.1 s.2.1 s.2.2 R w) (fun s r w h => ?_) (fun hN1 => ?_)
    · obtain ⟨out3, out_n3, out_c3⟩ := s
      have h : wal_Log_segments_b0 out3 out_n3 out_c3 R w := h
      refine Wp_leaf_end (Q0 := fun e _ r w => match e with | .normal => retQ Tryd.prog Tryd.f40.results R .normal [] r w | .exit _ => False | .ret => retQ Tryd.prog Tryd.f40.results R .ret [] r w | _ => False) h (by kernel_rfl) ?_
      intro e _ r w h
      cases e with
      | normal => exact h
      | exit i => exact h.elim
      | ret => exact h
      | goto i => exact h.elim
      | panic c => exact h.elim
      | outgrown => exact h.elim
    · refine Wp_glue wal_Log_segments_p2 (fun s w => wal_Log_segments_b2 s.1 s.2.1 s.2.2.1 s.2.2.2.1 s.2.2.2.2.1 s.2.2.2.2.2.1 s.2.2.2.2.2.2.1 s.2.2.2.2.2.2.2.1 s.2.2.2.2.2.2.2.2 R w) [_] (Q0 := fun e _ r w => match e with | .normal => wal_Log_segments_p2.dec r (fun s => wal_Log_segments_b2 s.1 s.2.1 s.2.2.1 s.2.2.2.1 s.2.2.2.2.1 s.2.2.2.2.2.1 s.2.2.2.2.2.2.1 s.2.2.2.2.2.2.2.1 s.2.2.2.2.2.2.2.2 R w) | .exit _ => False | .ret => retQ Tryd.prog Tryd.f40.results R .ret [] r w | _ => False) h (by kernel_rfl) (fun s r w h => ?_) wal_Log_segments_p2_ok (fun _ _ _ h => h) ?_
      · obtain ⟨l2, out1, out_n1, out_c1, t18, t18_n, t18_c, t19, t20⟩ := s
        have h : wal_Log_segments_b2 l2 out1 out_n1 out_c1 t18 t18_n t18_c t19 t20 R w := h
        refine Wp_block_via wal_Log_segments_p1 (fun s w => wal_Log_segments_b0 s.1 s.2.1 s.2.2 R w) hN1 (fun hX2 => ?_)
        refine Wp_loop (p := wal_Log_segments_p2) wal_Log_segments_p2_ok (fun s r w K0 h => ?_) h
        obtain ⟨l3, out2, out_n2, out_c2, t181, t18_n1, t18_c1, t191, t201⟩ := s
        have h : wal_Log_segments_b1 l3 out2 out_n2 out_c2 t181 t18_n1 t18_c1 t191 t201 K0 R w := h
        have hK3 := fun (s : (Option Addr) × (Option Addr) × Nat × Nat × (Option Addr) × Nat × Nat × Int × Int) (r : Regs) (w : World) (h : K0 s w) => wal_Log_segments_p2_re s r (fun s => K0 s w) h
        refine Wp_leaf_end (Q0 := fun e _ r w => match e with | .normal => wal_Log_segments_p2.dec r (fun s => K0 s w) | .exit i => exitQ i 0 (wal_Log_segments_p1.dec r (fun s => wal_Log_segments_b0 s.1 s.2.1 s.2.2 R w)) (False) | .ret => retQ Tryd.prog Tryd.f40.results R .ret [] r w | _ => False) h (by kernel_rfl) ?_
        intro e _ r w h
        cases e with
        | normal =>
          obtain ⟨s, hs, h⟩ := wal_Log_segments_p2_ok _ _ h
          rw [← hs]
          exact hK3 s r w h
        | exit i =>
          rcases exitQ_elim h with ⟨rfl, h⟩ | ⟨_, h⟩
          · obtain ⟨s, hs, h⟩ := wal_Log_segments_p1_ok _ _ h
            rw [← hs]
            exact hX2 s r w h
          exact h.elim
        | ret => exact h
        | goto i => exact h.elim
        | panic c => exact h.elim
        | outgrown => exact h.elim
      · intro e _ r w hne h
        cases e with
        | normal => exact absurd rfl hne
        | exit i => exact h.elim
        | ret => exact h
        | goto i => exact h.elim
        | panic c => exact h.elim
        | outgrown => exact h.elim
  · intro e _ r w hne h
    cases e with
    | normal => exact absurd rfl hne
    | exit i => exact h.elim
    | ret => exact h
    | goto i => exact h.elim
    | panic c => exact h.elim
    | outgrown => exact h.elim

/- (*glacier/wal.Log).there -/
def wal_Log_there_b0 (l : Option Addr) (n : Int) (R : Value → World → Prop) (w : World) : Prop :=
  LetW (World.drew w) fun w_ =>
  NN l fun p =>
  LDP w_ p fun v =>
  NN l fun p1 =>
  LDS w_ (Addr.add p1 1) fun v1 =>
  CallR Tryd.prog fn_wal_Segment #[(.string v1), (.int .i64 n)] w_ fun res w_1 =>
  mStr res fun v2 =>
  (World.cell? w_1 p = some (.pointer v) ∧ 
  CallR Tryd.prog fn_disk_Disk_Read #[(.pointer v), (.string v2)] w_1 fun res1 w_2 =>
  mTup res1 fun l1 =>
  mCons l1 fun v3 l2 =>
  mSlice v3 fun _ _ _ =>
  mCons l2 fun v5 l3 =>
  mInt .i64 v5 fun v6 =>
  mNil l3 (
  R (.bool (v6 == 0)) w_2))

set_option maxRecDepth 100000 in
theorem wal_Log_there_sound (l : Option Addr) (n : Int) (R : Value → World → Prop) (w : World) (h : wal_Log_there_b0 l n R w) :
    CallR Tryd.prog fn_wal_Log_there #[(.pointer l), (.int .i64 n)] w R := by
  refine CallR_intro (args := [(.pointer l), (.int .i64 n)]) Tryd.func35 rfl (Nat.le_of_ble_eq_true (by kernel_rfl)) ?_
  refine Wp_leaf_end (Q0 := fun e _ r w => match e with | .normal => retQ Tryd.prog Tryd.f35.results R .normal [] r w | .exit _ => False | .ret => retQ Tryd.prog Tryd.f35.results R .ret [] r w | _ => False) h (by kernel_rfl) ?_
  intro e _ r w h
  cases e with
  | normal => exact h
  | exit i => exact h.elim
  | ret => exact h
  | goto i => exact h.elim
  | panic c => exact h.elim
  | outgrown => exact h.elim

/- (*glacier/wal.Log).cut -/
def wal_Log_cut_b0 (l : Option Addr) (n : Int) (b : Option Addr) (b_n : Nat) (b_c : Nat) (R : Value → World → Prop) (w : World) : Prop :=
  NN l fun p =>
  LDS w (Addr.add p 1) fun v =>
  Req (ByteArray.size v + ByteArray.size (ByteArray.mk #[46, 116, 109, 112]) ≤ 9223372036854775807) (
  NN l fun p1 =>
  LDP w p1 fun v1 =>
  AL w (.cells #[(.string (v ++ (ByteArray.mk #[46, 116, 109, 112])))] 9) fun b1 w_ =>
  CallR Tryd.prog fn_disk_Disk_Delete #[(.pointer v1), (.slice (some b1) 1 1)] w_ fun res w_1 =>
  mInt .i64 res fun _ =>
  NN l fun p2 =>
  LDP w_1 p2 fun v3 =>
  AL w_1 (.cells #[(.slice b b_n b_c)] 41) fun b2 w_2 =>
  CallR Tryd.prog fn_disk_Disk_Append #[(.pointer v3), (.string (v ++ (ByteArray.mk #[46, 116, 109, 112]))), (.slice (some b2) 1 1)] w_2 fun res1 w_3 =>
  mInt .i64 res1 fun v4 =>
  Br (v4 != 0) (
  R (.int .i64 v4) w_3) (
  NN l fun p3 =>
  LDP w_3 p3 fun v5 =>
  AL w_3 (.cells #[(.string (v ++ (ByteArray.mk #[46, 116, 109, 112])))] 9) fun b3 w_4 =>
  CallR Tryd.prog fn_disk_Disk_Sync #[(.pointer v5), (.slice (some b3) 1 1)] w_4 fun res2 w_5 =>
  mInt .i64 res2 fun _ =>
  LetW (World.drew w_5) fun w_6 =>
  NN l fun p4 =>
  LDP w_6 p4 fun v7 =>
  NN l fun p5 =>
  LDS w_6 (Addr.add p5 1) fun v8 =>
  CallR Tryd.prog fn_wal_Segment #[(.string v8), (.int .i64 n)] w_6 fun res3 w_7 =>
  mStr res3 fun v9 =>
  (World.cell? w_7 p4 = some (.pointer v7) ∧ 
  CallR Tryd.prog fn_disk_Disk_Rename #[(.pointer v7), (.string (v ++ (ByteArray.mk #[46, 116, 109, 112]))), (.string v9)] w_7 fun res4 w_8 =>
  mInt .i64 res4 fun v10 =>
  R (.int .i64 v10) w_8)))

set_option maxRecDepth 100000 in
theorem wal_Log_cut_sound (l : Option Addr) (n : Int) (b : Option Addr) (b_n : Nat) (b_c : Nat) (R : Value → World → Prop) (w : World) (h : wal_Log_cut_b0 l n b b_n b_c R w) :
    CallR Tryd.prog fn_wal_Log_cut #[(.pointer l), (.int .i64 n), (.slice b b_n b_c)] w R := by
  refine CallR_intro (args := [(.pointer l), (.int .i64 n), (.slice b b_n b_c)]) Tryd.func37 rfl (Nat.le_of_ble_eq_true (by kernel_rfl)) ?_
  refine Wp_leaf_end (Q0 := fun e _ r w => match e with | .normal => retQ Tryd.prog Tryd.f37.results R .normal [] r w | .exit _ => False | .ret => retQ Tryd.prog Tryd.f37.results R .ret [] r w | _ => False) h (by kernel_rfl) ?_
  intro e _ r w h
  cases e with
  | normal => exact h
  | exit i => exact h.elim
  | ret => exact h
  | goto i => exact h.elim
  | panic c => exact h.elim
  | outgrown => exact h.elim

/- glacier/wal.Open -/
def wal_Open_b0 (l14 : Addr) (all7 : Option Addr) (all_n7 : Nat) (all_c7 : Nat) (R : Value → World → Prop) (w : World) : Prop :=
  R (.tuple #[(.pointer (some l14)), (.slice all7 all_n7 all_c7), (.int .i64 0)]) w

def wal_Open_b1 (name7 : ByteArray) (l13 : Addr) (all6 : Option Addr) (all_n6 : Nat) (all_c6 : Nat) (t981 : Option Addr) (t98_n1 : Nat) (t98_c1 : Nat) (t991 : Int) (t1001 : Int) (K0 : (ByteArray × Addr × (Option Addr) × Nat × Nat × (Option Addr) × Nat × Nat × Int × Int) → World → Prop) (R : Value → World → Prop) (w : World) : Prop :=
  Br (decide (t1001 < t991)) (
  IX t981 t98_n1 t1001 1 fun a =>
  LDI .i64 w a fun v25 =>
  LDI .i64 w (Addr.add l13 2) fun v26 =>
  Br (decide (v25 > v26)) (
  LetW (World.drew w) fun w_20 =>
  LDP w_20 l13 fun v27 =>
  CallR Tryd.prog fn_wal_Segment #[(.string name7), (.int .i64 v25)] w_20 fun res12 w_21 =>
  mStr res12 fun v28 =>
  (World.cell? w_21 l13 = some (.pointer v27) ∧ 
  AL w_21 (.cells #[(.string v28)] 9) fun b1 w_22 =>
  (World.cell? w_22 l13 = some (.pointer v27) ∧ 
  CallR Tryd.prog fn_disk_Disk_Delete #[(.pointer v27), (.slice (some b1) 1 1)] w_22 fun res13 w_23 =>
  mInt .i64 res13 fun _ =>
  K0 (name7, l13, all6, all_n6, all_c6, t981, t98_n1, t98_c1, t991, IntKind.wrap .i64 (t1001 + 1)) w_23))) (
  K0 (name7, l13, all6, all_n6, all_c6, t981, t98_n1, t98_c1, t991, IntKind.wrap .i64 (t1001 + 1)) w)) (
  wal_Open_b0 l13 all6 all_n6 all_c6 R w)

def wal_Open_b2 (name6 : ByteArray) (l12 : Addr) (all5 : Option Addr) (all_n5 : Nat) (all_c5 : Nat) (t98 : Option Addr) (t98_n : Nat) (t98_c : Nat) (t99 : Int) (t100 : Int) (R : Value → World → Prop) (w : World) : Prop :=
  LoopS (σ := ByteArray × Addr × (Option Addr) × Nat × Nat × (Option Addr) × Nat × Nat × Int × Int) (fun s w K0 =>
  wal_Open_b1 s.1 s.2.1 s.2.2.1 s.2.2.2.1 s.2.2.2.2.1 s.2.2.2.2.2.1 s.2.2.2.2.2.2.1 s.2.2.2.2.2.2.2.1 s.2.2.2.2.2.2.2.2.1 s.2.2.2.2.2.2.2.2.2 K0 R w) (name6, l12, all5, all_n5, all_c5, t98, t98_n, t98_c, t99, t100) w

def wal_Open_b3 (name5 : ByteArray) (l11 : Addr) (all4 : Option Addr) (all_n4 : Nat) (all_c4 : Nat) (R : Value → World → Prop) (w : World) : Prop :=
  CallR Tryd.prog fn_wal_Log_segments #[(.pointer (some l11))] w fun res11 w_19 =>
  mSlice res11 fun v24 v_n4 v_c4 =>
  wal_Open_b2 name5 l11 all4 all_n4 all_c4 v24 v_n4 v_c4 (v_n4 : Int) 0 R w_19

def wal_Open_b4 (name4 : ByteArray) (first4 : Int) (l10 : Addr) (all3 : Option Addr) (all_n3 : Nat) (all_c3 : Nat) (R : Value → World → Prop) (w : World) : Prop :=
  CallR Tryd.prog fn_wal_Log_there #[(.pointer (some l10)), (.int .i64 first4)] w fun res8 w_15 =>
  mBool res8 fun v20 =>
  Br (!v20) (
  LetW (World.drew w_15) fun w_16 =>
  LDP w_16 l10 fun v21 =>
  CallR Tryd.prog fn_wal_Segment #[(.string name4), (.int .i64 first4)] w_16 fun res9 w_17 =>
  mStr res9 fun v22 =>
  (World.cell? w_17 l10 = some (.pointer v21) ∧ 
  CallR Tryd.prog fn_disk_Disk_Append #[(.pointer v21), (.string v22), (.slice none 0 0)] w_17 fun res10 w_18 =>
  mInt .i64 res10 fun _ =>
  wal_Open_b3 name4 l10 all3 all_n3 all_c3 R w_18)) (
  wal_Open_b3 name4 l10 all3 all_n3 all_c3 R w_15)

def wal_Open_b5 (name3 : ByteArray) (first3 : Int) (l2 : Addr) (all2 : Option Addr) (all_n2 : Nat) (all_c2 : Nat) (n1 : Int) (K0 : (ByteArray × Int × Addr × (Option Addr) × Nat × Nat × Int) → World → Prop) (R : Value → World → Prop) (w : World) : Prop :=
  CallR Tryd.prog fn_wal_Log_there #[(.pointer (some l2)), (.int .i64 n1)] w fun res1 w_2 =>
  mBool res1 fun v1 =>
  Br v1 (
  ST w_2 (Addr.add l2 2) (.int .i64 n1) fun w_3 =>
  LetW (World.drew w_3) fun w_4 =>
  LDP w_4 l2 fun v2 =>
  CallR Tryd.prog fn_wal_Segment #[(.string name3), (.int .i64 n1)] w_4 fun res2 w_5 =>
  mStr res2 fun v3 =>
  (World.cell? w_5 l2 = some (.pointer v2) ∧ 
  CallR Tryd.prog fn_disk_Disk_Read #[(.pointer v2), (.string v3)] w_5 fun res3 w_6 =>
  mTup res3 fun l3 =>
  mCons l3 fun v4 l4 =>
  mSlice v4 fun v5 v_n v_c =>
  mCons l4 fun v6 l5 =>
  mInt .i64 v6 fun _ =>
  mNil l5 (
  CallR Tryd.prog fn_codec_ReadFrames #[(.slice v5 v_n v_c)] w_6 fun res4 w_7 =>
  mTup res4 fun l6 =>
  mCons l6 fun v8 l7 =>
  mSlice v8 fun v9 v_n1 v_c1 =>
  mCons l7 fun v10 l8 =>
  mInt .i64 v10 fun v11 =>
  mCons l8 fun v12 l9 =>
  mInt .i64 v12 fun v13 =>
  mNil l9 (
  rRun Tryd.prog (Builtin.append_ #[40, 40] 40 #[(.slice all2 all_n2 all_c2), (.slice v9 v_n1 v_c1)]) w_7 fun sr w_8 =>
  mSlice sr fun v14 v_n2 v_c2 =>
  Br (v13 != 0) (
  rRun Tryd.prog (Instr.sliceAt 41 (.slice v5 v_n v_c) none (some (.int .i64 v11)) none) w_8 fun sr1 w_9 =>
  mSlice sr1 fun v15 v_n3 v_c3 =>
  CallR Tryd.prog fn_wal_Log_cut #[(.pointer (some l2)), (.int .i64 n1), (.slice v15 v_n3 v_c3)] w_9 fun res5 w_10 =>
  mInt .i64 res5 fun v16 =>
  Br (v16 != 0) (
  R (.tuple #[(.pointer none), (.slice none 0 0), (.int .i64 v16)]) w_10) (
  wal_Open_b4 name3 first3 l2 v14 v_n2 v_c2 R w_10)) (
  LetW (World.drew w_8) fun w_11 =>
  LDP w_11 l2 fun v17 =>
  CallR Tryd.prog fn_wal_Segment #[(.string name3), (.int .i64 n1)] w_11 fun res6 w_12 =>
  mStr res6 fun v18 =>
  (World.cell? w_12 l2 = some (.pointer v17) ∧ 
  AL w_12 (.cells #[(.string v18)] 9) fun b w_13 =>
  (World.cell? w_13 l2 = some (.pointer v17) ∧ 
  CallR Tryd.prog fn_disk_Disk_Sync #[(.pointer v17), (.slice (some b) 1 1)] w_13 fun res7 w_14 =>
  mInt .i64 res7 fun _ =>
  K0 (name3, first3, l2, v14, v_n2, v_c2, IntKind.wrap .i64 (n1 + 1)) w_14))))))) (
  wal_Open_b4 name3 first3 l2 all2 all_n2 all_c2 R w_2)

def wal_Open_b6 (name2 : ByteArray) (first2 : Int) (l1 : Addr) (all1 : Option Addr) (all_n1 : Nat) (all_c1 : Nat) (n : Int) (R : Value → World → Prop) (w : World) : Prop :=
  LoopS (σ := ByteArray × Int × Addr × (Option Addr) × Nat × Nat × Int) (fun s w K0 =>
  wal_Open_b5 s.1 s.2.1 s.2.2.1 s.2.2.2.1 s.2.2.2.2.1 s.2.2.2.2.2.1 s.2.2.2.2.2.2 K0 R w) (name2, first2, l1, all1, all_n1, all_c1, n) w

def wal_Open_b7 (name1 : ByteArray) (first1 : Int) (l : Addr) (all : Option Addr) (all_n : Nat) (all_c : Nat) (R : Value → World → Prop) (w : World) : Prop :=
  wal_Open_b6 name1 first1 l all all_n all_c first1 R w

def wal_Open_b8 (d : Option Addr) (name : ByteArray) (first : Int) (R : Value → World → Prop) (w : World) : Prop :=
  CallR Tryd.prog fn_wal_named #[(.string name)] w fun res w_ =>
  mBool res fun v =>
  Br (!v) (
  R (.tuple #[(.pointer none), (.slice none 0 0), (.int .i64 1)]) w_) (
  Br (decide (first < 0)) (
  R (.tuple #[(.pointer none), (.slice none 0 0), (.int .i64 1)]) w_) (
  Br (decide (first > 999999)) (
  R (.tuple #[(.pointer none), (.slice none 0 0), (.int .i64 1)]) w_) (
  AL w_ (.cells #[(.pointer d), (.string name), (.int .i64 first)] 78) fun p w_1 =>
  wal_Open_b7 name first p none 0 0 R w_1)))

def wal_Open_p0 : Point (ByteArray × Int × Addr × (Option Addr) × Nat × Nat) := { slots := fun s => [(1, (.string s.1)), (2, (.int .i64 s.2.1)), (9, (.pointer (some s.2.2.1))), (10, (.slice s.2.2.2.1 s.2.2.2.2.1 s.2.2.2.2.2))], dec := fun r K => mStr (r 1) fun x => mInt .i64 (r 2) fun x1 => mPA (r 9) fun x2 => mSlice (r 10) fun x3 x4 x5 => K (x, x1, x2, x3, x4, x5) }
theorem wal_Open_p0_ok : wal_Open_p0.ok := by
  intro r K h
  unfold wal_Open_p0 at h
  obtain ⟨x, e0, h⟩ := mStr_elim h
  obtain ⟨x1, e1, h⟩ := mInt_elim h
  obtain ⟨x2, e2, h⟩ := mPA_elim h
  obtain ⟨x3, x4, x5, e3, h⟩ := mSlice_elim h
  exact ⟨(x, x1, x2, x3, x4, x5), regsOf_self (L := [(1, (.string x)), (2, (.int .i64 x1)), (9, (.pointer (some x2))), (10, (.slice x3 x4 x5))]) (List.forall_mem_cons.2 ⟨e0, List.forall_mem_cons.2 ⟨e1, List.forall_mem_cons.2 ⟨e2, List.forall_mem_cons.2 ⟨e3, List.forall_mem_nil _⟩⟩⟩⟩), h⟩
theorem wal_Open_p0_re (s : ByteArray × Int × Addr × (Option Addr) × Nat × Nat) (r : Regs) (K : (ByteArray × Int × Addr × (Option Addr) × Nat × Nat) → Prop) (h : K s) : wal_Open_p0.dec (regsOf (wal_Open_p0.slots s) r) K := by
  obtain ⟨x6, x7, x8, x9, x10, x11⟩ := s
  exact cast (show K (x6, x7, x8, x9, x10, x11) = wal_Open_p0.dec (regsOf (wal_Open_p0.slots (x6, x7, x8, x9, x10, x11)) r) K by kernel_rfl) h

def wal_Open_p1 : Point (ByteArray × Int × Addr × (Option Addr) × Nat × Nat) := { slots := fun s => [(1, (.string s.1)), (2, (.int .i64 s.2.1)), (9, (.pointer (some s.2.2.1))), (10, (.slice s.2.2.2.1 s.2.2.2.2.1 s.2.2.2.2.2))], dec := fun r K => mStr (r 1) fun x => mInt .i64 (r 2) fun x1 => mPA (r 9) fun x2 => mSlice (r 10) fun x3 x4 x5 => K (x, x1, x2, x3, x4, x5) }
theorem wal_Open_p1_ok : wal_Open_p1.ok := by
  intro r K h
  unfold wal_Open_p1 at h
  obtain ⟨x, e0, h⟩ := mStr_elim h
  obtain ⟨x1, e1, h⟩ := mInt_elim h
  obtain ⟨x2, e2, h⟩ := mPA_elim h
  obtain ⟨x3, x4, x5, e3, h⟩ := mSlice_elim h
  exact ⟨(x, x1, x2, x3, x4, x5), regsOf_self (L := [(1, (.string x)), (2, (.int .i64 x1)), (9, (.pointer (some x2))), (10, (.slice x3 x4 x5))]) (List.forall_mem_cons.2 ⟨e0, List.forall_mem_cons.2 ⟨e1, List.forall_mem_cons.2 ⟨e2, List.forall_mem_cons.2 ⟨e3, List.forall_mem_nil _⟩⟩⟩⟩), h⟩
theorem wal_Open_p1_re (s : ByteArray × Int × Addr × (Option Addr) × Nat × Nat) (r : Regs) (K : (ByteArray × Int × Addr × (Option Addr) × Nat × Nat) → Prop) (h : K s) : wal_Open_p1.dec (regsOf (wal_Open_p1.slots s) r) K := by
  obtain ⟨x6, x7, x8, x9, x10, x11⟩ := s
  exact cast (show K (x6, x7, x8, x9, x10, x11) = wal_Open_p1.dec (regsOf (wal_Open_p1.slots (x6, x7, x8, x9, x10, x11)) r) K by kernel_rfl) h

def wal_Open_p2 : Point (ByteArray × Addr × (Option Addr) × Nat × Nat) := { slots := fun s => [(1, (.string s.1)), (9, (.pointer (some s.2.1))), (10, (.slice s.2.2.1 s.2.2.2.1 s.2.2.2.2))], dec := fun r K => mStr (r 1) fun x => mPA (r 9) fun x1 => mSlice (r 10) fun x2 x3 x4 => K (x, x1, x2, x3, x4) }
theorem wal_Open_p2_ok : wal_Open_p2.ok := by
  intro r K h
  unfold wal_Open_p2 at h
  obtain ⟨x, e0, h⟩ := mStr_elim h
  obtain ⟨x1, e1, h⟩ := mPA_elim h
  obtain ⟨x2, x3, x4, e2, h⟩ := mSlice_elim h
  exact ⟨(x, x1, x2, x3, x4), regsOf_self (L := [(1, (.string x)), (9, (.pointer (some x1))), (10, (.slice x2 x3 x4))]) (List.forall_mem_cons.2 ⟨e0, List.forall_mem_cons.2 ⟨e1, List.forall_mem_cons.2 ⟨e2, List.forall_mem_nil _⟩⟩⟩), h⟩
theorem wal_Open_p2_re (s : ByteArray × Addr × (Option Addr) × Nat × Nat) (r : Regs) (K : (ByteArray × Addr × (Option Addr) × Nat × Nat) → Prop) (h : K s) : wal_Open_p2.dec (regsOf (wal_Open_p2.slots s) r) K := by
  obtain ⟨x5, x6, x7, x8, x9⟩ := s
  exact cast (show K (x5, x6, x7, x8, x9) = wal_Open_p2.dec (regsOf (wal_Open_p2.slots (x5, x6, x7, x8, x9)) r) K by kernel_rfl) h

def wal_Open_p3 : Point (Addr × (Option Addr) × Nat × Nat) := { slots := fun s => [(9, (.pointer (some s.1))), (10, (.slice s.2.1 s.2.2.1 s.2.2.2))], dec := fun r K => mPA (r 9) fun x => mSlice (r 10) fun x1 x2 x3 => K (x, x1, x2, x3) }
theorem wal_Open_p3_ok : wal_Open_p3.ok := by
  intro r K h
  unfold wal_Open_p3 at h
  obtain ⟨x, e0, h⟩ := mPA_elim h
  obtain ⟨x1, x2, x3, e1, h⟩ := mSlice_elim h
  exact ⟨(x, x1, x2, x3), regsOf_self (L := [(9, (.pointer (some x))), (10, (.slice x1 x2 x3))]) (List.forall_mem_cons.2 ⟨e0, List.forall_mem_cons.2 ⟨e1, List.forall_mem_nil _⟩⟩), h⟩
theorem wal_Open_p3_re (s : Addr × (Option Addr) × Nat × Nat) (r : Regs) (K : (Addr × (Option Addr) × Nat × Nat) → Prop) (h : K s) : wal_Open_p3.dec (regsOf (wal_Open_p3.slots s) r) K := by
  obtain ⟨x4, x5, x6, x7⟩ := s
  exact cast (show K (x4, x5, x6, x7) = wal_Open_p3.dec (regsOf (wal_Open_p3.slots (x4, x5, x6, x7)) r) K by kernel_rfl) h

def wal_Open_p4 : Point (ByteArray × Addr × (Option Addr) × Nat × Nat × (Option Addr) × Nat × Nat × Int × Int) := { slots := fun s => [(1, (.string s.1)), (9, (.pointer (some s.2.1))), (10, (.slice s.2.2.1 s.2.2.2.1 s.2.2.2.2.1)), (98, (.slice s.2.2.2.2.2.1 s.2.2.2.2.2.2.1 s.2.2.2.2.2.2.2.1)), (99, (.int .i64 s.2.2.2.2.2.2.2.2.1)), (100, (.int .i64 s.2.2.2.2.2.2.2.2.2))], dec := fun r K => mStr (r 1) fun x => mPA (r 9) fun x1 => mSlice (r 10) fun x2 x3 x4 => mSlice (r 98) fun x5 x6 x7 => mInt .i64 (r 99) fun x8 => mInt .i64 (r 100) fun x9 => K (x, x1, x2, x3, x4, x5, x6, x7, x8, x9) }
theorem wal_Open_p4_ok : wal_Open_p4.ok := by
  intro r K h
  unfold wal_Open_p4 at h
  obtain ⟨x, e0, h⟩ := mStr_elim h
  obtain ⟨x1, e1, h⟩ := mPA_elim h
  obtain ⟨x2, x3, x4, e2, h⟩ := mSlice_elim h
  obtain ⟨x5, x6, x7, e3, h⟩ := mSlice_elim h
  obtain ⟨x8, e4, h⟩ := mInt_elim h
  obtain ⟨x9, e5, h⟩ := mInt_elim h
  exact ⟨(x, x1, x2, x3, x4, x5, x6, x7, x8, x9), regsOf_self (L := [(1, (.string x)), (9, (.pointer (some x1))), (10, (.slice x2 x3 x4)), (98, (.slice x5 x6 x7)), (99, (.int .i64 x8)), (100, (.int .i64 x9))]) (List.forall_mem_cons.2 ⟨e0, List.forall_mem_cons.2 ⟨e1, List.forall_mem_cons.2 ⟨e2, List.forall_mem_cons.2 ⟨e3, List.forall_mem_cons.2 ⟨e4, List.forall_mem_cons.2 ⟨e5, List.forall_mem_nil _⟩⟩⟩⟩⟩⟩), h⟩
theorem wal_Open_p4_re (s : ByteArray × Addr × (Option Addr) × Nat × Nat × (Option Addr) × Nat × Nat × Int × Int) (r : Regs) (K : (ByteArray × Addr × (Option Addr) × Nat × Nat × (Option Addr) × Nat × Nat × Int × Int) → Prop) (h : K s) : wal_Open_p4.dec (regsOf (wal_Open_p4.slots s) r) K := by
  obtain ⟨x10, x11, x12, x13, x14, x15, x16, x17, x18, x19⟩ := s
  exact cast (show K (x10, x11, x12, x13, x14, x15, x16, x17, x18, x19) = wal_Open_p4.dec (regsOf (wal_Open_p4.slots (x10, x11, x12, x13, x14, x15, x16, x17, x18, x19)) r) K by kernel_rfl) h

def wal_Open_p5 : Point (ByteArray × Int × Addr × (Option Addr) × Nat × Nat × Int) := { slots := fun s => [(1, (.string s.1)), (2, (.int .i64 s.2.1)), (9, (.pointer (some s.2.2.1))), (10, (.slice s.2.2.2.1 s.2.2.2.2.1 s.2.2.2.2.2.1)), (11, (.int .i64 s.2.2.2.2.2.2))], dec := fun r K => mStr (r 1) fun x => mInt .i64 (r 2) fun x1 => mPA (r 9) fun x2 => mSlice (r 10) fun x3 x4 x5 => mInt .i64 (r 11) fun x6 => K (x, x1, x2, x3, x4, x5, x6) }
theorem wal_Open_p5_ok : wal_Open_p5.ok := by
  intro r K h
  unfold wal_Open_p5 at h
  obtain ⟨x, e0, h⟩ := mStr_elim h
  obtain ⟨x1, e1, h⟩ := mInt_elim h
  obtain ⟨x2, e2, h⟩ := mPA_elim h
  obtain ⟨x3, x4, x5, e3, h⟩ := mSlice_elim h
  obtain ⟨x6, e4, h⟩ := mInt_elim h
  exact ⟨(x, x1, x2, x3, x4, x5, x6), regsOf_self (L := [(1, (.string x)), (2, (.int .i64 x1)), (9, (.pointer (some x2))), (10, (.slice x3 x4 x5)), (11, (.int .i64 x6))]) (List.forall_mem_cons.2 ⟨e0, List.forall_mem_cons.2 ⟨e1, List.forall_mem_cons.2 ⟨e2, List.forall_mem_cons.2 ⟨e3, List.forall_mem_cons.2 ⟨e4, List.forall_mem_nil _⟩⟩⟩⟩⟩), h⟩
theorem wal_Open_p5_re (s : ByteArray × Int × Addr × (Option Addr) × Nat × Nat × Int) (r : Regs) (K : (ByteArray × Int × Addr × (Option Addr) × Nat × Nat × Int) → Prop) (h : K s) : wal_Open_p5.dec (regsOf (wal_Open_p5.slots s) r) K := by
  obtain ⟨x7, x8, x9, x10, x11, x12, x13⟩ := s
  exact cast (show K (x7, x8, x9, x10, x11, x12, x13) = wal_Open_p5.dec (regsOf (wal_Open_p5.slots (x7, x8, x9, x10, x11, x12, x13)) r) K by kernel_rfl) h

set_option maxRecDepth 100000 in
theorem wal_Open_sound (d : Option Addr) (name : ByteArray) (first : Int) (R : Value → World → Prop) (w : World) (h : wal_Open_b8 d name first R w) :
    CallR Tryd.prog fn_wal_Open #[(.pointer d), (.string name), (.int .i64 first)] w R := by
  refine CallR_intro (args := [(.pointer d), (.string name), (.int .i64 first)]) Tryd.func14 rfl (Nat.le_of_ble_eq_true (by kernel_rfl)) ?_
  refine Wp_glue wal_Open_p0 (fun s w => wal_Open_b7 s.1 s.2.1 s.2.2.1 s.2.2.2.1 s.2.2.2.2.1 s.2.2.2.2.2 R w) [_, _, _, _] (Q0 := fun e _ r w => match e with | .normal => wal_Open_p0.dec r (fun s => wal_Open_b7 s.1 s.2.1 s.2.2.1 s.2.2.2.1 s.2.2.2.2.1 s.2.2.2.2.2 R w) | .exit _ => False | .ret => retQ Tryd.prog Tryd.f14.results R .ret [] r w | _ => False) h (by kernel_rfl) (fun s r w h => ?_) wal_Open_p0_ok (fun _ _ _ h => h) ?_
  · obtain ⟨name1, first1, l, all, all_n, all_c⟩ := s
    have h : wal_Open_b7 name1 first1 l all all_n all_c R w := h
    refine Wp_seq_via wal_Open_p1 (fun s w => wal_Open_b4 s.1 s.2.1 s.2.2.1 s.2.2.2.1 s.2.2.2.2.1 s.2.2.2.2.2 R w) (fun s r w h => ?_) (fun hN1 => ?_)
    · obtain ⟨name4, first4, l10, all3, all_n3, all_c3⟩ := s
      have h : wal_Open_b4 name4 first4 l10 all3 all_n3 all_c3 R w := h
      refine Wp_glue wal_Open_p2 (fun s w => wal_Open_b3 s.1 s.2.1 s.2.2.1 s.2.2.2.1 s.2.2.2.2 R w) [_] (Q0 := fun e _ r w => match e with | .normal => wal_Open_p2.dec r (fun s => wal_Open_b3 s.1 s.2.1 s.2.2.1 s.2.2.2.1 s.2.2.2.2 R w) | .exit _ => False | .ret => retQ Tryd.prog Tryd.f14.results R .ret [] r w | _ => False) h (by kernel_rfl) (fun s r w h => ?_) wal_Open_p2_ok (fun _ _ _ h => h) ?_
      · obtain ⟨name5, l11, all4, all_n4, all_c4⟩ := s
        have h : wal_Open_b3 name5 l11 all4 all_n4 all_c4 R w := h
        refine Wp_seq_via wal_Open_p3 (fun s w => wal_Open_b0 s.1 s.2.1 s.2.2.1 s.2.2.2 R w) (fun s r w h => ?_) (fun hN2 => ?_)
        · obtain ⟨l14, all7, all_n7, all_c7⟩ := s
          have h : wal_Open_b0 l14 all7 all_n7 all_c7 R w := h
          refine Wp_leaf_end (Q0 := fun e _ r w => match e with | .normal => retQ Tryd.prog Tryd.f14.results R .normal [] r w | .exit _ => False | .ret => retQ Tryd.prog Tryd.f14.results R .ret [] r w | _ => False) h (by kernel_rfl) ?_
          intro e _ r w h
          cases e with
          | normal => exact h
          | exit i => exact h.elim
          | ret => exact h
          | goto i => exact h.elim
          | panic c => exact h.elim
          | outgrown => exact h.elim
        · refine Wp_glue wal_Open_p4 (fun s w => wal_Open_b2 s.1 s.2.1 s.2.2.1 s.2.2.2.1 s.2.2.2.2.1 s.2.2.2.2.2.1 s.2.2.2.2.2.2.1 s.2.2.2.2.2.2.2.1 s.2.2.2.2.2.2.2.2.1 s.2.2.2.2.2.2.2.2.2 R w) [_] (Q0 := fun e _ r w => match e with | .normal => wal_Open_p4.dec r (fun s => wal_Open_b2 s.1 s.2.1 s.2.2.1 s.2.2.2.1 s.2.2.2.2.1 s.2.2.2.2.2.1 s.2.2.2.2.2.2.1 s.2.2.2.2.2.2.2.1 s.2.2.2.2.2.2.2.2.1 s.2.2.2.2.2.2.2.2.2 R w) | .exit _ => False | .ret => retQ Tryd.prog Tryd.f14.results R .ret [] r w | _ => False) h (by kernel_rfl) (fun s r w h => ?_) wal_Open_p4_ok (fun _ _ _ h => h) ?_
          · obtain ⟨name6, l12, all5, all_n5, all_c5, t98, t98_n, t98_c, t99, t100⟩ := s
            have h : wal_Open_b2 name6 l12 all5 all_n5 all_c5 t98 t98_n t98_c t99 t100 R w := h
            refine Wp_block_via wal_Open_p3 (fun s w => wal_Open_b0 s.1 s.2.1 s.2.2.1 s.2.2.2 R w) hN2 (fun hX3 => ?_)
            refine Wp_loop (p := wal_Open_p4) wal_Open_p4_ok (fun s r w K0 h => ?_) h
            obtain ⟨name7, l13, all6, all_n6, all_c6, t981, t98_n1, t98_c1, t991, t1001⟩ := s
            have h : wal_Open_b1 name7 l13 all6 all_n6 all_c6 t981 t98_n1 t98_c1 t991 t1001 K0 R w := h
            have hK4 := fun (s : ByteArray × Addr × (Option Addr) × Nat × Nat × (Option Addr) × Nat × Nat × Int × Int) (r : Regs) (w : World) (h : K0 s w) => wal_Open_p4_re s r (fun s => K0 s w) h
            refine Wp_leaf_end (Q0 := fun e _ r w => match e with | .normal => wal_Open_p4.dec r (fun s => K0 s w) | .exit i => exitQ i 2 (wal_Open_p3.dec r (fun s => wal_Open_b0 s.1 s.2.1 s.2.2.1 s.2.2.2 R w)) (False) | .ret => retQ Tryd.prog Tryd.f14.results R .ret [] r w | _ => False) h (by kernel_rfl) ?_
            intro e _ r w h
            cases e with
            | normal =>
              obtain ⟨s, hs, h⟩ := wal_Open_p4_ok _ _ h
              rw [← hs]
              exact hK4 s r w h
            | exit i =>
              rcases exitQ_elim h with ⟨rfl, h⟩ | ⟨_, h⟩
              · obtain ⟨s, hs, h⟩ := wal_Open_p3_ok _ _ h
                rw [← hs]
                exact hX3 s r w h
              exact h.elim
            | ret => exact h
            | goto i => exact h.elim
            | panic c => exact h.elim
            | outgrown => exact h.elim
          · intro e _ r w hne h
            cases e with
            | normal => exact absurd rfl hne
            | exit i => exact h.elim
            | ret => exact h
            | goto i => exact h.elim
            | panic c => exact h.elim
            | outgrown => exact h.elim
      · intro e _ r w hne h
        cases e with
        | normal => exact absurd rfl hne
        | exit i => exact h.elim
        | ret => exact h
        | goto i => exact h.elim
        | panic c => exact h.elim
        | outgrown => exact h.elim
    · refine Wp_glue wal_Open_p5 (fun s w => wal_Open_b6 s.1 s.2.1 s.2.2.1 s.2.2.2.1 s.2.2.2.2.1 s.2.2.2.2.2.1 s.2.2.2.2.2.2 R w) [_] (Q0 := fun e _ r w => match e with | .normal => wal_Open_p5.dec r (fun s => wal_Open_b6 s.1 s.2.1 s.2.2.1 s.2.2.2.1 s.2.2.2.2.1 s.2.2.2.2.2.1 s.2.2.2.2.2.2 R w) | .exit _ => False | .ret => retQ Tryd.prog Tryd.f14.results R .ret [] r w | _ => False) h (by kernel_rfl) (fun s r w h => ?_) wal_Open_p5_ok (fun _ _ _ h => h) ?_
      · obtain ⟨name2, first2, l1, all1, all_n1, all_c1, n⟩ := s
        have h : wal_Open_b6 name2 first2 l1 all1 all_n1 all_c1 n R w := h
        refine Wp_block_via wal_Open_p1 (fun s w => wal_Open_b4 s.1 s.2.1 s.2.2.1 s.2.2.2.1 s.2.2.2.2.1 s.2.2.2.2.2 R w) hN1 (fun hX5 => ?_)
        refine Wp_loop (p := wal_Open_p5) wal_Open_p5_ok (fun s r w K0 h => ?_) h
        obtain ⟨name3, first3, l2, all2, all_n2, all_c2, n1⟩ := s
        have h : wal_Open_b5 name3 first3 l2 all2 all_n2 all_c2 n1 K0 R w := h
        have hK6 := fun (s : ByteArray × Int × Addr × (Option Addr) × Nat × Nat × Int) (r : Regs) (w : World) (h : K0 s w) => wal_Open_p5_re s r (fun s => K0 s w) h
        refine Wp_leaf_end (Q0 := fun e _ r w => match e with | .normal => wal_Open_p5.dec r (fun s => K0 s w) | .exit i => exitQ i 0 (wal_Open_p1.dec r (fun s => wal_Open_b4 s.1 s.2.1 s.2.2.1 s.2.2.2.1 s.2.2.2.2.1 s.2.2.2.2.2 R w)) (False) | .ret => retQ Tryd.prog Tryd.f14.results R .ret [] r w | _ => False) h (by kernel_rfl) ?_
        intro e _ r w h
        cases e with
        | normal =>
          obtain ⟨s, hs, h⟩ := wal_Open_p5_ok _ _ h
          rw [← hs]
          exact hK6 s r w h
        | exit i =>
          rcases exitQ_elim h with ⟨rfl, h⟩ | ⟨_, h⟩
          · obtain ⟨s, hs, h⟩ := wal_Open_p1_ok _ _ h
            rw [← hs]
            exact hX5 s r w h
          exact h.elim
        | ret => exact h
        | goto i => exact h.elim
        | panic c => exact h.elim
        | outgrown => exact h.elim
      · intro e _ r w hne h
        cases e with
        | normal => exact absurd rfl hne
        | exit i => exact h.elim
        | ret => exact h
        | goto i => exact h.elim
        | panic c => exact h.elim
        | outgrown => exact h.elim
  · intro e _ r w hne h
    cases e with
    | normal => exact absurd rfl hne
    | exit i => exact h.elim
    | ret => exact h
    | goto i => exact h.elim
    | panic c => exact h.elim
    | outgrown => exact h.elim

/- (*glacier/wal.Log).Append -/
def wal_Log_Append_b0 (l4 : Option Addr) (payloads4 : Option Addr) (payloads_n4 : Nat) (payloads_c4 : Nat) (R : Value → World → Prop) (w : World) : Prop :=
  LetW (World.drew w) fun w_ =>
  NN l4 fun p =>
  LDP w_ p fun v1 =>
  NN l4 fun p1 =>
  LDS w_ (Addr.add p1 1) fun v2 =>
  NN l4 fun p2 =>
  LDI .i64 w_ (Addr.add p2 2) fun v3 =>
  CallR Tryd.prog fn_wal_Segment #[(.string v2), (.int .i64 v3)] w_ fun res w_1 =>
  mStr res fun v4 =>
  (World.cell? w_1 p = some (.pointer v1) ∧ 
  CallR Tryd.prog fn_codec_Frames #[(.slice payloads4 payloads_n4 payloads_c4)] w_1 fun res1 w_2 =>
  mSlice res1 fun v5 v_n1 v_c1 =>
  (World.cell? w_2 p = some (.pointer v1) ∧ 
  AL w_2 (.cells #[(.slice v5 v_n1 v_c1)] 41) fun b w_3 =>
  (World.cell? w_3 p = some (.pointer v1) ∧ 
  CallR Tryd.prog fn_disk_Disk_Append #[(.pointer v1), (.string v4), (.slice (some b) 1 1)] w_3 fun res2 w_4 =>
  mInt .i64 res2 fun v6 =>
  R (.int .i64 v6) w_4)))

def wal_Log_Append_b1 (l3 : Option Addr) (payloads3 : Option Addr) (payloads_n3 : Nat) (payloads_c3 : Nat) (t71 : Option Addr) (t7_n1 : Nat) (t7_c1 : Nat) (t81 : Int) (t91 : Int) (K0 : ((Option Addr) × (Option Addr) × Nat × Nat × (Option Addr) × Nat × Nat × Int × Int) → World → Prop) (R : Value → World → Prop) (w : World) : Prop :=
  Br (decide (t91 < t81)) (
  IX t71 t7_n1 t91 1 fun a =>
  LDSl w a fun _ v_n _ =>
  Br (decide ((v_n : Int) > 67108864)) (
  R (.int .i64 3) w) (
  K0 (l3, payloads3, payloads_n3, payloads_c3, t71, t7_n1, t7_c1, t81, IntKind.wrap .i64 (t91 + 1)) w)) (
  wal_Log_Append_b0 l3 payloads3 payloads_n3 payloads_c3 R w)

def wal_Log_Append_b2 (l2 : Option Addr) (payloads2 : Option Addr) (payloads_n2 : Nat) (payloads_c2 : Nat) (t7 : Option Addr) (t7_n : Nat) (t7_c : Nat) (t8 : Int) (t9 : Int) (R : Value → World → Prop) (w : World) : Prop :=
  LoopS (σ := (Option Addr) × (Option Addr) × Nat × Nat × (Option Addr) × Nat × Nat × Int × Int) (fun s w K0 =>
  wal_Log_Append_b1 s.1 s.2.1 s.2.2.1 s.2.2.2.1 s.2.2.2.2.1 s.2.2.2.2.2.1 s.2.2.2.2.2.2.1 s.2.2.2.2.2.2.2.1 s.2.2.2.2.2.2.2.2 K0 R w) (l2, payloads2, payloads_n2, payloads_c2, t7, t7_n, t7_c, t8, t9) w

def wal_Log_Append_b3 (l1 : Option Addr) (payloads1 : Option Addr) (payloads_n1 : Nat) (payloads_c1 : Nat) (R : Value → World → Prop) (w : World) : Prop :=
  wal_Log_Append_b2 l1 payloads1 payloads_n1 payloads_c1 payloads1 payloads_n1 payloads_c1 (payloads_n1 : Int) 0 R w

def wal_Log_Append_b4 (l : Option Addr) (payloads : Option Addr) (payloads_n : Nat) (payloads_c : Nat) (R : Value → World → Prop) (w : World) : Prop :=
  wal_Log_Append_b3 l payloads payloads_n payloads_c R w

def wal_Log_Append_p0 : Point ((Option Addr) × (Option Addr) × Nat × Nat) := { slots := fun s => [(0, (.pointer s.1)), (1, (.slice s.2.1 s.2.2.1 s.2.2.2))], dec := fun r K => mPtr (r 0) fun x => mSlice (r 1) fun x1 x2 x3 => K (x, x1, x2, x3) }
theorem wal_Log_Append_p0_ok : wal_Log_Append_p0.ok := by
  intro r K h
  unfold wal_Log_Append_p0 at h
  obtain ⟨x, e0, h⟩ := mPtr_elim h
  obtain ⟨x1, x2, x3, e1, h⟩ := mSlice_elim h
  exact ⟨(x, x1, x2, x3), regsOf_self (L := [(0, (.pointer x)), (1, (.slice x1 x2 x3))]) (List.forall_mem_cons.2 ⟨e0, List.forall_mem_cons.2 ⟨e1, List.forall_mem_nil _⟩⟩), h⟩
theorem wal_Log_Append_p0_re (s : (Option Addr) × (Option Addr) × Nat × Nat) (r : Regs) (K : ((Option Addr) × (Option Addr) × Nat × Nat) → Prop) (h : K s) : wal_Log_Append_p0.dec (regsOf (wal_Log_Append_p0.slots s) r) K := by
  obtain ⟨x4, x5, x6, x7⟩ := s
  exact cast (show K (x4, x5, x6, x7) = wal_Log_Append_p0.dec (regsOf (wal_Log_Append_p0.slots (x4, x5, x6, x7)) r) K by kernel_rfl) h

def wal_Log_Append_p1 : Point ((Option Addr) × (Option Addr) × Nat × Nat) := { slots := fun s => [(0, (.pointer s.1)), (1, (.slice s.2.1 s.2.2.1 s.2.2.2))], dec := fun r K => mPtr (r 0) fun x => mSlice (r 1) fun x1 x2 x3 => K (x, x1, x2, x3) }
theorem wal_Log_Append_p1_ok : wal_Log_Append_p1.ok := by
  intro r K h
  unfold wal_Log_Append_p1 at h
  obtain ⟨x, e0, h⟩ := mPtr_elim h
  obtain ⟨x1, x2, x3, e1, h⟩ := mSlice_elim h
  exact ⟨(x, x1, x2, x3), regsOf_self (L := [(0, (.pointer x)), (1, (.slice x1 x2 x3))]) (List.forall_mem_cons.2 ⟨e0, List.forall_mem_cons.2 ⟨e1, List.forall_mem_nil _⟩⟩), h⟩
theorem wal_Log_Append_p1_re (s : (Option Addr) × (Option Addr) × Nat × Nat) (r : Regs) (K : ((Option Addr) × (Option Addr) × Nat × Nat) → Prop) (h : K s) : wal_Log_Append_p1.dec (regsOf (wal_Log_Append_p1.slots s) r) K := by
  obtain ⟨x4, x5, x6, x7⟩ := s
  exact cast (show K (x4, x5, x6, x7) = wal_Log_Append_p1.dec (regsOf (wal_Log_Append_p1.slots (x4, x5, x6, x7)) r) K by kernel_rfl) h

def wal_Log_Append_p2 : Point ((Option Addr) × (Option Addr) × Nat × Nat × (Option Addr) × Nat × Nat × Int × Int) := { slots := fun s => [(0, (.pointer s.1)), (1, (.slice s.2.1 s.2.2.1 s.2.2.2.1)), (7, (.slice s.2.2.2.2.1 s.2.2.2.2.2.1 s.2.2.2.2.2.2.1)), (8, (.int .i64 s.2.2.2.2.2.2.2.1)), (9, (.int .i64 s.2.2.2.2.2.2.2.2))], dec := fun r K => mPtr (r 0) fun x => mSlice (r 1) fun x1 x2 x3 => mSlice (r 7) fun x4 x5 x6 => mInt .i64 (r 8) fun x7 => mInt .i64 (r 9) fun x8 => K (x, x1, x2, x3, x4, x5, x6, x7, x8) }
theorem wal_Log_Append_p2_ok : wal_Log_Append_p2.ok := by
  intro r K h
  unfold wal_Log_Append_p2 at h
  obtain ⟨x, e0, h⟩ := mPtr_elim h
  obtain ⟨x1, x2, x3, e1, h⟩ := mSlice_elim h
  obtain ⟨x4, x5, x6, e2, h⟩ := mSlice_elim h
  obtain ⟨x7, e3, h⟩ := mInt_elim h
  obtain ⟨x8, e4, h⟩ := mInt_elim h
  exact ⟨(x, x1, x2, x3, x4, x5, x6, x7, x8), regsOf_self (L := [(0, (.pointer x)), (1, (.slice x1 x2 x3)), (7, (.slice x4 x5 x6)), (8, (.int .i64 x7)), (9, (.int .i64 x8))]) (List.forall_mem_cons.2 ⟨e0, List.forall_mem_cons.2 ⟨e1, List.forall_mem_cons.2 ⟨e2, List.forall_mem_cons.2 ⟨e3, List.forall_mem_cons.2 ⟨e4, List.forall_mem_nil _⟩⟩⟩⟩⟩), h⟩
theorem wal_Log_Append_p2_re (s : (Option Addr) × (Option Addr) × Nat × Nat × (Option Addr) × Nat × Nat × Int × Int) (r : Regs) (K : ((Option Addr) × (Option Addr) × Nat × Nat × (Option Addr) × Nat × Nat × Int × Int) → Prop) (h : K s) : wal_Log_Append_p2.dec (regsOf (wal_Log_Append_p2.slots s) r) K := by
  obtain ⟨x9, x10, x11, x12, x13, x14, x15, x16, x17⟩ := s
  exact cast (show K (x9, x10, x11, x12, x13, x14, x15, x16, x17) = wal_Log_Append_p2.dec (regsOf (wal_Log_Append_p2.slots (x9, x10, x11, x12, x13, x14, x15, x16, x17)) r) K by kernel_rfl) h

set_option maxRecDepth 100000 in
theorem wal_Log_Append_sound (l : Option Addr) (payloads : Option Addr) (payloads_n : Nat) (payloads_c : Nat) (R : Value → World → Prop) (w : World) (h : wal_Log_Append_b4 l payloads payloads_n payloads_c R w) :
    CallR Tryd.prog fn_wal_Log_Append #[(.pointer l), (.slice payloads payloads_n payloads_c)] w R := by
  refine CallR_intro (args := [(.pointer l), (.slice payloads payloads_n payloads_c)]) Tryd.func15 rfl (Nat.le_of_ble_eq_true (by kernel_rfl)) ?_
  refine Wp_glue wal_Log_Append_p0 (fun s w => wal_Log_Append_b3 s.1 s.2.1 s.2.2.1 s.2.2.2 R w) [_] (Q0 := fun e _ r w => match e with | .normal => wal_Log_Append_p0.dec r (fun s => wal_Log_Append_b3 s.1 s.2.1 s.2.2.1 s.2.2.2 R w) | .exit _ => False | .ret => retQ Tryd.prog Tryd.f15.results R .ret [] r w | _ => False) h (by kernel_rfl) (fun s r w h => ?_) wal_Log_Append_p0_ok (fun _ _ _ h => h) ?_
  · obtain ⟨l1, payloads1, payloads_n1, payloads_c1⟩ := s
    have h : wal_Log_Append_b3 l1 payloads1 payloads_n1 payloads_c1 R w := h
    refine Wp_seq_via wal_Log_Append_p1 (fun s w => wal_Log_Append_b0 s.1 s.2.1 s.2.2.1 s.2.2.2 R w) (fun s r w h => ?_) (fun hN1 => ?_)
    · obtain ⟨l4, payloads4, payloads_n4, payloads_c4⟩ := s
      have h : wal_Log_Append_b0 l4 payloads4 payloads_n4 payloads_c4 R w := h
      refine Wp_leaf_end (Q0 := fun e _ r w => match e with | .normal => retQ Tryd.prog Tryd.f15.results R .normal [] r w | .exit _ => False | .ret => retQ Tryd.prog Tryd.f15.results R .ret [] r w | _ => False) h (by kernel_rfl) ?_
      intro e _ r w h
      cases e with
      | normal => exact h
      | exit i => exact h.elim
      | ret => exact h
      | goto i => exact h.elim
      | panic c => exact h.elim
      | outgrown => exact h.elim
    · refine Wp_glue wal_Log_Append_p2 (fun s w => wal_Log_Append_b2 s.1 s.2.1 s.2.2.1 s.2.2.2.1 s.2.2.2.2.1 s.2.2.2.2.2.1 s.2.2.2.2.2.2.1 s.2.2.2.2.2.2.2.1 s.2.2.2.2.2.2.2.2 R w) [_] (Q0 := fun e _ r w => match e with | .normal => wal_Log_Append_p2.dec r (fun s => wal_Log_Append_b2 s.1 s.2.1 s.2.2.1 s.2.2.2.1 s.2.2.2.2.1 s.2.2.2.2.2.1 s.2.2.2.2.2.2.1 s.2.2.2.2.2.2.2.1 s.2.2.2.2.2.2.2.2 R w) | .exit _ => False | .ret => retQ Tryd.prog Tryd.f15.results R .ret [] r w | _ => False) h (by kernel_rfl) (fun s r w h => ?_) wal_Log_Append_p2_ok (fun _ _ _ h => h) ?_
      · obtain ⟨l2, payloads2, payloads_n2, payloads_c2, t7, t7_n, t7_c, t8, t9⟩ := s
        have h : wal_Log_Append_b2 l2 payloads2 payloads_n2 payloads_c2 t7 t7_n t7_c t8 t9 R w := h
        refine Wp_block_via wal_Log_Append_p1 (fun s w => wal_Log_Append_b0 s.1 s.2.1 s.2.2.1 s.2.2.2 R w) hN1 (fun hX2 => ?_)
        refine Wp_loop (p := wal_Log_Append_p2) wal_Log_Append_p2_ok (fun s r w K0 h => ?_) h
        obtain ⟨l3, payloads3, payloads_n3, payloads_c3, t71, t7_n1, t7_c1, t81, t91⟩ := s
        have h : wal_Log_Append_b1 l3 payloads3 payloads_n3 payloads_c3 t71 t7_n1 t7_c1 t81 t91 K0 R w := h
        have hK3 := fun (s : (Option Addr) × (Option Addr) × Nat × Nat × (Option Addr) × Nat × Nat × Int × Int) (r : Regs) (w : World) (h : K0 s w) => wal_Log_Append_p2_re s r (fun s => K0 s w) h
        refine Wp_leaf_end (Q0 := fun e _ r w => match e with | .normal => wal_Log_Append_p2.dec r (fun s => K0 s w) | .exit i => exitQ i 0 (wal_Log_Append_p1.dec r (fun s => wal_Log_Append_b0 s.1 s.2.1 s.2.2.1 s.2.2.2 R w)) (False) | .ret => retQ Tryd.prog Tryd.f15.results R .ret [] r w | _ => False) h (by kernel_rfl) ?_
        intro e _ r w h
        cases e with
        | normal =>
          obtain ⟨s, hs, h⟩ := wal_Log_Append_p2_ok _ _ h
          rw [← hs]
          exact hK3 s r w h
        | exit i =>
          rcases exitQ_elim h with ⟨rfl, h⟩ | ⟨_, h⟩
          · obtain ⟨s, hs, h⟩ := wal_Log_Append_p1_ok _ _ h
            rw [← hs]
            exact hX2 s r w h
          exact h.elim
        | ret => exact h
        | goto i => exact h.elim
        | panic c => exact h.elim
        | outgrown => exact h.elim
      · intro e _ r w hne h
        cases e with
        | normal => exact absurd rfl hne
        | exit i => exact h.elim
        | ret => exact h
        | goto i => exact h.elim
        | panic c => exact h.elim
        | outgrown => exact h.elim
  · intro e _ r w hne h
    cases e with
    | normal => exact absurd rfl hne
    | exit i => exact h.elim
    | ret => exact h
    | goto i => exact h.elim
    | panic c => exact h.elim
    | outgrown => exact h.elim

/- (*glacier/wal.Log).Sync -/
def wal_Log_Sync_b0 (l : Option Addr) (R : Value → World → Prop) (w : World) : Prop :=
  LetW (World.drew w) fun w_ =>
  NN l fun p =>
  LDP w_ p fun v =>
  NN l fun p1 =>
  LDS w_ (Addr.add p1 1) fun v1 =>
  NN l fun p2 =>
  LDI .i64 w_ (Addr.add p2 2) fun v2 =>
  CallR Tryd.prog fn_wal_Segment #[(.string v1), (.int .i64 v2)] w_ fun res w_1 =>
  mStr res fun v3 =>
  (World.cell? w_1 p = some (.pointer v) ∧ 
  AL w_1 (.cells #[(.string v3)] 9) fun b w_2 =>
  (World.cell? w_2 p = some (.pointer v) ∧ 
  CallR Tryd.prog fn_disk_Disk_Sync #[(.pointer v), (.slice (some b) 1 1)] w_2 fun res1 w_3 =>
  mInt .i64 res1 fun v4 =>
  R (.int .i64 v4) w_3))

set_option maxRecDepth 100000 in
theorem wal_Log_Sync_sound (l : Option Addr) (R : Value → World → Prop) (w : World) (h : wal_Log_Sync_b0 l R w) :
    CallR Tryd.prog fn_wal_Log_Sync #[(.pointer l)] w R := by
  refine CallR_intro (args := [(.pointer l)]) Tryd.func21 rfl (Nat.le_of_ble_eq_true (by kernel_rfl)) ?_
  refine Wp_leaf_end (Q0 := fun e _ r w => match e with | .normal => retQ Tryd.prog Tryd.f21.results R .normal [] r w | .exit _ => False | .ret => retQ Tryd.prog Tryd.f21.results R .ret [] r w | _ => False) h (by kernel_rfl) ?_
  intro e _ r w h
  cases e with
  | normal => exact h
  | exit i => exact h.elim
  | ret => exact h
  | goto i => exact h.elim
  | panic c => exact h.elim
  | outgrown => exact h.elim

/- (*glacier/wal.Log).Rotate -/
def wal_Log_Rotate_b0 (l : Option Addr) (R : Value → World → Prop) (w : World) : Prop :=
  NN l fun p =>
  LDI .i64 w (Addr.add p 2) fun v =>
  Br (v == 999999) (
  R (.int .i64 2) w) (
  CallR Tryd.prog fn_wal_Log_Sync #[(.pointer l)] w fun res w_ =>
  mInt .i64 res fun _ =>
  NN l fun p1 =>
  LDI .i64 w_ (Addr.add p1 2) fun v2 =>
  NN l fun p2 =>
  ST w_ (Addr.add p2 2) (.int .i64 (IntKind.wrap .i64 (v2 + 1))) fun w_1 =>
  LetW (World.drew w_1) fun w_2 =>
  NN l fun p3 =>
  LDP w_2 p3 fun v3 =>
  NN l fun p4 =>
  LDS w_2 (Addr.add p4 1) fun v4 =>
  NN l fun p5 =>
  LDI .i64 w_2 (Addr.add p5 2) fun v5 =>
  CallR Tryd.prog fn_wal_Segment #[(.string v4), (.int .i64 v5)] w_2 fun res1 w_3 =>
  mStr res1 fun v6 =>
  (World.cell? w_3 p3 = some (.pointer v3) ∧ 
  CallR Tryd.prog fn_disk_Disk_Append #[(.pointer v3), (.string v6), (.slice none 0 0)] w_3 fun res2 w_4 =>
  mInt .i64 res2 fun v7 =>
  R (.int .i64 v7) w_4))

set_option maxRecDepth 100000 in
theorem wal_Log_Rotate_sound (l : Option Addr) (R : Value → World → Prop) (w : World) (h : wal_Log_Rotate_b0 l R w) :
    CallR Tryd.prog fn_wal_Log_Rotate #[(.pointer l)] w R := by
  refine CallR_intro (args := [(.pointer l)]) Tryd.func22 rfl (Nat.le_of_ble_eq_true (by kernel_rfl)) ?_
  refine Wp_leaf_end (Q0 := fun e _ r w => match e with | .normal => retQ Tryd.prog Tryd.f22.results R .normal [] r w | .exit _ => False | .ret => retQ Tryd.prog Tryd.f22.results R .ret [] r w | _ => False) h (by kernel_rfl) ?_
  intro e _ r w h
  cases e with
  | normal => exact h
  | exit i => exact h.elim
  | ret => exact h
  | goto i => exact h.elim
  | panic c => exact h.elim
  | outgrown => exact h.elim

/- (*glacier/wal.Log).Segment -/
def wal_Log_Segment_b0 (l : Option Addr) (R : Value → World → Prop) (w : World) : Prop :=
  NN l fun p =>
  LDI .i64 w (Addr.add p 2) fun v =>
  R (.int .i64 v) w

set_option maxRecDepth 100000 in
theorem wal_Log_Segment_sound (l : Option Addr) (R : Value → World → Prop) (w : World) (h : wal_Log_Segment_b0 l R w) :
    CallR Tryd.prog fn_wal_Log_Segment #[(.pointer l)] w R := by
  refine CallR_intro (args := [(.pointer l)]) Tryd.func23 rfl (Nat.le_of_ble_eq_true (by kernel_rfl)) ?_
  refine Wp_leaf_end (Q0 := fun e _ r w => match e with | .normal => retQ Tryd.prog Tryd.f23.results R .normal [] r w | .exit _ => False | .ret => retQ Tryd.prog Tryd.f23.results R .ret [] r w | _ => False) h (by kernel_rfl) ?_
  intro e _ r w h
  cases e with
  | normal => exact h
  | exit i => exact h.elim
  | ret => exact h
  | goto i => exact h.elim
  | panic c => exact h.elim
  | outgrown => exact h.elim

/- (*glacier/wal.Log).Truncate -/
def wal_Log_Truncate_b0 (R : Value → World → Prop) (w : World) : Prop :=
  R (.int .i64 0) w

def wal_Log_Truncate_b1 (l3 : Option Addr) (below3 : Int) (t141 : Option Addr) (t14_n1 : Nat) (t14_c1 : Nat) (t151 : Int) (t161 : Int) (K0 : ((Option Addr) × Int × (Option Addr) × Nat × Nat × Int × Int) → World → Prop) (R : Value → World → Prop) (w : World) : Prop :=
  Br (decide (t161 < t151)) (
  IX t141 t14_n1 t161 1 fun a =>
  LDI .i64 w a fun v2 =>
  Br (decide (v2 < below3)) (
  LetW (World.drew w) fun w_1 =>
  NN l3 fun p1 =>
  LDP w_1 p1 fun v3 =>
  NN l3 fun p2 =>
  LDS w_1 (Addr.add p2 1) fun v4 =>
  CallR Tryd.prog fn_wal_Segment #[(.string v4), (.int .i64 v2)] w_1 fun res1 w_2 =>
  mStr res1 fun v5 =>
  (World.cell? w_2 p1 = some (.pointer v3) ∧ 
  AL w_2 (.cells #[(.string v5)] 9) fun b w_3 =>
  (World.cell? w_3 p1 = some (.pointer v3) ∧ 
  CallR Tryd.prog fn_disk_Disk_Delete #[(.pointer v3), (.slice (some b) 1 1)] w_3 fun res2 w_4 =>
  mInt .i64 res2 fun _ =>
  K0 (l3, below3, t141, t14_n1, t14_c1, t151, IntKind.wrap .i64 (t161 + 1)) w_4))) (
  K0 (l3, below3, t141, t14_n1, t14_c1, t151, IntKind.wrap .i64 (t161 + 1)) w)) (
  wal_Log_Truncate_b0 R w)

def wal_Log_Truncate_b2 (l2 : Option Addr) (below2 : Int) (t14 : Option Addr) (t14_n : Nat) (t14_c : Nat) (t15 : Int) (t16 : Int) (R : Value → World → Prop) (w : World) : Prop :=
  LoopS (σ := (Option Addr) × Int × (Option Addr) × Nat × Nat × Int × Int) (fun s w K0 =>
  wal_Log_Truncate_b1 s.1 s.2.1 s.2.2.1 s.2.2.2.1 s.2.2.2.2.1 s.2.2.2.2.2.1 s.2.2.2.2.2.2 K0 R w) (l2, below2, t14, t14_n, t14_c, t15, t16) w

def wal_Log_Truncate_b3 (l1 : Option Addr) (below1 : Int) (R : Value → World → Prop) (w : World) : Prop :=
  CallR Tryd.prog fn_wal_Log_segments #[(.pointer l1)] w fun res w_ =>
  mSlice res fun v1 v_n v_c =>
  wal_Log_Truncate_b2 l1 below1 v1 v_n v_c (v_n : Int) 0 R w_

def wal_Log_Truncate_b4 (l : Option Addr) (below : Int) (R : Value → World → Prop) (w : World) : Prop :=
  NN l fun p =>
  LDI .i64 w (Addr.add p 2) fun v =>
  Br (decide (below > v)) (
  R (.int .i64 1) w) (
  wal_Log_Truncate_b3 l below R w)

def wal_Log_Truncate_p0 : Point ((Option Addr) × Int) := { slots := fun s => [(0, (.pointer s.1)), (1, (.int .i64 s.2))], dec := fun r K => mPtr (r 0) fun x => mInt .i64 (r 1) fun x1 => K (x, x1) }
theorem wal_Log_Truncate_p0_ok : wal_Log_Truncate_p0.ok := by
  intro r K h
  unfold wal_Log_Truncate_p0 at h
  obtain ⟨x, e0, h⟩ := mPtr_elim h
  obtain ⟨x1, e1, h⟩ := mInt_elim h
  exact ⟨(x, x1), regsOf_self (L := [(0, (.pointer x)), (1, (.int .i64 x1))]) (List.forall_mem_cons.2 ⟨e0, List.forall_mem_cons.2 ⟨e1, List.forall_mem_nil _⟩⟩), h⟩
theorem wal_Log_Truncate_p0_re (s : (Option Addr) × Int) (r : Regs) (K : ((Option Addr) × Int) → Prop) (h : K s) : wal_Log_Truncate_p0.dec (regsOf (wal_Log_Truncate_p0.slots s) r) K := by
  obtain ⟨x2, x3⟩ := s
  exact cast (show K (x2, x3) = wal_Log_Truncate_p0.dec (regsOf (wal_Log_Truncate_p0.slots (x2, x3)) r) K by kernel_rfl) h

def wal_Log_Truncate_p1 : Point (Unit) := { slots := fun _ => [], dec := fun _ K => K () }
theorem wal_Log_Truncate_p1_ok : wal_Log_Truncate_p1.ok := by
  intro r K h
  unfold wal_Log_Truncate_p1 at h
  exact ⟨(), regsOf_self (L := []) (List.forall_mem_nil _), h⟩
theorem wal_Log_Truncate_p1_re (s : Unit) (r : Regs) (K : Unit → Prop) (h : K s) : wal_Log_Truncate_p1.dec (regsOf (wal_Log_Truncate_p1.slots s) r) K := by
  exact cast (show K () = wal_Log_Truncate_p1.dec (regsOf (wal_Log_Truncate_p1.slots ()) r) K by kernel_rfl) h

def wal_Log_Truncate_p2 : Point ((Option Addr) × Int × (Option Addr) × Nat × Nat × Int × Int) := { slots := fun s => [(0, (.pointer s.1)), (1, (.int .i64 s.2.1)), (14, (.slice s.2.2.1 s.2.2.2.1 s.2.2.2.2.1)), (15, (.int .i64 s.2.2.2.2.2.1)), (16, (.int .i64 s.2.2.2.2.2.2))], dec := fun r K => mPtr (r 0) fun x => mInt .i64 (r 1) fun x1 => mSlice (r 14) fun x2 x3 x4 => mInt .i64 (r 15) fun x5 => mInt .i64 (r 16) fun x6 => K (x, x1, x2, x3, x4, x5, x6) }
theorem wal_Log_Truncate_p2_ok : wal_Log_Truncate_p2.ok := by
  intro r K h
  unfold wal_Log_Truncate_p2 at h
  obtain ⟨x, e0, h⟩ := mPtr_elim h
  obtain ⟨x1, e1, h⟩ := mInt_elim h
  obtain ⟨x2, x3, x4, e2, h⟩ := mSlice_elim h
  obtain ⟨x5, e3, h⟩ := mInt_elim h
  obtain ⟨x6, e4, h⟩ := mInt_elim h
  exact ⟨(x, x1, x2, x3, x4, x5, x6), regsOf_self (L := [(0, (.pointer x)), (1, (.int .i64 x1)), (14, (.slice x2 x3 x4)), (15, (.int .i64 x5)), (16, (.int .i64 x6))]) (List.forall_mem_cons.2 ⟨e0, List.forall_mem_cons.2 ⟨e1, List.forall_mem_cons.2 ⟨e2, List.forall_mem_cons.2 ⟨e3, List.forall_mem_cons.2 ⟨e4, List.forall_mem_nil _⟩⟩⟩⟩⟩), h⟩
theorem wal_Log_Truncate_p2_re (s : (Option Addr) × Int × (Option Addr) × Nat × Nat × Int × Int) (r : Regs) (K : ((Option Addr) × Int × (Option Addr) × Nat × Nat × Int × Int) → Prop) (h : K s) : wal_Log_Truncate_p2.dec (regsOf (wal_Log_Truncate_p2.slots s) r) K := by
  obtain ⟨x7, x8, x9, x10, x11, x12, x13⟩ := s
  exact cast (show K (x7, x8, x9, x10, x11, x12, x13) = wal_Log_Truncate_p2.dec (regsOf (wal_Log_Truncate_p2.slots (x7, x8, x9, x10, x11, x12, x13)) r) K by kernel_rfl) h

set_option maxRecDepth 100000 in
theorem wal_Log_Truncate_sound (l : Option Addr) (below : Int) (R : Value → World → Prop) (w : World) (h : wal_Log_Truncate_b4 l below R w) :
    CallR Tryd.prog fn_wal_Log_Truncate #[(.pointer l), (.int .i64 below)] w R := by
  refine CallR_intro (args := [(.pointer l), (.int .i64 below)]) Tryd.func24 rfl (Nat.le_of_ble_eq_true (by kernel_rfl)) ?_
  refine Wp_glue wal_Log_Truncate_p0 (fun s w => wal_Log_Truncate_b3 s.1 s.2 R w) [_, _] (Q0 := fun e _ r w => match e with | .normal => wal_Log_Truncate_p0.dec r (fun s => wal_Log_Truncate_b3 s.1 s.2 R w) | .exit _ => False | .ret => retQ Tryd.prog Tryd.f24.results R .ret [] r w | _ => False) h (by kernel_rfl) (fun s r w h => ?_) wal_Log_Truncate_p0_ok (fun _ _ _ h => h) ?_
  · obtain ⟨l1, below1⟩ := s
    have h : wal_Log_Truncate_b3 l1 below1 R w := h
    refine Wp_seq_via wal_Log_Truncate_p1 (fun _ w => wal_Log_Truncate_b0 R w) (fun s r w h => ?_) (fun hN1 => ?_)
    · cases s
      have h : wal_Log_Truncate_b0 R w := h
      refine Wp_leaf_end (Q0 := fun e _ r w => match e with | .normal => retQ Tryd.prog Tryd.f24.results R .normal [] r w | .exit _ => False | .ret => retQ Tryd.prog Tryd.f24.results R .ret [] r w | _ => False) h (by kernel_rfl) ?_
      intro e _ r w h
      cases e with
      | normal => exact h
      | exit i => exact h.elim
      | ret => exact h
      | goto i => exact h.elim
      | panic c => exact h.elim
      | outgrown => exact h.elim
    · refine Wp_glue wal_Log_Truncate_p2 (fun s w => wal_Log_Truncate_b2 s.1 s.2.1 s.2.2.1 s.2.2.2.1 s.2.2.2.2.1 s.2.2.2.2.2.1 s.2.2.2.2.2.2 R w) [_] (Q0 := fun e _ r w => match e with | .normal => wal_Log_Truncate_p2.dec r (fun s => wal_Log_Truncate_b2 s.1 s.2.1 s.2.2.1 s.2.2.2.1 s.2.2.2.2.1 s.2.2.2.2.2.1 s.2.2.2.2.2.2 R w) | .exit _ => False | .ret => retQ Tryd.prog Tryd.f24.results R .ret [] r w | _ => False) h (by kernel_rfl) (fun s r w h => ?_) wal_Log_Truncate_p2_ok (fun _ _ _ h => h) ?_
      · obtain ⟨l2, below2, t14, t14_n, t14_c, t15, t16⟩ := s
        have h : wal_Log_Truncate_b2 l2 below2 t14 t14_n t14_c t15 t16 R w := h
        refine Wp_block_via wal_Log_Truncate_p1 (fun _ w => wal_Log_Truncate_b0 R w) hN1 (fun hX2 => ?_)
        refine Wp_loop (p := wal_Log_Truncate_p2) wal_Log_Truncate_p2_ok (fun s r w K0 h => ?_) h
        obtain ⟨l3, below3, t141, t14_n1, t14_c1, t151, t161⟩ := s
        have h : wal_Log_Truncate_b1 l3 below3 t141 t14_n1 t14_c1 t151 t161 K0 R w := h
        have hK3 := fun (s : (Option Addr) × Int × (Option Addr) × Nat × Nat × Int × Int) (r : Regs) (w : World) (h : K0 s w) => wal_Log_Truncate_p2_re s r (fun s => K0 s w) h
        refine Wp_leaf_end (Q0 := fun e _ r w => match e with | .normal => wal_Log_Truncate_p2.dec r (fun s => K0 s w) | .exit i => exitQ i 0 (wal_Log_Truncate_p1.dec r (fun _ => wal_Log_Truncate_b0 R w)) (False) | .ret => retQ Tryd.prog Tryd.f24.results R .ret [] r w | _ => False) h (by kernel_rfl) ?_
        intro e _ r w h
        cases e with
        | normal =>
          obtain ⟨s, hs, h⟩ := wal_Log_Truncate_p2_ok _ _ h
          rw [← hs]
          exact hK3 s r w h
        | exit i =>
          rcases exitQ_elim h with ⟨rfl, h⟩ | ⟨_, h⟩
          · obtain ⟨s, hs, h⟩ := wal_Log_Truncate_p1_ok _ _ h
            rw [← hs]
            exact hX2 s r w h
          exact h.elim
        | ret => exact h
        | goto i => exact h.elim
        | panic c => exact h.elim
        | outgrown => exact h.elim
      · intro e _ r w hne h
        cases e with
        | normal => exact absurd rfl hne
        | exit i => exact h.elim
        | ret => exact h
        | goto i => exact h.elim
        | panic c => exact h.elim
        | outgrown => exact h.elim
  · intro e _ r w hne h
    cases e with
    | normal => exact absurd rfl hne
    | exit i => exact h.elim
    | ret => exact h
    | goto i => exact h.elim
    | panic c => exact h.elim
    | outgrown => exact h.elim

/- (*glacier/wal.Log).First -/
def wal_Log_First_b0 (l : Option Addr) (R : Value → World → Prop) (w : World) : Prop :=
  CallR Tryd.prog fn_wal_Log_segments #[(.pointer l)] w fun res w_ =>
  mSlice res fun v v_n _ =>
  IX v v_n 0 1 fun a =>
  LDI .i64 w_ a fun v1 =>
  R (.int .i64 v1) w_

set_option maxRecDepth 100000 in
theorem wal_Log_First_sound (l : Option Addr) (R : Value → World → Prop) (w : World) (h : wal_Log_First_b0 l R w) :
    CallR Tryd.prog fn_wal_Log_First #[(.pointer l)] w R := by
  refine CallR_intro (args := [(.pointer l)]) Tryd.func25 rfl (Nat.le_of_ble_eq_true (by kernel_rfl)) ?_
  refine Wp_leaf_end (Q0 := fun e _ r w => match e with | .normal => retQ Tryd.prog Tryd.f25.results R .normal [] r w | .exit _ => False | .ret => retQ Tryd.prog Tryd.f25.results R .ret [] r w | _ => False) h (by kernel_rfl) ?_
  intro e _ r w h
  cases e with
  | normal => exact h
  | exit i => exact h.elim
  | ret => exact h
  | goto i => exact h.elim
  | panic c => exact h.elim
  | outgrown => exact h.elim

end Go.Proofs.YtnhjcjnjpciifaaDoor
