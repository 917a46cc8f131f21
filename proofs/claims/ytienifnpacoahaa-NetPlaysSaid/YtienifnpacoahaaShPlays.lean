/- Printed by a program of this claim: the shallow readings of functions, and that they are sound. -/
import Derived.Test.YtienifnpacoahaaShNames
namespace Go.Proofs.Ytienifnpacoahaa
open Go.Sh

/- (*glacier/net.Net).Links -/
def net_Net_Links_b0 (out3 : Option Addr) (out_n3 : Nat) (out_c3 : Nat) (R : Value → World → Prop) (w : World) : Prop :=
  CallR Try.prog fn_slices_SortFunc_s_net_Link_net_Link #[(.slice out3 out_n3 out_c3), (.func (.func fn_net_Net_Links_1) #[] #[])] w fun res w_8 =>
  mTup res fun l5 =>
  mNil l5 (
  R (.slice out3 out_n3 out_c3) w_8)

def net_Net_Links_b1 (out2 : Option Addr) (out_n2 : Nat) (out_c2 : Nat) (t101 : Value) (K0 : ((Option Addr) × Nat × Nat × Value) → World → Prop) (R : Value → World → Prop) (w : World) : Prop :=
  rRun Try.prog (Instr.next t101 false 0) w fun vr w_1 =>
  mTup vr fun l =>
  mNth l 0 fun x =>
  mBool x fun v1 =>
  Br v1 (
  rRun Try.prog (Instr.entry t101) w_1 fun vr1 w_2 =>
  mTup vr1 fun l1 =>
  mNth l1 0 fun x1 =>
  mAgg x1 fun v_l =>
  mCons v_l fun v_from l2 =>
  mInt .i64 v_from fun v_from1 =>
  mCons l2 fun v_to l3 =>
  mInt .i64 v_to fun v_to1 =>
  mNil l3 (
  mTup vr1 fun l4 =>
  mNth l4 1 fun x2 =>
  mSlice x2 fun _ v_n _ =>
  AL w_2 (.cells #[(.int .i64 0), (.int .i64 0)] 52) fun p1 w_3 =>
  ST w_3 p1 (.int .i64 v_from1) fun w_4 =>
  ST w_4 (Addr.add p1 1) (.int .i64 v_to1) fun w_5 =>
  LDI .i64 w_5 p1 fun v3 =>
  LDI .i64 w_5 (Addr.add p1 1) fun v4 =>
  AL w_5 (.cells #[(.int .i64 v3), (.int .i64 v4), (.int .i64 (v_n : Int))] 69) fun b w_6 =>
  rRun Try.prog (Builtin.append_ #[65, 65] 65 #[(.slice out2 out_n2 out_c2), (.slice (some b) 1 1)]) w_6 fun sr w_7 =>
  mSlice sr fun v5 v_n1 v_c1 =>
  K0 (v5, v_n1, v_c1, t101) w_7)) (
  net_Net_Links_b0 out2 out_n2 out_c2 R w_1)

def net_Net_Links_b2 (out1 : Option Addr) (out_n1 : Nat) (out_c1 : Nat) (t10 : Value) (R : Value → World → Prop) (w : World) : Prop :=
  LoopS (σ := (Option Addr) × Nat × Nat × Value) (fun s w K0 =>
  net_Net_Links_b1 s.1 s.2.1 s.2.2.1 s.2.2.2 K0 R w) (out1, out_n1, out_c1, t10) w

def net_Net_Links_b3 (n1 : Option Addr) (out : Option Addr) (out_n : Nat) (out_c : Nat) (R : Value → World → Prop) (w : World) : Prop :=
  NN n1 fun p =>
  LDM w (Addr.add p 3) fun v =>
  rRun Try.prog (Instr.range 47 (.map v)) w fun itr w_ =>
  net_Net_Links_b2 out out_n out_c itr R w_

def net_Net_Links_b4 (n : Option Addr) (R : Value → World → Prop) (w : World) : Prop :=
  net_Net_Links_b3 n none 0 0 R w

def net_Net_Links_p0 : Point ((Option Addr) × (Option Addr) × Nat × Nat) := { slots := fun s => [(0, (.pointer s.1)), (3, (.slice s.2.1 s.2.2.1 s.2.2.2))], dec := fun r K => mPtr (r 0) fun x => mSlice (r 3) fun x1 x2 x3 => K (x, x1, x2, x3) }
theorem net_Net_Links_p0_ok : net_Net_Links_p0.ok := by
  intro r K h
  unfold net_Net_Links_p0 at h
  obtain ⟨x, e0, h⟩ := mPtr_elim h
  obtain ⟨x1, x2, x3, e1, h⟩ := mSlice_elim h
  exact ⟨(x, x1, x2, x3), regsOf_self (L := [(0, (.pointer x)), (3, (.slice x1 x2 x3))]) (List.forall_mem_cons.2 ⟨e0, List.forall_mem_cons.2 ⟨e1, List.forall_mem_nil _⟩⟩), h⟩
theorem net_Net_Links_p0_re (s : (Option Addr) × (Option Addr) × Nat × Nat) (r : Regs) (K : ((Option Addr) × (Option Addr) × Nat × Nat) → Prop) (h : K s) : net_Net_Links_p0.dec (regsOf (net_Net_Links_p0.slots s) r) K := by
  obtain ⟨x4, x5, x6, x7⟩ := s
  exact cast (show K (x4, x5, x6, x7) = net_Net_Links_p0.dec (regsOf (net_Net_Links_p0.slots (x4, x5, x6, x7)) r) K by kernel_rfl) h

def net_Net_Links_p1 : Point ((Option Addr) × Nat × Nat) := { slots := fun s => [(3, (.slice s.1 s.2.1 s.2.2))], dec := fun r K => mSlice (r 3) fun x x1 x2 => K (x, x1, x2) }
theorem net_Net_Links_p1_ok : net_Net_Links_p1.ok := by
  intro r K h
  unfold net_Net_Links_p1 at h
  obtain ⟨x, x1, x2, e0, h⟩ := mSlice_elim h
  exact ⟨(x, x1, x2), regsOf_self (L := [(3, (.slice x x1 x2))]) (List.forall_mem_cons.2 ⟨e0, List.forall_mem_nil _⟩), h⟩
theorem net_Net_Links_p1_re (s : (Option Addr) × Nat × Nat) (r : Regs) (K : ((Option Addr) × Nat × Nat) → Prop) (h : K s) : net_Net_Links_p1.dec (regsOf (net_Net_Links_p1.slots s) r) K := by
  obtain ⟨x3, x4, x5⟩ := s
  exact cast (show K (x3, x4, x5) = net_Net_Links_p1.dec (regsOf (net_Net_Links_p1.slots (x3, x4, x5)) r) K by kernel_rfl) h

def net_Net_Links_p2 : Point ((Option Addr) × Nat × Nat × Value) := { slots := fun s => [(3, (.slice s.1 s.2.1 s.2.2.1)), (10, s.2.2.2)], dec := fun r K => mSlice (r 3) fun x x1 x2 => K (x, x1, x2, (r 10)) }
theorem net_Net_Links_p2_ok : net_Net_Links_p2.ok := by
  intro r K h
  unfold net_Net_Links_p2 at h
  obtain ⟨x, x1, x2, e0, h⟩ := mSlice_elim h
  exact ⟨(x, x1, x2, (r 10)), regsOf_self (L := [(3, (.slice x x1 x2)), (10, (r 10))]) (List.forall_mem_cons.2 ⟨e0, List.forall_mem_cons.2 ⟨rfl, List.forall_mem_nil _⟩⟩), h⟩
theorem net_Net_Links_p2_re (s : (Option Addr) × Nat × Nat × Value) (r : Regs) (K : ((Option Addr) × Nat × Nat × Value) → Prop) (h : K s) : net_Net_Links_p2.dec (regsOf (net_Net_Links_p2.slots s) r) K := by
  obtain ⟨x3, x4, x5, x6⟩ := s
  exact cast (show K (x3, x4, x5, x6) = net_Net_Links_p2.dec (regsOf (net_Net_Links_p2.slots (x3, x4, x5, x6)) r) K by kernel_rfl) h

theorem net_Net_Links_sound (n : Option Addr) (R : Value → World → Prop) (w : World) (h : net_Net_Links_b4 n R w) :
    CallR Try.prog fn_net_Net_Links #[(.pointer n)] w R := by
  refine CallR_intro (args := [(.pointer n)]) Try.func28 rfl (Nat.le_of_ble_eq_true (by kernel_rfl)) ?_
  refine Wp_glue net_Net_Links_p0 (fun s w => net_Net_Links_b3 s.1 s.2.1 s.2.2.1 s.2.2.2 R w) [_, _] (Q0 := fun e _ r w => match e with | .normal => net_Net_Links_p0.dec r (fun s => net_Net_Links_b3 s.1 s.2.1 s.2.2.1 s.2.2.2 R w) | .exit _ => False | .ret => retQ Try.prog Try.f28.results R .ret [] r w | _ => False) h (by kernel_rfl) (fun s r w h => ?_) net_Net_Links_p0_ok (fun _ _ _ h => h) ?_
  · obtain ⟨n1, out, out_n, out_c⟩ := s
    have h : net_Net_Links_b3 n1 out out_n out_c R w := h
    refine Wp_seq_via net_Net_Links_p1 (fun s w => net_Net_Links_b0 s.1 s.2.1 s.2.2 R w) (fun s r w h => ?_) (fun hN1 => ?_)
    · obtain ⟨out3, out_n3, out_c3⟩ := s
      have h : net_Net_Links_b0 out3 out_n3 out_c3 R w := h
      refine Wp_leaf_end (Q0 := fun e _ r w => match e with | .normal => retQ Try.prog Try.f28.results R .normal [] r w | .exit _ => False | .ret => retQ Try.prog Try.f28.results R .ret [] r w | _ => False) h (by kernel_rfl) ?_
      intro e _ r w h
      cases e with
      | normal => exact h
      | exit i => exact h.elim
      | ret => exact h
      | goto i => exact h.elim
      | panic c => exact h.elim
      | outgrown => exact h.elim
    · refine Wp_glue net_Net_Links_p2 (fun s w => net_Net_Links_b2 s.1 s.2.1 s.2.2.1 s.2.2.2 R w) [_] (Q0 := fun e _ r w => match e with | .normal => net_Net_Links_p2.dec r (fun s => net_Net_Links_b2 s.1 s.2.1 s.2.2.1 s.2.2.2 R w) | .exit _ => False | .ret => retQ Try.prog Try.f28.results R .ret [] r w | _ => False) h (by kernel_rfl) (fun s r w h => ?_) net_Net_Links_p2_ok (fun _ _ _ h => h) ?_
      · obtain ⟨out1, out_n1, out_c1, t10⟩ := s
        have h : net_Net_Links_b2 out1 out_n1 out_c1 t10 R w := h
        refine Wp_block_via net_Net_Links_p1 (fun s w => net_Net_Links_b0 s.1 s.2.1 s.2.2 R w) hN1 (fun hX2 => ?_)
        refine Wp_loop (p := net_Net_Links_p2) net_Net_Links_p2_ok (fun s r w K0 h => ?_) h
        obtain ⟨out2, out_n2, out_c2, t101⟩ := s
        have h : net_Net_Links_b1 out2 out_n2 out_c2 t101 K0 R w := h
        have hK3 := fun (s : (Option Addr) × Nat × Nat × Value) (r : Regs) (w : World) (h : K0 s w) => net_Net_Links_p2_re s r (fun s => K0 s w) h
        refine Wp_leaf_end (Q0 := fun e _ r w => match e with | .normal => net_Net_Links_p2.dec r (fun s => K0 s w) | .exit i => exitQ i 0 (net_Net_Links_p1.dec r (fun s => net_Net_Links_b0 s.1 s.2.1 s.2.2 R w)) (False) | .ret => retQ Try.prog Try.f28.results R .ret [] r w | _ => False) h (by kernel_rfl) ?_
        intro e _ r w h
        cases e with
        | normal =>
          obtain ⟨s, hs, h⟩ := net_Net_Links_p2_ok _ _ h
          rw [← hs]
          exact hK3 s r w h
        | exit i =>
          rcases exitQ_elim h with ⟨rfl, h⟩ | ⟨_, h⟩
          · obtain ⟨s, hs, h⟩ := net_Net_Links_p1_ok _ _ h
            rw [← hs]
            exact hX2 s r w h
          exact h.elim
        | ret => exact h
        | goto i => exact h.elim
        | panic c => exact h.elim
        | outgrown => exact h.elim
      · intro e _ r w hne h
        cases e with
        | normal => exact absurd rfl hne
        | exit i => exact h.elim
        | ret => exact h
        | goto i => exact h.elim
        | panic c => exact h.elim
        | outgrown => exact h.elim
  · intro e _ r w hne h
    cases e with
    | normal => exact absurd rfl hne
    | exit i => exact h.elim
    | ret => exact h
    | goto i => exact h.elim
    | panic c => exact h.elim
    | outgrown => exact h.elim

/- (*glacier/net.Net).Links$1 -/
def net_Net_Links_1_b0 (a_From : Int) (a_To : Int) (a_Count : Int) (b_From : Int) (b_To : Int) (b_Count : Int) (R : Value → World → Prop) (w : World) : Prop :=
  AL w (.cells #[(.int .i64 a_From), (.int .i64 a_To), (.int .i64 a_Count)] 69) fun a w_ =>
  AL w_ (.cells #[(.int .i64 b_From), (.int .i64 b_To), (.int .i64 b_Count)] 69) fun b w_1 =>
  LetW (World.drew w_1) fun w_2 =>
  LDI .i64 w_2 a fun v =>
  LDI .i64 w_2 b fun v1 =>
  LDI .i64 w_2 (Addr.add a 1) fun v2 =>
  LDI .i64 w_2 (Addr.add b 1) fun v3 =>
  CallR Try.prog fn_cmp_Compare_int #[(.int .i64 v), (.int .i64 v1)] w_2 fun res w_3 =>
  mInt .i64 res fun v4 =>
  (World.cell? w_3 (Addr.add b 1) = some (.int .i64 v3) ∧ 
  (World.cell? w_3 (Addr.add a 1) = some (.int .i64 v2) ∧ 
  CallR Try.prog fn_cmp_Compare_int #[(.int .i64 v2), (.int .i64 v3)] w_3 fun res1 w_4 =>
  mInt .i64 res1 fun v5 =>
  AL w_4 (.cells #[(.int .i64 v4), (.int .i64 v5)] 3) fun b1 w_5 =>
  CallR Try.prog fn_cmp_Or_int #[(.slice (some b1) 2 2)] w_5 fun res2 w_6 =>
  mInt .i64 res2 fun v6 =>
  R (.int .i64 v6) w_6))

theorem net_Net_Links_1_sound (a_From : Int) (a_To : Int) (a_Count : Int) (b_From : Int) (b_To : Int) (b_Count : Int) (R : Value → World → Prop) (w : World) (h : net_Net_Links_1_b0 a_From a_To a_Count b_From b_To b_Count R w) :
    CallR Try.prog fn_net_Net_Links_1 #[(.agg #[(.int .i64 a_From), (.int .i64 a_To), (.int .i64 a_Count)]), (.agg #[(.int .i64 b_From), (.int .i64 b_To), (.int .i64 b_Count)])] w R := by
  refine CallR_intro (args := [(.agg #[(.int .i64 a_From), (.int .i64 a_To), (.int .i64 a_Count)]), (.agg #[(.int .i64 b_From), (.int .i64 b_To), (.int .i64 b_Count)])]) Try.func36 rfl (Nat.le_of_ble_eq_true (by kernel_rfl)) ?_
  refine Wp_leaf_end (Q0 := fun e _ r w => match e with | .normal => retQ Try.prog Try.f36.results R .normal [] r w | .exit _ => False | .ret => retQ Try.prog Try.f36.results R .ret [] r w | _ => False) h (by kernel_rfl) ?_
  intro e _ r w h
  cases e with
  | normal => exact h
  | exit i => exact h.elim
  | ret => exact h
  | goto i => exact h.elim
  | panic c => exact h.elim
  | outgrown => exact h.elim

/- cmp.Or[int] -/
def cmp_Or_int_b0 (zero3 : Int) (R : Value → World → Prop) (w : World) : Prop :=
  R (.int .i64 zero3) w

def cmp_Or_int_b1 (zero2 : Int) (t61 : Option Addr) (t6_n1 : Nat) (t6_c1 : Nat) (t71 : Int) (t81 : Int) (K0 : (Int × (Option Addr) × Nat × Nat × Int × Int) → World → Prop) (R : Value → World → Prop) (w : World) : Prop :=
  Br (decide (t81 < t71)) (
  IX t61 t6_n1 t81 1 fun a =>
  LDI .i64 w a fun v =>
  Br (v != zero2) (
  R (.int .i64 v) w) (
  K0 (zero2, t61, t6_n1, t6_c1, t71, IntKind.wrap .i64 (t81 + 1)) w)) (
  cmp_Or_int_b0 zero2 R w)

def cmp_Or_int_b2 (zero1 : Int) (t6 : Option Addr) (t6_n : Nat) (t6_c : Nat) (t7 : Int) (t8 : Int) (R : Value → World → Prop) (w : World) : Prop :=
  LoopS (σ := Int × (Option Addr) × Nat × Nat × Int × Int) (fun s w K0 =>
  cmp_Or_int_b1 s.1 s.2.1 s.2.2.1 s.2.2.2.1 s.2.2.2.2.1 s.2.2.2.2.2 K0 R w) (zero1, t6, t6_n, t6_c, t7, t8) w

def cmp_Or_int_b3 (vals1 : Option Addr) (vals_n1 : Nat) (vals_c1 : Nat) (zero : Int) (R : Value → World → Prop) (w : World) : Prop :=
  cmp_Or_int_b2 zero vals1 vals_n1 vals_c1 (vals_n1 : Int) 0 R w

def cmp_Or_int_b4 (vals : Option Addr) (vals_n : Nat) (vals_c : Nat) (R : Value → World → Prop) (w : World) : Prop :=
  cmp_Or_int_b3 vals vals_n vals_c 0 R w

def cmp_Or_int_p0 : Point ((Option Addr) × Nat × Nat × Int) := { slots := fun s => [(0, (.slice s.1 s.2.1 s.2.2.1)), (3, (.int .i64 s.2.2.2))], dec := fun r K => mSlice (r 0) fun x x1 x2 => mInt .i64 (r 3) fun x3 => K (x, x1, x2, x3) }
theorem cmp_Or_int_p0_ok : cmp_Or_int_p0.ok := by
  intro r K h
  unfold cmp_Or_int_p0 at h
  obtain ⟨x, x1, x2, e0, h⟩ := mSlice_elim h
  obtain ⟨x3, e1, h⟩ := mInt_elim h
  exact ⟨(x, x1, x2, x3), regsOf_self (L := [(0, (.slice x x1 x2)), (3, (.int .i64 x3))]) (List.forall_mem_cons.2 ⟨e0, List.forall_mem_cons.2 ⟨e1, List.forall_mem_nil _⟩⟩), h⟩
theorem cmp_Or_int_p0_re (s : (Option Addr) × Nat × Nat × Int) (r : Regs) (K : ((Option Addr) × Nat × Nat × Int) → Prop) (h : K s) : cmp_Or_int_p0.dec (regsOf (cmp_Or_int_p0.slots s) r) K := by
  obtain ⟨x4, x5, x6, x7⟩ := s
  exact cast (show K (x4, x5, x6, x7) = cmp_Or_int_p0.dec (regsOf (cmp_Or_int_p0.slots (x4, x5, x6, x7)) r) K by kernel_rfl) h

def cmp_Or_int_p1 : Point (Int) := { slots := fun s => [(3, (.int .i64 s))], dec := fun r K => mInt .i64 (r 3) fun x => K x }
theorem cmp_Or_int_p1_ok : cmp_Or_int_p1.ok := by
  intro r K h
  unfold cmp_Or_int_p1 at h
  obtain ⟨x, e0, h⟩ := mInt_elim h
  exact ⟨x, regsOf_self (L := [(3, (.int .i64 x))]) (List.forall_mem_cons.2 ⟨e0, List.forall_mem_nil _⟩), h⟩
theorem cmp_Or_int_p1_re (s : Int) (r : Regs) (K : Int → Prop) (h : K s) : cmp_Or_int_p1.dec (regsOf (cmp_Or_int_p1.slots s) r) K := by
  exact cast (show K s = cmp_Or_int_p1.dec (regsOf (cmp_Or_int_p1.slots s) r) K by kernel_rfl) h

def cmp_Or_int_p2 : Point (Int × (Option Addr) × Nat × Nat × Int × Int) := { slots := fun s => [(3, (.int .i64 s.1)), (6, (.slice s.2.1 s.2.2.1 s.2.2.2.1)), (7, (.int .i64 s.2.2.2.2.1)), (8, (.int .i64 s.2.2.2.2.2))], dec := fun r K => mInt .i64 (r 3) fun x => mSlice (r 6) fun x1 x2 x3 => mInt .i64 (r 7) fun x4 => mInt .i64 (r 8) fun x5 => K (x, x1, x2, x3, x4, x5) }
theorem cmp_Or_int_p2_ok : cmp_Or_int_p2.ok := by
  intro r K h
  unfold cmp_Or_int_p2 at h
  obtain ⟨x, e0, h⟩ := mInt_elim h
  obtain ⟨x1, x2, x3, e1, h⟩ := mSlice_elim h
  obtain ⟨x4, e2, h⟩ := mInt_elim h
  obtain ⟨x5, e3, h⟩ := mInt_elim h
  exact ⟨(x, x1, x2, x3, x4, x5), regsOf_self (L := [(3, (.int .i64 x)), (6, (.slice x1 x2 x3)), (7, (.int .i64 x4)), (8, (.int .i64 x5))]) (List.forall_mem_cons.2 ⟨e0, List.forall_mem_cons.2 ⟨e1, List.forall_mem_cons.2 ⟨e2, List.forall_mem_cons.2 ⟨e3, List.forall_mem_nil _⟩⟩⟩⟩), h⟩
theorem cmp_Or_int_p2_re (s : Int × (Option Addr) × Nat × Nat × Int × Int) (r : Regs) (K : (Int × (Option Addr) × Nat × Nat × Int × Int) → Prop) (h : K s) : cmp_Or_int_p2.dec (regsOf (cmp_Or_int_p2.slots s) r) K := by
  obtain ⟨x6, x7, x8, x9, x10, x11⟩ := s
  exact cast (show K (x6, x7, x8, x9, x10, x11) = cmp_Or_int_p2.dec (regsOf (cmp_Or_int_p2.slots (x6, x7, x8, x9, x10, x11)) r) K by kernel_rfl) h

theorem cmp_Or_int_sound (vals : Option Addr) (vals_n : Nat) (vals_c : Nat) (R : Value → World → Prop) (w : World) (h : cmp_Or_int_b4 vals vals_n vals_c R w) :
    CallR Try.prog fn_cmp_Or_int #[(.slice vals vals_n vals_c)] w R := by
  refine CallR_intro (args := [(.slice vals vals_n vals_c)]) Try.func37 rfl (Nat.le_of_ble_eq_true (by kernel_rfl)) ?_
  refine Wp_glue cmp_Or_int_p0 (fun s w => cmp_Or_int_b3 s.1 s.2.1 s.2.2.1 s.2.2.2 R w) [_, _] (Q0 := fun e _ r w => match e with | .normal => cmp_Or_int_p0.dec r (fun s => cmp_Or_int_b3 s.1 s.2.1 s.2.2.1 s.2.2.2 R w) | .exit _ => False | .ret => retQ Try.prog Try.f37.results R .ret [] r w | _ => False) h (by kernel_rfl) (fun s r w h => ?_) cmp_Or_int_p0_ok (fun _ _ _ h => h) ?_
  · obtain ⟨vals1, vals_n1, vals_c1, zero⟩ := s
    have h : cmp_Or_int_b3 vals1 vals_n1 vals_c1 zero R w := h
    refine Wp_seq_via cmp_Or_int_p1 (fun s w => cmp_Or_int_b0 s R w) (fun s r w h => ?_) (fun hN1 => ?_)
    · obtain ⟨zero3, rfl⟩ : ∃ y, y = s := ⟨s, rfl⟩
      have h : cmp_Or_int_b0 zero3 R w := h
      refine Wp_leaf_end (Q0 := fun e _ r w => match e with | .normal => retQ Try.prog Try.f37.results R .normal [] r w | .exit _ => False | .ret => retQ Try.prog Try.f37.results R .ret [] r w | _ => False) h (by kernel_rfl) ?_
      intro e _ r w h
      cases e with
      | normal => exact h
      | exit i => exact h.elim
      | ret => exact h
      | goto i => exact h.elim
      | panic c => exact h.elim
      | outgrown => exact h.elim
    · refine Wp_glue cmp_Or_int_p2 (fun s w => cmp_Or_int_b2 s.1 s.2.1 s.2.2.1 s.2.2.2.1 s.2.2.2.2.1 s.2.2.2.2.2 R w) [_] (Q0 := fun e _ r w => match e with | .normal => cmp_Or_int_p2.dec r (fun s => cmp_Or_int_b2 s.1 s.2.1 s.2.2.1 s.2.2.2.1 s.2.2.2.2.1 s.2.2.2.2.2 R w) | .exit _ => False | .ret => retQ Try.prog Try.f37.results R .ret [] r w | _ => False) h (by kernel_rfl) (fun s r w h => ?_) cmp_Or_int_p2_ok (fun _ _ _ h => h) ?_
      · obtain ⟨zero1, t6, t6_n, t6_c, t7, t8⟩ := s
        have h : cmp_Or_int_b2 zero1 t6 t6_n t6_c t7 t8 R w := h
        refine Wp_block_via cmp_Or_int_p1 (fun s w => cmp_Or_int_b0 s R w) hN1 (fun hX2 => ?_)
        refine Wp_loop (p := cmp_Or_int_p2) cmp_Or_int_p2_ok (fun s r w K0 h => ?_) h
        obtain ⟨zero2, t61, t6_n1, t6_c1, t71, t81⟩ := s
        have h : cmp_Or_int_b1 zero2 t61 t6_n1 t6_c1 t71 t81 K0 R w := h
        have hK3 := fun (s : Int × (Option Addr) × Nat × Nat × Int × Int) (r : Regs) (w : World) (h : K0 s w) => cmp_Or_int_p2_re s r (fun s => K0 s w) h
        refine Wp_leaf_end (Q0 := fun e _ r w => match e with | .normal => cmp_Or_int_p2.dec r (fun s => K0 s w) | .exit i => exitQ i 0 (cmp_Or_int_p1.dec r (fun s => cmp_Or_int_b0 s R w)) (False) | .ret => retQ Try.prog Try.f37.results R .ret [] r w | _ => False) h (by kernel_rfl) ?_
        intro e _ r w h
        cases e with
        | normal =>
          obtain ⟨s, hs, h⟩ := cmp_Or_int_p2_ok _ _ h
          rw [← hs]
          exact hK3 s r w h
        | exit i =>
          rcases exitQ_elim h with ⟨rfl, h⟩ | ⟨_, h⟩
          · obtain ⟨s, hs, h⟩ := cmp_Or_int_p1_ok _ _ h
            rw [← hs]
            exact hX2 s r w h
          exact h.elim
        | ret => exact h
        | goto i => exact h.elim
        | panic c => exact h.elim
        | outgrown => exact h.elim
      · intro e _ r w hne h
        cases e with
        | normal => exact absurd rfl hne
        | exit i => exact h.elim
        | ret => exact h
        | goto i => exact h.elim
        | panic c => exact h.elim
        | outgrown => exact h.elim
  · intro e _ r w hne h
    cases e with
    | normal => exact absurd rfl hne
    | exit i => exact h.elim
    | ret => exact h
    | goto i => exact h.elim
    | panic c => exact h.elim
    | outgrown => exact h.elim

/- cmp.Compare[int] -/
def cmp_Compare_int_b0 (x : Int) (y : Int) (R : Value → World → Prop) (w : World) : Prop :=
  CallR Try.prog fn_cmp_isNaN_int #[(.int .i64 x)] w fun res w_ =>
  mBool res fun v =>
  CallR Try.prog fn_cmp_isNaN_int #[(.int .i64 y)] w_ fun res1 w_1 =>
  mBool res1 fun v1 =>
  Br v (
  Br v1 (
  R (.int .i64 0) w_1) (
  R (.int .i64 (-1)) w_1)) (
  Br v1 (
  R (.int .i64 1) w_1) (
  Br (decide (x < y)) (
  R (.int .i64 (-1)) w_1) (
  Br (decide (x > y)) (
  R (.int .i64 1) w_1) (
  R (.int .i64 0) w_1))))

theorem cmp_Compare_int_sound (x : Int) (y : Int) (R : Value → World → Prop) (w : World) (h : cmp_Compare_int_b0 x y R w) :
    CallR Try.prog fn_cmp_Compare_int #[(.int .i64 x), (.int .i64 y)] w R := by
  refine CallR_intro (args := [(.int .i64 x), (.int .i64 y)]) Try.func38 rfl (Nat.le_of_ble_eq_true (by kernel_rfl)) ?_
  refine Wp_leaf_end (Q0 := fun e _ r w => match e with | .normal => retQ Try.prog Try.f38.results R .normal [] r w | .exit _ => False | .ret => retQ Try.prog Try.f38.results R .ret [] r w | _ => False) h (by kernel_rfl) ?_
  intro e _ r w h
  cases e with
  | normal => exact h
  | exit i => exact h.elim
  | ret => exact h
  | goto i => exact h.elim
  | panic c => exact h.elim
  | outgrown => exact h.elim

/- cmp.isNaN[int] -/
def cmp_isNaN_int_b0 (x : Int) (R : Value → World → Prop) (w : World) : Prop :=
  R (.bool (x != x)) w

theorem cmp_isNaN_int_sound (x : Int) (R : Value → World → Prop) (w : World) (h : cmp_isNaN_int_b0 x R w) :
    CallR Try.prog fn_cmp_isNaN_int #[(.int .i64 x)] w R := by
  refine CallR_intro (args := [(.int .i64 x)]) Try.func41 rfl (Nat.le_of_ble_eq_true (by kernel_rfl)) ?_
  refine Wp_leaf_end (Q0 := fun e _ r w => match e with | .normal => retQ Try.prog Try.f41.results R .normal [] r w | .exit _ => False | .ret => retQ Try.prog Try.f41.results R .ret [] r w | _ => False) h (by kernel_rfl) ?_
  intro e _ r w h
  cases e with
  | normal => exact h
  | exit i => exact h.elim
  | ret => exact h
  | goto i => exact h.elim
  | panic c => exact h.elim
  | outgrown => exact h.elim

/- glacier/glacierlaw3.same -/
def glacierlaw3_same_b0 (a_From : Int) (a_To : Int) (a_Bytes : Option Addr) (a_Bytes_n : Nat) (a_Bytes_c : Nat) (b_From : Int) (b_To : Int) (b_Bytes : Option Addr) (b_Bytes_n : Nat) (b_Bytes_c : Nat) (R : Value → World → Prop) (w : World) : Prop :=
  AL w (.cells #[(.int .i64 a_From), (.int .i64 a_To), (.slice a_Bytes a_Bytes_n a_Bytes_c)] 31) fun a w_ =>
  AL w_ (.cells #[(.int .i64 b_From), (.int .i64 b_To), (.slice b_Bytes b_Bytes_n b_Bytes_c)] 31) fun b w_1 =>
  LDI .i64 w_1 a fun v =>
  LDI .i64 w_1 b fun v1 =>
  Br (v == v1) (
  LDI .i64 w_1 (Addr.add a 1) fun v2 =>
  LDI .i64 w_1 (Addr.add b 1) fun v3 =>
  Br (v2 == v3) (
  LDSl w_1 (Addr.add a 2) fun v4 v_n v_c =>
  rRun Try.prog (convert 22 9 (.slice v4 v_n v_c)) w_1 fun sr w_2 =>
  mStr sr fun v5 =>
  LDSl w_2 (Addr.add b 2) fun v6 v_n1 v_c1 =>
  rRun Try.prog (convert 22 9 (.slice v6 v_n1 v_c1)) w_2 fun sr1 w_3 =>
  mStr sr1 fun v7 =>
  R (.bool (ByteArray.toList v5 == ByteArray.toList v7)) w_3) (
  R (.bool false) w_1)) (
  R (.bool false) w_1)

theorem glacierlaw3_same_sound (a_From : Int) (a_To : Int) (a_Bytes : Option Addr) (a_Bytes_n : Nat) (a_Bytes_c : Nat) (b_From : Int) (b_To : Int) (b_Bytes : Option Addr) (b_Bytes_n : Nat) (b_Bytes_c : Nat) (R : Value → World → Prop) (w : World) (h : glacierlaw3_same_b0 a_From a_To a_Bytes a_Bytes_n a_Bytes_c b_From b_To b_Bytes b_Bytes_n b_Bytes_c R w) :
    CallR Try.prog fn_glacierlaw3_same #[(.agg #[(.int .i64 a_From), (.int .i64 a_To), (.slice a_Bytes a_Bytes_n a_Bytes_c)]), (.agg #[(.int .i64 b_From), (.int .i64 b_To), (.slice b_Bytes b_Bytes_n b_Bytes_c)])] w R := by
  refine CallR_intro (args := [(.agg #[(.int .i64 a_From), (.int .i64 a_To), (.slice a_Bytes a_Bytes_n a_Bytes_c)]), (.agg #[(.int .i64 b_From), (.int .i64 b_To), (.slice b_Bytes b_Bytes_n b_Bytes_c)])]) Try.func23 rfl (Nat.le_of_ble_eq_true (by kernel_rfl)) ?_
  refine Wp_leaf_end (Q0 := fun e _ r w => match e with | .normal => retQ Try.prog Try.f23.results R .normal [] r w | .exit _ => False | .ret => retQ Try.prog Try.f23.results R .ret [] r w | _ => False) h (by kernel_rfl) ?_
  intro e _ r w h
  cases e with
  | normal => exact h
  | exit i => exact h.elim
  | ret => exact h
  | goto i => exact h.elim
  | panic c => exact h.elim
  | outgrown => exact h.elim

/- glacier/glacierlaw3.links -/
def glacierlaw3_links_b0 (n7 : Option Addr) (r_7 : Option Addr) (l6 : Option Addr) (l_n6 : Nat) (l_c6 : Nat) (k6 : Int) (from_5 : Int) (K0 : ((Option Addr) × (Option Addr) × (Option Addr) × Nat × Nat × Int × Int) → World → Prop) (w : World) : Prop :=
  K0 (n7, r_7, l6, l_n6, l_c6, k6, IntKind.wrap .i64 (from_5 + 1)) w

def glacierlaw3_links_b1 (n6 : Option Addr) (r_6 : Option Addr) (l5 : Option Addr) (l_n5 : Nat) (l_c5 : Nat) (k5 : Int) (from_4 : Int) (to1 : Int) (K0 : ((Option Addr) × (Option Addr) × (Option Addr) × Nat × Nat × Int × Int) → World → Prop) (K1 : ((Option Addr) × (Option Addr) × (Option Addr) × Nat × Nat × Int × Int × Int) → World → Prop) (R : Value → World → Prop) (w : World) : Prop :=
  NN r_6 fun p1 =>
  LDI .i64 w p1 fun v2 =>
  Br (decide (to1 < v2)) (
  CallR Try.prog fn_glacierref3_Net_Count #[(.pointer r_6), (.int .i64 from_4), (.int .i64 to1)] w fun res1 w_1 =>
  mInt .i64 res1 fun v3 =>
  Br (v3 == 0) (
  K1 (n6, r_6, l5, l_n5, l_c5, k5, from_4, IntKind.wrap .i64 (to1 + 1)) w_1) (
  Br (decide (k5 ≥ (l_n5 : Int))) (
  R (.bool false) w_1) (
  IX l5 l_n5 k5 3 fun a =>
  LDI .i64 w_1 a fun From =>
  LDI .i64 w_1 (Addr.add a 1) fun To =>
  LDI .i64 w_1 (Addr.add a 2) fun Count =>
  rRun Try.prog (do eqGuard .neq 69 (.tmp 42) (.tmp 46) (.agg #[(.int .i64 From), (.int .i64 To), (.int .i64 Count)]) (.agg #[(.int .i64 from_4), (.int .i64 to1), (.int .i64 v3)]); binOp .neq 69 (.agg #[(.int .i64 From), (.int .i64 To), (.int .i64 Count)]) (.agg #[(.int .i64 from_4), (.int .i64 to1), (.int .i64 v3)]) : Sem Value) w_1 fun v4 w_2 =>
  mBool v4 fun b =>
  Br b (
  R (.bool false) w_2) (
  K1 (n6, r_6, l5, l_n5, l_c5, IntKind.wrap .i64 (k5 + 1), from_4, IntKind.wrap .i64 (to1 + 1)) w_2)))) (
  glacierlaw3_links_b0 n6 r_6 l5 l_n5 l_c5 k5 from_4 K0 w)

def glacierlaw3_links_b2 (n5 : Option Addr) (r_5 : Option Addr) (l4 : Option Addr) (l_n4 : Nat) (l_c4 : Nat) (k4 : Int) (from_3 : Int) (to : Int) (K0 : ((Option Addr) × (Option Addr) × (Option Addr) × Nat × Nat × Int × Int) → World → Prop) (R : Value → World → Prop) (w : World) : Prop :=
  LoopS (σ := (Option Addr) × (Option Addr) × (Option Addr) × Nat × Nat × Int × Int × Int) (fun s w K1 =>
  glacierlaw3_links_b1 s.1 s.2.1 s.2.2.1 s.2.2.2.1 s.2.2.2.2.1 s.2.2.2.2.2.1 s.2.2.2.2.2.2.1 s.2.2.2.2.2.2.2 K0 K1 R w) (n5, r_5, l4, l_n4, l_c4, k4, from_3, to) w

def glacierlaw3_links_b3 (n4 : Option Addr) (r_4 : Option Addr) (l3 : Option Addr) (l_n3 : Nat) (l_c3 : Nat) (k3 : Int) (from_2 : Int) (K0 : ((Option Addr) × (Option Addr) × (Option Addr) × Nat × Nat × Int × Int) → World → Prop) (R : Value → World → Prop) (w : World) : Prop :=
  glacierlaw3_links_b2 n4 r_4 l3 l_n3 l_c3 k3 from_2 0 K0 R w

def glacierlaw3_links_b4 (n8 : Option Addr) (r_8 : Option Addr) (l_n7 : Nat) (k7 : Int) (R : Value → World → Prop) (w : World) : Prop :=
  LetW (World.drew w) fun w_3 =>
  (w_3 = w_3 ∧ 
  Br (k7 == (l_n7 : Int)) (
  NN r_8 fun p2 =>
  LDSl w_3 (Addr.add p2 3) fun v5 v_n1 v_c1 =>
  (w_3 = w_3 ∧ 
  CallR Try.prog fn_net_Net_All #[(.pointer n8)] w_3 fun res2 w_4 =>
  mInt .i64 res2 fun v6 =>
  (((w_4 = w_4 ∧ ((.int .i64 (v_n1 : Int)) : Value) = (.int .i64 (v_n1 : Int)))) ∧ 
  (World.cell? w_4 (Addr.add p2 3) = some (.slice v5 v_n1 v_c1) ∧ 
  Br (v6 == (v_n1 : Int)) (
  NN r_8 fun p3 =>
  LDI .i64 w_4 (Addr.add p3 2) fun v7 =>
  CallR Try.prog fn_net_Net_Now #[(.pointer n8)] w_4 fun res3 w_5 =>
  mInt .i64 res3 fun v8 =>
  (World.cell? w_5 (Addr.add p3 2) = some (.int .i64 v7) ∧ 
  R (.bool (v8 == v7)) w_5)) (
  R (.bool false) w_4))))) (
  R (.bool false) w_3))

def glacierlaw3_links_b5 (n3 : Option Addr) (r_3 : Option Addr) (l2 : Option Addr) (l_n2 : Nat) (l_c2 : Nat) (k2 : Int) (from_1 : Int) (K0 : ((Option Addr) × (Option Addr) × (Option Addr) × Nat × Nat × Int × Int) → World → Prop) (R : Value → World → Prop) (w : World) : Prop :=
  NN r_3 fun p =>
  LDI .i64 w p fun v1 =>
  Br (decide (from_1 < v1)) (
  glacierlaw3_links_b3 n3 r_3 l2 l_n2 l_c2 k2 from_1 K0 R w) (
  glacierlaw3_links_b4 n3 r_3 l_n2 k2 R w)

def glacierlaw3_links_b6 (n2 : Option Addr) (r_2 : Option Addr) (l1 : Option Addr) (l_n1 : Nat) (l_c1 : Nat) (k1 : Int) (from_ : Int) (R : Value → World → Prop) (w : World) : Prop :=
  LoopS (σ := (Option Addr) × (Option Addr) × (Option Addr) × Nat × Nat × Int × Int) (fun s w K0 =>
  glacierlaw3_links_b5 s.1 s.2.1 s.2.2.1 s.2.2.2.1 s.2.2.2.2.1 s.2.2.2.2.2.1 s.2.2.2.2.2.2 K0 R w) (n2, r_2, l1, l_n1, l_c1, k1, from_) w

def glacierlaw3_links_b7 (n1 : Option Addr) (r_1 : Option Addr) (l : Option Addr) (l_n : Nat) (l_c : Nat) (k : Int) (R : Value → World → Prop) (w : World) : Prop :=
  glacierlaw3_links_b6 n1 r_1 l l_n l_c k 0 R w

def glacierlaw3_links_b8 (n : Option Addr) (r_ : Option Addr) (R : Value → World → Prop) (w : World) : Prop :=
  CallR Try.prog fn_net_Net_Links #[(.pointer n)] w fun res w_ =>
  mSlice res fun v v_n v_c =>
  glacierlaw3_links_b7 n r_ v v_n v_c 0 R w_

def glacierlaw3_links_p0 : Point ((Option Addr) × (Option Addr) × (Option Addr) × Nat × Nat × Int) := { slots := fun s => [(0, (.pointer s.1)), (1, (.pointer s.2.1)), (5, (.slice s.2.2.1 s.2.2.2.1 s.2.2.2.2.1)), (6, (.int .i64 s.2.2.2.2.2))], dec := fun r K => mPtr (r 0) fun x => mPtr (r 1) fun x1 => mSlice (r 5) fun x2 x3 x4 => mInt .i64 (r 6) fun x5 => K (x, x1, x2, x3, x4, x5) }
theorem glacierlaw3_links_p0_ok : glacierlaw3_links_p0.ok := by
  intro r K h
  unfold glacierlaw3_links_p0 at h
  obtain ⟨x, e0, h⟩ := mPtr_elim h
  obtain ⟨x1, e1, h⟩ := mPtr_elim h
  obtain ⟨x2, x3, x4, e2, h⟩ := mSlice_elim h
  obtain ⟨x5, e3, h⟩ := mInt_elim h
  exact ⟨(x, x1, x2, x3, x4, x5), regsOf_self (L := [(0, (.pointer x)), (1, (.pointer x1)), (5, (.slice x2 x3 x4)), (6, (.int .i64 x5))]) (List.forall_mem_cons.2 ⟨e0, List.forall_mem_cons.2 ⟨e1, List.forall_mem_cons.2 ⟨e2, List.forall_mem_cons.2 ⟨e3, List.forall_mem_nil _⟩⟩⟩⟩), h⟩
theorem glacierlaw3_links_p0_re (s : (Option Addr) × (Option Addr) × (Option Addr) × Nat × Nat × Int) (r : Regs) (K : ((Option Addr) × (Option Addr) × (Option Addr) × Nat × Nat × Int) → Prop) (h : K s) : glacierlaw3_links_p0.dec (regsOf (glacierlaw3_links_p0.slots s) r) K := by
  obtain ⟨x6, x7, x8, x9, x10, x11⟩ := s
  exact cast (show K (x6, x7, x8, x9, x10, x11) = glacierlaw3_links_p0.dec (regsOf (glacierlaw3_links_p0.slots (x6, x7, x8, x9, x10, x11)) r) K by kernel_rfl) h

def glacierlaw3_links_p1 : Point ((Option Addr) × (Option Addr) × (Option Addr) × Nat × Nat × Int) := { slots := fun s => [(0, (.pointer s.1)), (1, (.pointer s.2.1)), (5, (.slice s.2.2.1 s.2.2.2.1 s.2.2.2.2.1)), (6, (.int .i64 s.2.2.2.2.2))], dec := fun r K => mPtr (r 0) fun x => mPtr (r 1) fun x1 => mSlice (r 5) fun x2 x3 x4 => mInt .i64 (r 6) fun x5 => K (x, x1, x2, x3, x4, x5) }
theorem glacierlaw3_links_p1_ok : glacierlaw3_links_p1.ok := by
  intro r K h
  unfold glacierlaw3_links_p1 at h
  obtain ⟨x, e0, h⟩ := mPtr_elim h
  obtain ⟨x1, e1, h⟩ := mPtr_elim h
  obtain ⟨x2, x3, x4, e2, h⟩ := mSlice_elim h
  obtain ⟨x5, e3, h⟩ := mInt_elim h
  exact ⟨(x, x1, x2, x3, x4, x5), regsOf_self (L := [(0, (.pointer x)), (1, (.pointer x1)), (5, (.slice x2 x3 x4)), (6, (.int .i64 x5))]) (List.forall_mem_cons.2 ⟨e0, List.forall_mem_cons.2 ⟨e1, List.forall_mem_cons.2 ⟨e2, List.forall_mem_cons.2 ⟨e3, List.forall_mem_nil _⟩⟩⟩⟩), h⟩
theorem glacierlaw3_links_p1_re (s : (Option Addr) × (Option Addr) × (Option Addr) × Nat × Nat × Int) (r : Regs) (K : ((Option Addr) × (Option Addr) × (Option Addr) × Nat × Nat × Int) → Prop) (h : K s) : glacierlaw3_links_p1.dec (regsOf (glacierlaw3_links_p1.slots s) r) K := by
  obtain ⟨x6, x7, x8, x9, x10, x11⟩ := s
  exact cast (show K (x6, x7, x8, x9, x10, x11) = glacierlaw3_links_p1.dec (regsOf (glacierlaw3_links_p1.slots (x6, x7, x8, x9, x10, x11)) r) K by kernel_rfl) h

def glacierlaw3_links_p2 : Point ((Option Addr) × (Option Addr) × (Option Addr) × Nat × Nat × Int × Int) := { slots := fun s => [(0, (.pointer s.1)), (1, (.pointer s.2.1)), (5, (.slice s.2.2.1 s.2.2.2.1 s.2.2.2.2.1)), (6, (.int .i64 s.2.2.2.2.2.1)), (7, (.int .i64 s.2.2.2.2.2.2))], dec := fun r K => mPtr (r 0) fun x => mPtr (r 1) fun x1 => mSlice (r 5) fun x2 x3 x4 => mInt .i64 (r 6) fun x5 => mInt .i64 (r 7) fun x6 => K (x, x1, x2, x3, x4, x5, x6) }
theorem glacierlaw3_links_p2_ok : glacierlaw3_links_p2.ok := by
  intro r K h
  unfold glacierlaw3_links_p2 at h
  obtain ⟨x, e0, h⟩ := mPtr_elim h
  obtain ⟨x1, e1, h⟩ := mPtr_elim h
  obtain ⟨x2, x3, x4, e2, h⟩ := mSlice_elim h
  obtain ⟨x5, e3, h⟩ := mInt_elim h
  obtain ⟨x6, e4, h⟩ := mInt_elim h
  exact ⟨(x, x1, x2, x3, x4, x5, x6), regsOf_self (L := [(0, (.pointer x)), (1, (.pointer x1)), (5, (.slice x2 x3 x4)), (6, (.int .i64 x5)), (7, (.int .i64 x6))]) (List.forall_mem_cons.2 ⟨e0, List.forall_mem_cons.2 ⟨e1, List.forall_mem_cons.2 ⟨e2, List.forall_mem_cons.2 ⟨e3, List.forall_mem_cons.2 ⟨e4, List.forall_mem_nil _⟩⟩⟩⟩⟩), h⟩
theorem glacierlaw3_links_p2_re (s : (Option Addr) × (Option Addr) × (Option Addr) × Nat × Nat × Int × Int) (r : Regs) (K : ((Option Addr) × (Option Addr) × (Option Addr) × Nat × Nat × Int × Int) → Prop) (h : K s) : glacierlaw3_links_p2.dec (regsOf (glacierlaw3_links_p2.slots s) r) K := by
  obtain ⟨x7, x8, x9, x10, x11, x12, x13⟩ := s
  exact cast (show K (x7, x8, x9, x10, x11, x12, x13) = glacierlaw3_links_p2.dec (regsOf (glacierlaw3_links_p2.slots (x7, x8, x9, x10, x11, x12, x13)) r) K by kernel_rfl) h

def glacierlaw3_links_p3 : Point ((Option Addr) × (Option Addr) × (Option Addr) × Nat × Nat × Int × Int) := { slots := fun s => [(0, (.pointer s.1)), (1, (.pointer s.2.1)), (5, (.slice s.2.2.1 s.2.2.2.1 s.2.2.2.2.1)), (6, (.int .i64 s.2.2.2.2.2.1)), (7, (.int .i64 s.2.2.2.2.2.2))], dec := fun r K => mPtr (r 0) fun x => mPtr (r 1) fun x1 => mSlice (r 5) fun x2 x3 x4 => mInt .i64 (r 6) fun x5 => mInt .i64 (r 7) fun x6 => K (x, x1, x2, x3, x4, x5, x6) }
theorem glacierlaw3_links_p3_ok : glacierlaw3_links_p3.ok := by
  intro r K h
  unfold glacierlaw3_links_p3 at h
  obtain ⟨x, e0, h⟩ := mPtr_elim h
  obtain ⟨x1, e1, h⟩ := mPtr_elim h
  obtain ⟨x2, x3, x4, e2, h⟩ := mSlice_elim h
  obtain ⟨x5, e3, h⟩ := mInt_elim h
  obtain ⟨x6, e4, h⟩ := mInt_elim h
  exact ⟨(x, x1, x2, x3, x4, x5, x6), regsOf_self (L := [(0, (.pointer x)), (1, (.pointer x1)), (5, (.slice x2 x3 x4)), (6, (.int .i64 x5)), (7, (.int .i64 x6))]) (List.forall_mem_cons.2 ⟨e0, List.forall_mem_cons.2 ⟨e1, List.forall_mem_cons.2 ⟨e2, List.forall_mem_cons.2 ⟨e3, List.forall_mem_cons.2 ⟨e4, List.forall_mem_nil _⟩⟩⟩⟩⟩), h⟩
theorem glacierlaw3_links_p3_re (s : (Option Addr) × (Option Addr) × (Option Addr) × Nat × Nat × Int × Int) (r : Regs) (K : ((Option Addr) × (Option Addr) × (Option Addr) × Nat × Nat × Int × Int) → Prop) (h : K s) : glacierlaw3_links_p3.dec (regsOf (glacierlaw3_links_p3.slots s) r) K := by
  obtain ⟨x7, x8, x9, x10, x11, x12, x13⟩ := s
  exact cast (show K (x7, x8, x9, x10, x11, x12, x13) = glacierlaw3_links_p3.dec (regsOf (glacierlaw3_links_p3.slots (x7, x8, x9, x10, x11, x12, x13)) r) K by kernel_rfl) h

def glacierlaw3_links_p4 : Point ((Option Addr) × (Option Addr) × (Option Addr) × Nat × Nat × Int × Int) := { slots := fun s => [(0, (.pointer s.1)), (1, (.pointer s.2.1)), (5, (.slice s.2.2.1 s.2.2.2.1 s.2.2.2.2.1)), (6, (.int .i64 s.2.2.2.2.2.1)), (7, (.int .i64 s.2.2.2.2.2.2))], dec := fun r K => mPtr (r 0) fun x => mPtr (r 1) fun x1 => mSlice (r 5) fun x2 x3 x4 => mInt .i64 (r 6) fun x5 => mInt .i64 (r 7) fun x6 => K (x, x1, x2, x3, x4, x5, x6) }
theorem glacierlaw3_links_p4_ok : glacierlaw3_links_p4.ok := by
  intro r K h
  unfold glacierlaw3_links_p4 at h
  obtain ⟨x, e0, h⟩ := mPtr_elim h
  obtain ⟨x1, e1, h⟩ := mPtr_elim h
  obtain ⟨x2, x3, x4, e2, h⟩ := mSlice_elim h
  obtain ⟨x5, e3, h⟩ := mInt_elim h
  obtain ⟨x6, e4, h⟩ := mInt_elim h
  exact ⟨(x, x1, x2, x3, x4, x5, x6), regsOf_self (L := [(0, (.pointer x)), (1, (.pointer x1)), (5, (.slice x2 x3 x4)), (6, (.int .i64 x5)), (7, (.int .i64 x6))]) (List.forall_mem_cons.2 ⟨e0, List.forall_mem_cons.2 ⟨e1, List.forall_mem_cons.2 ⟨e2, List.forall_mem_cons.2 ⟨e3, List.forall_mem_cons.2 ⟨e4, List.forall_mem_nil _⟩⟩⟩⟩⟩), h⟩
theorem glacierlaw3_links_p4_re (s : (Option Addr) × (Option Addr) × (Option Addr) × Nat × Nat × Int × Int) (r : Regs) (K : ((Option Addr) × (Option Addr) × (Option Addr) × Nat × Nat × Int × Int) → Prop) (h : K s) : glacierlaw3_links_p4.dec (regsOf (glacierlaw3_links_p4.slots s) r) K := by
  obtain ⟨x7, x8, x9, x10, x11, x12, x13⟩ := s
  exact cast (show K (x7, x8, x9, x10, x11, x12, x13) = glacierlaw3_links_p4.dec (regsOf (glacierlaw3_links_p4.slots (x7, x8, x9, x10, x11, x12, x13)) r) K by kernel_rfl) h

def glacierlaw3_links_p5 : Point ((Option Addr) × (Option Addr) × (Option Addr) × Nat × Nat × Int × Int × Int) := { slots := fun s => [(0, (.pointer s.1)), (1, (.pointer s.2.1)), (5, (.slice s.2.2.1 s.2.2.2.1 s.2.2.2.2.1)), (6, (.int .i64 s.2.2.2.2.2.1)), (7, (.int .i64 s.2.2.2.2.2.2.1)), (8, (.int .i64 s.2.2.2.2.2.2.2))], dec := fun r K => mPtr (r 0) fun x => mPtr (r 1) fun x1 => mSlice (r 5) fun x2 x3 x4 => mInt .i64 (r 6) fun x5 => mInt .i64 (r 7) fun x6 => mInt .i64 (r 8) fun x7 => K (x, x1, x2, x3, x4, x5, x6, x7) }
theorem glacierlaw3_links_p5_ok : glacierlaw3_links_p5.ok := by
  intro r K h
  unfold glacierlaw3_links_p5 at h
  obtain ⟨x, e0, h⟩ := mPtr_elim h
  obtain ⟨x1, e1, h⟩ := mPtr_elim h
  obtain ⟨x2, x3, x4, e2, h⟩ := mSlice_elim h
  obtain ⟨x5, e3, h⟩ := mInt_elim h
  obtain ⟨x6, e4, h⟩ := mInt_elim h
  obtain ⟨x7, e5, h⟩ := mInt_elim h
  exact ⟨(x, x1, x2, x3, x4, x5, x6, x7), regsOf_self (L := [(0, (.pointer x)), (1, (.pointer x1)), (5, (.slice x2 x3 x4)), (6, (.int .i64 x5)), (7, (.int .i64 x6)), (8, (.int .i64 x7))]) (List.forall_mem_cons.2 ⟨e0, List.forall_mem_cons.2 ⟨e1, List.forall_mem_cons.2 ⟨e2, List.forall_mem_cons.2 ⟨e3, List.forall_mem_cons.2 ⟨e4, List.forall_mem_cons.2 ⟨e5, List.forall_mem_nil _⟩⟩⟩⟩⟩⟩), h⟩
theorem glacierlaw3_links_p5_re (s : (Option Addr) × (Option Addr) × (Option Addr) × Nat × Nat × Int × Int × Int) (r : Regs) (K : ((Option Addr) × (Option Addr) × (Option Addr) × Nat × Nat × Int × Int × Int) → Prop) (h : K s) : glacierlaw3_links_p5.dec (regsOf (glacierlaw3_links_p5.slots s) r) K := by
  obtain ⟨x8, x9, x10, x11, x12, x13, x14, x15⟩ := s
  exact cast (show K (x8, x9, x10, x11, x12, x13, x14, x15) = glacierlaw3_links_p5.dec (regsOf (glacierlaw3_links_p5.slots (x8, x9, x10, x11, x12, x13, x14, x15)) r) K by kernel_rfl) h

theorem glacierlaw3_links_sound (n : Option Addr) (r_ : Option Addr) (R : Value → World → Prop) (w : World) (h : glacierlaw3_links_b8 n r_ R w) :
    CallR Try.prog fn_glacierlaw3_links #[(.pointer n), (.pointer r_)] w R := by
  refine CallR_intro (args := [(.pointer n), (.pointer r_)]) Try.func16 rfl (Nat.le_of_ble_eq_true (by kernel_rfl)) ?_
  refine Wp_glue glacierlaw3_links_p0 (fun s w => glacierlaw3_links_b7 s.1 s.2.1 s.2.2.1 s.2.2.2.1 s.2.2.2.2.1 s.2.2.2.2.2 R w) [_, _, _] (Q0 := fun e _ r w => match e with | .normal => glacierlaw3_links_p0.dec r (fun s => glacierlaw3_links_b7 s.1 s.2.1 s.2.2.1 s.2.2.2.1 s.2.2.2.2.1 s.2.2.2.2.2 R w) | .exit _ => False | .ret => retQ Try.prog Try.f16.results R .ret [] r w | _ => False) h (by kernel_rfl) (fun s r w h => ?_) glacierlaw3_links_p0_ok (fun _ _ _ h => h) ?_
  · obtain ⟨n1, r_1, l, l_n, l_c, k⟩ := s
    have h : glacierlaw3_links_b7 n1 r_1 l l_n l_c k R w := h
    refine Wp_seq_via glacierlaw3_links_p1 (fun s w => glacierlaw3_links_b4 s.1 s.2.1 s.2.2.2.1 s.2.2.2.2.2 R w) (fun s r w h => ?_) (fun hN1 => ?_)
    · obtain ⟨n8, r_8, l7, l_n7, l_c7, k7⟩ := s
      have h : glacierlaw3_links_b4 n8 r_8 l_n7 k7 R w := h
      refine Wp_leaf_end (Q0 := fun e _ r w => match e with | .normal => retQ Try.prog Try.f16.results R .normal [] r w | .exit _ => False | .ret => retQ Try.prog Try.f16.results R .ret [] r w | _ => False) h (by kernel_rfl) ?_
      intro e _ r w h
      cases e with
      | normal => exact h
      | exit i => exact h.elim
      | ret => exact h
      | goto i => exact h.elim
      | panic c => exact h.elim
      | outgrown => exact h.elim
    · refine Wp_glue glacierlaw3_links_p2 (fun s w => glacierlaw3_links_b6 s.1 s.2.1 s.2.2.1 s.2.2.2.1 s.2.2.2.2.1 s.2.2.2.2.2.1 s.2.2.2.2.2.2 R w) [_] (Q0 := fun e _ r w => match e with | .normal => glacierlaw3_links_p2.dec r (fun s => glacierlaw3_links_b6 s.1 s.2.1 s.2.2.1 s.2.2.2.1 s.2.2.2.2.1 s.2.2.2.2.2.1 s.2.2.2.2.2.2 R w) | .exit _ => False | .ret => retQ Try.prog Try.f16.results R .ret [] r w | _ => False) h (by kernel_rfl) (fun s r w h => ?_) glacierlaw3_links_p2_ok (fun _ _ _ h => h) ?_
      · obtain ⟨n2, r_2, l1, l_n1, l_c1, k1, from_⟩ := s
        have h : glacierlaw3_links_b6 n2 r_2 l1 l_n1 l_c1 k1 from_ R w := h
        refine Wp_block_via glacierlaw3_links_p1 (fun s w => glacierlaw3_links_b4 s.1 s.2.1 s.2.2.2.1 s.2.2.2.2.2 R w) hN1 (fun hX2 => ?_)
        refine Wp_loop (p := glacierlaw3_links_p2) glacierlaw3_links_p2_ok (fun s r w K0 h => ?_) h
        obtain ⟨n3, r_3, l2, l_n2, l_c2, k2, from_1⟩ := s
        have h : glacierlaw3_links_b5 n3 r_3 l2 l_n2 l_c2 k2 from_1 K0 R w := h
        have hK3 := fun (s : (Option Addr) × (Option Addr) × (Option Addr) × Nat × Nat × Int × Int) (r : Regs) (w : World) (h : K0 s w) => glacierlaw3_links_p2_re s r (fun s => K0 s w) h
        refine Wp_glue glacierlaw3_links_p3 (fun s w => glacierlaw3_links_b3 s.1 s.2.1 s.2.2.1 s.2.2.2.1 s.2.2.2.2.1 s.2.2.2.2.2.1 s.2.2.2.2.2.2 K0 R w) [_] (Q0 := fun e _ r w => match e with | .normal => glacierlaw3_links_p3.dec r (fun s => glacierlaw3_links_b3 s.1 s.2.1 s.2.2.1 s.2.2.2.1 s.2.2.2.2.1 s.2.2.2.2.2.1 s.2.2.2.2.2.2 K0 R w) | .exit i => exitQ i 0 (glacierlaw3_links_p1.dec r (fun s => glacierlaw3_links_b4 s.1 s.2.1 s.2.2.2.1 s.2.2.2.2.2 R w)) (False) | .ret => retQ Try.prog Try.f16.results R .ret [] r w | _ => False) h (by kernel_rfl) (fun s r w h => ?_) glacierlaw3_links_p3_ok (fun _ _ _ h => h) ?_
        · obtain ⟨n4, r_4, l3, l_n3, l_c3, k3, from_2⟩ := s
          have h : glacierlaw3_links_b3 n4 r_4 l3 l_n3 l_c3 k3 from_2 K0 R w := h
          refine Wp_seq_via glacierlaw3_links_p4 (fun s w => glacierlaw3_links_b0 s.1 s.2.1 s.2.2.1 s.2.2.2.1 s.2.2.2.2.1 s.2.2.2.2.2.1 s.2.2.2.2.2.2 K0 w) (fun s r w h => ?_) (fun hN4 => ?_)
          · obtain ⟨n7, r_7, l6, l_n6, l_c6, k6, from_5⟩ := s
            have h : glacierlaw3_links_b0 n7 r_7 l6 l_n6 l_c6 k6 from_5 K0 w := h
            refine Wp_leaf_end (Q0 := fun e _ r w => match e with | .normal => glacierlaw3_links_p2.dec r (fun s => K0 s w) | .exit i => exitQ i 0 (glacierlaw3_links_p1.dec r (fun s => glacierlaw3_links_b4 s.1 s.2.1 s.2.2.2.1 s.2.2.2.2.2 R w)) (False) | .ret => retQ Try.prog Try.f16.results R .ret [] r w | _ => False) h (by kernel_rfl) ?_
            intro e _ r w h
            cases e with
            | normal =>
              obtain ⟨s, hs, h⟩ := glacierlaw3_links_p2_ok _ _ h
              rw [← hs]
              exact hK3 s r w h
            | exit i =>
              rcases exitQ_elim h with ⟨rfl, h⟩ | ⟨_, h⟩
              · obtain ⟨s, hs, h⟩ := glacierlaw3_links_p1_ok _ _ h
                rw [← hs]
                exact hX2 s r w h
              exact h.elim
            | ret => exact h
            | goto i => exact h.elim
            | panic c => exact h.elim
            | outgrown => exact h.elim
          · refine Wp_block_via glacierlaw3_links_p4 (fun s w => glacierlaw3_links_b0 s.1 s.2.1 s.2.2.1 s.2.2.2.1 s.2.2.2.2.1 s.2.2.2.2.2.1 s.2.2.2.2.2.2 K0 w) hN4 (fun hX5 => ?_)
            refine Wp_glue glacierlaw3_links_p5 (fun s w => glacierlaw3_links_b2 s.1 s.2.1 s.2.2.1 s.2.2.2.1 s.2.2.2.2.1 s.2.2.2.2.2.1 s.2.2.2.2.2.2.1 s.2.2.2.2.2.2.2 K0 R w) [_] (Q0 := fun e _ r w => match e with | .normal => glacierlaw3_links_p5.dec r (fun s => glacierlaw3_links_b2 s.1 s.2.1 s.2.2.1 s.2.2.2.1 s.2.2.2.2.1 s.2.2.2.2.2.1 s.2.2.2.2.2.2.1 s.2.2.2.2.2.2.2 K0 R w) | .exit i => exitQ i 0 (glacierlaw3_links_p1.dec r (fun s => glacierlaw3_links_b4 s.1 s.2.1 s.2.2.2.1 s.2.2.2.2.2 R w)) (exitQ i 1 (glacierlaw3_links_p4.dec r (fun s => glacierlaw3_links_b0 s.1 s.2.1 s.2.2.1 s.2.2.2.1 s.2.2.2.2.1 s.2.2.2.2.2.1 s.2.2.2.2.2.2 K0 w)) (False)) | .ret => retQ Try.prog Try.f16.results R .ret [] r w | _ => False) h (by kernel_rfl) (fun s r w h => ?_) glacierlaw3_links_p5_ok (fun _ _ _ h => h) ?_
            · obtain ⟨n5, r_5, l4, l_n4, l_c4, k4, from_3, to⟩ := s
              have h : glacierlaw3_links_b2 n5 r_5 l4 l_n4 l_c4 k4 from_3 to K0 R w := h
              refine Wp_block_via glacierlaw3_links_p4 (fun s w => glacierlaw3_links_b0 s.1 s.2.1 s.2.2.1 s.2.2.2.1 s.2.2.2.2.1 s.2.2.2.2.2.1 s.2.2.2.2.2.2 K0 w) hN4 (fun hX6 => ?_)
              refine Wp_loop (p := glacierlaw3_links_p5) glacierlaw3_links_p5_ok (fun s r w K1 h => ?_) h
              obtain ⟨n6, r_6, l5, l_n5, l_c5, k5, from_4, to1⟩ := s
              have h : glacierlaw3_links_b1 n6 r_6 l5 l_n5 l_c5 k5 from_4 to1 K0 K1 R w := h
              have hK7 := fun (s : (Option Addr) × (Option Addr) × (Option Addr) × Nat × Nat × Int × Int × Int) (r : Regs) (w : World) (h : K1 s w) => glacierlaw3_links_p5_re s r (fun s => K1 s w) h
              refine Wp_leaf_end (Q0 := fun e _ r w => match e with | .normal => glacierlaw3_links_p5.dec r (fun s => K1 s w) | .exit i => exitQ i 0 (glacierlaw3_links_p1.dec r (fun s => glacierlaw3_links_b4 s.1 s.2.1 s.2.2.2.1 s.2.2.2.2.2 R w)) (exitQ i 1 (glacierlaw3_links_p4.dec r (fun s => glacierlaw3_links_b0 s.1 s.2.1 s.2.2.1 s.2.2.2.1 s.2.2.2.2.1 s.2.2.2.2.2.1 s.2.2.2.2.2.2 K0 w)) (exitQ i 2 (glacierlaw3_links_p4.dec r (fun s => glacierlaw3_links_b0 s.1 s.2.1 s.2.2.1 s.2.2.2.1 s.2.2.2.2.1 s.2.2.2.2.2.1 s.2.2.2.2.2.2 K0 w)) (False))) | .ret => retQ Try.prog Try.f16.results R .ret [] r w | _ => False) h (by kernel_rfl) ?_
              intro e _ r w h
              cases e with
              | normal =>
                obtain ⟨s, hs, h⟩ := glacierlaw3_links_p5_ok _ _ h
                rw [← hs]
                exact hK7 s r w h
              | exit i =>
                rcases exitQ_elim h with ⟨rfl, h⟩ | ⟨_, h⟩
                · obtain ⟨s, hs, h⟩ := glacierlaw3_links_p1_ok _ _ h
                  rw [← hs]
                  exact (fun s r w h => blockQ_other (id := 2) (j := 0) (by decide) ((fun s r w h => blockQ_other (id := 1) (j := 0) (by decide) (hX2 s r w h)) s r w h)) s r w h
                rcases exitQ_elim h with ⟨rfl, h⟩ | ⟨_, h⟩
                · obtain ⟨s, hs, h⟩ := glacierlaw3_links_p4_ok _ _ h
                  rw [← hs]
                  exact (fun s r w h => blockQ_other (id := 2) (j := 1) (by decide) (hX5 s r w h)) s r w h
                rcases exitQ_elim h with ⟨rfl, h⟩ | ⟨_, h⟩
                · obtain ⟨s, hs, h⟩ := glacierlaw3_links_p4_ok _ _ h
                  rw [← hs]
                  exact hX6 s r w h
                exact h.elim
              | ret => exact h
              | goto i => exact h.elim
              | panic c => exact h.elim
              | outgrown => exact h.elim
            · intro e _ r w hne h
              cases e with
              | normal => exact absurd rfl hne
              | exit i =>
                rcases exitQ_elim h with ⟨rfl, h⟩ | ⟨_, h⟩
                · obtain ⟨s, hs, h⟩ := glacierlaw3_links_p1_ok _ _ h
                  rw [← hs]
                  exact (fun s r w h => blockQ_other (id := 1) (j := 0) (by decide) (hX2 s r w h)) s r w h
                rcases exitQ_elim h with ⟨rfl, h⟩ | ⟨_, h⟩
                · obtain ⟨s, hs, h⟩ := glacierlaw3_links_p4_ok _ _ h
                  rw [← hs]
                  exact hX5 s r w h
                exact h.elim
              | ret => exact h
              | goto i => exact h.elim
              | panic c => exact h.elim
              | outgrown => exact h.elim
        · intro e _ r w hne h
          cases e with
          | normal => exact absurd rfl hne
          | exit i =>
            rcases exitQ_elim h with ⟨rfl, h⟩ | ⟨_, h⟩
            · obtain ⟨s, hs, h⟩ := glacierlaw3_links_p1_ok _ _ h
              rw [← hs]
              exact hX2 s r w h
            exact h.elim
          | ret => exact h
          | goto i => exact h.elim
          | panic c => exact h.elim
          | outgrown => exact h.elim
      · intro e _ r w hne h
        cases e with
        | normal => exact absurd rfl hne
        | exit i => exact h.elim
        | ret => exact h
        | goto i => exact h.elim
        | panic c => exact h.elim
        | outgrown => exact h.elim
  · intro e _ r w hne h
    cases e with
    | normal => exact absurd rfl hne
    | exit i => exact h.elim
    | ret => exact h
    | goto i => exact h.elim
    | panic c => exact h.elim
    | outgrown => exact h.elim

/- glacier/glacierlaw3.step -/
def glacierlaw3_step_b0 (n : Option Addr) (r_ : Option Addr) (x_Op : Int) (x_From : Int) (x_To : Int) (x_Pick : Int) (x_Tos : Option Addr) (x_Tos_n : Nat) (x_Tos_c : Nat) (x_Bytes : Option Addr) (x_Bytes_n : Nat) (x_Bytes_c : Nat) (R : Value → World → Prop) (w : World) : Prop :=
  AL w (.cells #[(.int .i64 x_Op), (.int .i64 x_From), (.int .i64 x_To), (.int .i64 x_Pick), (.slice x_Tos x_Tos_n x_Tos_c), (.slice x_Bytes x_Bytes_n x_Bytes_c)] 39) fun x w_ =>
  LDI .i64 w_ x fun v =>
  Br (v == 1) (
  LetW (World.drew w_) fun w_1 =>
  LDI .i64 w_1 (Addr.add x 1) fun v1 =>
  LDSl w_1 (Addr.add x 5) fun v2 v_n v_c =>
  LDSl w_1 (Addr.add x 4) fun v3 v_n1 v_c1 =>
  LDI .i64 w_1 (Addr.add x 1) fun v4 =>
  LDSl w_1 (Addr.add x 5) fun v5 v_n2 v_c2 =>
  LDSl w_1 (Addr.add x 4) fun v6 v_n3 v_c3 =>
  CallR Try.prog fn_net_Net_Send #[(.pointer n), (.int .i64 v1), (.slice v2 v_n v_c), (.slice v3 v_n1 v_c1)] w_1 fun res w_2 =>
  mInt .i64 res fun v7 =>
  (World.cell? w_2 (Addr.add x 4) = some (.slice v6 v_n3 v_c3) ∧ 
  (World.cell? w_2 (Addr.add x 5) = some (.slice v5 v_n2 v_c2) ∧ 
  (World.cell? w_2 (Addr.add x 1) = some (.int .i64 v4) ∧ 
  CallR Try.prog fn_glacierref3_Net_Send #[(.pointer r_), (.int .i64 v4), (.slice v5 v_n2 v_c2), (.slice v6 v_n3 v_c3)] w_2 fun res1 w_3 =>
  mInt .i64 res1 fun v8 =>
  R (.bool (v7 == v8)) w_3)))) (
  Br (v == 2) (
  LDI .i64 w_ (Addr.add x 1) fun v9 =>
  LDI .i64 w_ (Addr.add x 2) fun v10 =>
  LDI .i64 w_ (Addr.add x 3) fun v11 =>
  CallR Try.prog fn_net_Net_Deliver #[(.pointer n), (.int .i64 v9), (.int .i64 v10), (.int .i64 v11)] w_ fun res2 w_4 =>
  mTup res2 fun l =>
  mCons l fun v12 l1 =>
  mAgg v12 fun v_l =>
  mCons v_l fun v_From l2 =>
  mInt .i64 v_From fun v_From1 =>
  mCons l2 fun v_To l3 =>
  mInt .i64 v_To fun v_To1 =>
  mCons l3 fun v_Bytes l4 =>
  mSlice v_Bytes fun v_Bytes1 v_Bytes_n v_Bytes_c =>
  mNil l4 (
  mCons l1 fun v13 l5 =>
  mBool v13 fun v14 =>
  mNil l5 (
  AL w_4 (.cells #[(.int .i64 0), (.int .i64 0), (.slice none 0 0)] 31) fun a w_5 =>
  ST w_5 a (.int .i64 v_From1) fun w_6 =>
  ST w_6 (Addr.add a 1) (.int .i64 v_To1) fun w_7 =>
  ST w_7 (Addr.add a 2) (.slice v_Bytes1 v_Bytes_n v_Bytes_c) fun w_8 =>
  LDI .i64 w_8 (Addr.add x 1) fun v15 =>
  LDI .i64 w_8 (Addr.add x 2) fun v16 =>
  LDI .i64 w_8 (Addr.add x 3) fun v17 =>
  CallR Try.prog fn_glacierref3_Net_Deliver #[(.pointer r_), (.int .i64 v15), (.int .i64 v16), (.int .i64 v17)] w_8 fun res3 w_9 =>
  mTup res3 fun l6 =>
  mCons l6 fun v18 l7 =>
  mAgg v18 fun v_l1 =>
  mCons v_l1 fun v_From2 l8 =>
  mInt .i64 v_From2 fun v_From3 =>
  mCons l8 fun v_To2 l9 =>
  mInt .i64 v_To2 fun v_To3 =>
  mCons l9 fun v_Bytes2 l10 =>
  mSlice v_Bytes2 fun v_Bytes3 v_Bytes_n1 v_Bytes_c1 =>
  mNil l10 (
  mCons l7 fun v19 l11 =>
  mBool v19 fun v20 =>
  mNil l11 (
  AL w_9 (.cells #[(.int .i64 0), (.int .i64 0), (.slice none 0 0)] 31) fun b w_10 =>
  ST w_10 b (.int .i64 v_From3) fun w_11 =>
  ST w_11 (Addr.add b 1) (.int .i64 v_To3) fun w_12 =>
  ST w_12 (Addr.add b 2) (.slice v_Bytes3 v_Bytes_n1 v_Bytes_c1) fun w_13 =>
  Br (v14 == v20) (
  LDI .i64 w_13 a fun From =>
  LDI .i64 w_13 (Addr.add a 1) fun To =>
  LDSl w_13 (Addr.add a 2) fun Bytes Bytes_n Bytes_c =>
  LDI .i64 w_13 b fun From1 =>
  LDI .i64 w_13 (Addr.add b 1) fun To1 =>
  LDSl w_13 (Addr.add b 2) fun Bytes1 Bytes_n1 Bytes_c1 =>
  CallR Try.prog fn_glacierlaw3_same #[(.agg #[(.int .i64 From), (.int .i64 To), (.slice Bytes Bytes_n Bytes_c)]), (.agg #[(.int .i64 From1), (.int .i64 To1), (.slice Bytes1 Bytes_n1 Bytes_c1)])] w_13 fun res4 w_14 =>
  mBool res4 fun v21 =>
  R (.bool v21) w_14) (
  R (.bool false) w_13)))))) (
  Br (v == 3) (
  LDI .i64 w_ (Addr.add x 1) fun v22 =>
  LDI .i64 w_ (Addr.add x 2) fun v23 =>
  LDI .i64 w_ (Addr.add x 3) fun v24 =>
  CallR Try.prog fn_glacierref3_Net_Deliver #[(.pointer r_), (.int .i64 v22), (.int .i64 v23), (.int .i64 v24)] w_ fun res5 w_15 =>
  mTup res5 fun l12 =>
  mCons l12 fun v25 l13 =>
  mAgg v25 fun v_l2 =>
  mCons v_l2 fun v_From4 l14 =>
  mInt .i64 v_From4 fun v_From5 =>
  mCons l14 fun v_To4 l15 =>
  mInt .i64 v_To4 fun v_To5 =>
  mCons l15 fun v_Bytes4 l16 =>
  mSlice v_Bytes4 fun v_Bytes5 v_Bytes_n2 v_Bytes_c2 =>
  mNil l16 (
  mCons l13 fun v26 l17 =>
  mBool v26 fun v27 =>
  mNil l17 (
  AL w_15 (.cells #[(.int .i64 0), (.int .i64 0), (.slice none 0 0)] 31) fun p w_16 =>
  ST w_16 p (.int .i64 v_From5) fun w_17 =>
  ST w_17 (Addr.add p 1) (.int .i64 v_To5) fun w_18 =>
  ST w_18 (Addr.add p 2) (.slice v_Bytes5 v_Bytes_n2 v_Bytes_c2) fun w_19 =>
  LDI .i64 w_19 (Addr.add x 1) fun v28 =>
  LDI .i64 w_19 (Addr.add x 2) fun v29 =>
  LDI .i64 w_19 (Addr.add x 3) fun v30 =>
  CallR Try.prog fn_net_Net_Drop #[(.pointer n), (.int .i64 v28), (.int .i64 v29), (.int .i64 v30)] w_19 fun res6 w_20 =>
  mBool res6 fun v31 =>
  R (.bool (v31 == v27)) w_20))) (
  Br (v == 4) (
  LetW (World.drew w_) fun w_21 =>
  LDI .i64 w_21 (Addr.add x 1) fun v32 =>
  LDI .i64 w_21 (Addr.add x 2) fun v33 =>
  LDI .i64 w_21 (Addr.add x 3) fun v34 =>
  LDI .i64 w_21 (Addr.add x 1) fun v35 =>
  LDI .i64 w_21 (Addr.add x 2) fun v36 =>
  LDI .i64 w_21 (Addr.add x 3) fun v37 =>
  CallR Try.prog fn_net_Net_Double #[(.pointer n), (.int .i64 v32), (.int .i64 v33), (.int .i64 v34)] w_21 fun res7 w_22 =>
  mBool res7 fun v38 =>
  (World.cell? w_22 (Addr.add x 3) = some (.int .i64 v37) ∧ 
  (World.cell? w_22 (Addr.add x 2) = some (.int .i64 v36) ∧ 
  (World.cell? w_22 (Addr.add x 1) = some (.int .i64 v35) ∧ 
  CallR Try.prog fn_glacierref3_Net_Double #[(.pointer r_), (.int .i64 v35), (.int .i64 v36), (.int .i64 v37)] w_22 fun res8 w_23 =>
  mBool res8 fun v39 =>
  (w_23 = w_23 ∧ 
  R (.bool (v38 == v39)) w_23))))) (
  Br (v == 5) (
  LDI .i64 w_ (Addr.add x 1) fun v40 =>
  CallR Try.prog fn_net_Net_Clear #[(.pointer n), (.int .i64 v40)] w_ fun res9 w_24 =>
  mTup res9 fun l18 =>
  mNil l18 (
  LDI .i64 w_24 (Addr.add x 1) fun v41 =>
  CallR Try.prog fn_glacierref3_Net_Clear #[(.pointer r_), (.int .i64 v41)] w_24 fun res10 w_25 =>
  mTup res10 fun l19 =>
  mNil l19 (
  R (.bool true) w_25))) (
  Br (v == 6) (
  NN r_ fun p1 =>
  LDI .i64 w_ (Addr.add p1 2) fun v42 =>
  NN r_ fun p2 =>
  ST w_ (Addr.add p2 2) (.int .i64 (IntKind.wrap .i64 (v42 + 1))) fun w_26 =>
  LetW (World.drew w_26) fun w_27 =>
  NN r_ fun p3 =>
  LDI .i64 w_27 (Addr.add p3 2) fun v43 =>
  CallR Try.prog fn_net_Net_Tick #[(.pointer n)] w_27 fun res11 w_28 =>
  mInt .i64 res11 fun v44 =>
  (World.cell? w_28 (Addr.add p3 2) = some (.int .i64 v43) ∧ 
  R (.bool (v44 == v43)) w_28)) (
  R (.bool true) w_))))))

theorem glacierlaw3_step_sound (n : Option Addr) (r_ : Option Addr) (x_Op : Int) (x_From : Int) (x_To : Int) (x_Pick : Int) (x_Tos : Option Addr) (x_Tos_n : Nat) (x_Tos_c : Nat) (x_Bytes : Option Addr) (x_Bytes_n : Nat) (x_Bytes_c : Nat) (R : Value → World → Prop) (w : World) (h : glacierlaw3_step_b0 n r_ x_Op x_From x_To x_Pick x_Tos x_Tos_n x_Tos_c x_Bytes x_Bytes_n x_Bytes_c R w) :
    CallR Try.prog fn_glacierlaw3_step #[(.pointer n), (.pointer r_), (.agg #[(.int .i64 x_Op), (.int .i64 x_From), (.int .i64 x_To), (.int .i64 x_Pick), (.slice x_Tos x_Tos_n x_Tos_c), (.slice x_Bytes x_Bytes_n x_Bytes_c)])] w R := by
  refine CallR_intro (args := [(.pointer n), (.pointer r_), (.agg #[(.int .i64 x_Op), (.int .i64 x_From), (.int .i64 x_To), (.int .i64 x_Pick), (.slice x_Tos x_Tos_n x_Tos_c), (.slice x_Bytes x_Bytes_n x_Bytes_c)])]) Try.func15 rfl (Nat.le_of_ble_eq_true (by kernel_rfl)) ?_
  refine Wp_leaf_end (Q0 := fun e _ r w => match e with | .normal => retQ Try.prog Try.f15.results R .normal [] r w | .exit _ => False | .ret => retQ Try.prog Try.f15.results R .ret [] r w | _ => False) h (by kernel_rfl) ?_
  intro e _ r w h
  cases e with
  | normal => exact h
  | exit i => exact h.elim
  | ret => exact h
  | goto i => exact h.elim
  | panic c => exact h.elim
  | outgrown => exact h.elim

/- glacier/glacierlaw3.NetPlays -/
def glacierlaw3_NetPlays_b0 (R : Value → World → Prop) (w : World) : Prop :=
  R (.bool true) w

def glacierlaw3_NetPlays_b1 (l9 : Option Addr) (l_n3 : Nat) (l_c3 : Nat) (n2 : Option Addr) (r_2 : Option Addr) (i1 : Int) (K0 : ((Option Addr) × Nat × Nat × (Option Addr) × (Option Addr) × Int) → World → Prop) (R : Value → World → Prop) (w : World) : Prop :=
  Br (decide (i1 < (l_n3 : Int))) (
  IX l9 l_n3 i1 6 fun a =>
  LDI .i64 w a fun Op =>
  LDI .i64 w (Addr.add a 1) fun From =>
  LDI .i64 w (Addr.add a 2) fun To =>
  LDI .i64 w (Addr.add a 3) fun Pick =>
  LDSl w (Addr.add a 4) fun Tos Tos_n Tos_c =>
  LDSl w (Addr.add a 5) fun Bytes Bytes_n Bytes_c =>
  CallR Try.prog fn_glacierlaw3_step #[(.pointer n2), (.pointer r_2), (.agg #[(.int .i64 Op), (.int .i64 From), (.int .i64 To), (.int .i64 Pick), (.slice Tos Tos_n Tos_c), (.slice Bytes Bytes_n Bytes_c)])] w fun res4 w_4 =>
  mBool res4 fun v10 =>
  Br (!v10) (
  R (.bool false) w_4) (
  CallR Try.prog fn_glacierlaw3_links #[(.pointer n2), (.pointer r_2)] w_4 fun res5 w_5 =>
  mBool res5 fun v11 =>
  Br (!v11) (
  R (.bool false) w_5) (
  K0 (l9, l_n3, l_c3, n2, r_2, IntKind.wrap .i64 (i1 + 1)) w_5))) (
  glacierlaw3_NetPlays_b0 R w)

def glacierlaw3_NetPlays_b2 (l8 : Option Addr) (l_n2 : Nat) (l_c2 : Nat) (n1 : Option Addr) (r_1 : Option Addr) (i : Int) (R : Value → World → Prop) (w : World) : Prop :=
  LoopS (σ := (Option Addr) × Nat × Nat × (Option Addr) × (Option Addr) × Int) (fun s w K0 =>
  glacierlaw3_NetPlays_b1 s.1 s.2.1 s.2.2.1 s.2.2.2.1 s.2.2.2.2.1 s.2.2.2.2.2 K0 R w) (l8, l_n2, l_c2, n1, r_1, i) w

def glacierlaw3_NetPlays_b3 (l7 : Option Addr) (l_n1 : Nat) (l_c1 : Nat) (n : Option Addr) (r_ : Option Addr) (R : Value → World → Prop) (w : World) : Prop :=
  glacierlaw3_NetPlays_b2 l7 l_n1 l_c1 n r_ 0 R w

def glacierlaw3_NetPlays_b4 (nodes : Int) (bound : Int) (l : Option Addr) (l_n : Nat) (l_c : Nat) (R : Value → World → Prop) (w : World) : Prop :=
  CallR Try.prog fn_glacierlaw3_known #[] w fun res w_ =>
  mBool res fun v =>
  Br (!v) (
  R (.bool false) w_) (
  CallR Try.prog fn_glacierlaw3_few #[(.slice l l_n l_c)] w_ fun res1 w_1 =>
  mBool res1 fun v1 =>
  Br (!v1) (
  R (.bool true) w_1) (
  CallR Try.prog fn_net_New #[(.int .i64 nodes), (.int .i64 bound)] w_1 fun res2 w_2 =>
  mTup res2 fun l1 =>
  mCons l1 fun v2 l2 =>
  mPtr v2 fun v3 =>
  mCons l2 fun v4 l3 =>
  mInt .i64 v4 fun v5 =>
  mNil l3 (
  CallR Try.prog fn_glacierref3_New #[(.int .i64 nodes), (.int .i64 bound)] w_2 fun res3 w_3 =>
  mTup res3 fun l4 =>
  mCons l4 fun v6 l5 =>
  mPtr v6 fun v7 =>
  mCons l5 fun v8 l6 =>
  mInt .i64 v8 fun v9 =>
  mNil l6 (
  Br (v5 != v9) (
  R (.bool false) w_3) (
  Br (!((Option.isNone v3) == (Option.isNone v7))) (
  R (.bool false) w_3) (
  Br (Option.isNone v3) (
  R (.bool true) w_3) (
  glacierlaw3_NetPlays_b3 l l_n l_c v3 v7 R w_3)))))))

def glacierlaw3_NetPlays_p0 : Point ((Option Addr) × Nat × Nat × (Option Addr) × (Option Addr)) := { slots := fun s => [(2, (.slice s.1 s.2.1 s.2.2.1)), (7, (.pointer s.2.2.2.1)), (9, (.pointer s.2.2.2.2))], dec := fun r K => mSlice (r 2) fun x x1 x2 => mPtr (r 7) fun x3 => mPtr (r 9) fun x4 => K (x, x1, x2, x3, x4) }
theorem glacierlaw3_NetPlays_p0_ok : glacierlaw3_NetPlays_p0.ok := by
  intro r K h
  unfold glacierlaw3_NetPlays_p0 at h
  obtain ⟨x, x1, x2, e0, h⟩ := mSlice_elim h
  obtain ⟨x3, e1, h⟩ := mPtr_elim h
  obtain ⟨x4, e2, h⟩ := mPtr_elim h
  exact ⟨(x, x1, x2, x3, x4), regsOf_self (L := [(2, (.slice x x1 x2)), (7, (.pointer x3)), (9, (.pointer x4))]) (List.forall_mem_cons.2 ⟨e0, List.forall_mem_cons.2 ⟨e1, List.forall_mem_cons.2 ⟨e2, List.forall_mem_nil _⟩⟩⟩), h⟩
theorem glacierlaw3_NetPlays_p0_re (s : (Option Addr) × Nat × Nat × (Option Addr) × (Option Addr)) (r : Regs) (K : ((Option Addr) × Nat × Nat × (Option Addr) × (Option Addr)) → Prop) (h : K s) : glacierlaw3_NetPlays_p0.dec (regsOf (glacierlaw3_NetPlays_p0.slots s) r) K := by
  obtain ⟨x5, x6, x7, x8, x9⟩ := s
  exact cast (show K (x5, x6, x7, x8, x9) = glacierlaw3_NetPlays_p0.dec (regsOf (glacierlaw3_NetPlays_p0.slots (x5, x6, x7, x8, x9)) r) K by kernel_rfl) h

def glacierlaw3_NetPlays_p1 : Point (Unit) := { slots := fun _ => [], dec := fun _ K => K () }
theorem glacierlaw3_NetPlays_p1_ok : glacierlaw3_NetPlays_p1.ok := by
  intro r K h
  unfold glacierlaw3_NetPlays_p1 at h
  exact ⟨(), regsOf_self (L := []) (List.forall_mem_nil _), h⟩
theorem glacierlaw3_NetPlays_p1_re (s : Unit) (r : Regs) (K : Unit → Prop) (h : K s) : glacierlaw3_NetPlays_p1.dec (regsOf (glacierlaw3_NetPlays_p1.slots s) r) K := by
  exact cast (show K () = glacierlaw3_NetPlays_p1.dec (regsOf (glacierlaw3_NetPlays_p1.slots ()) r) K by kernel_rfl) h

def glacierlaw3_NetPlays_p2 : Point ((Option Addr) × Nat × Nat × (Option Addr) × (Option Addr) × Int) := { slots := fun s => [(2, (.slice s.1 s.2.1 s.2.2.1)), (7, (.pointer s.2.2.2.1)), (9, (.pointer s.2.2.2.2.1)), (11, (.int .i64 s.2.2.2.2.2))], dec := fun r K => mSlice (r 2) fun x x1 x2 => mPtr (r 7) fun x3 => mPtr (r 9) fun x4 => mInt .i64 (r 11) fun x5 => K (x, x1, x2, x3, x4, x5) }
theorem glacierlaw3_NetPlays_p2_ok : glacierlaw3_NetPlays_p2.ok := by
  intro r K h
  unfold glacierlaw3_NetPlays_p2 at h
  obtain ⟨x, x1, x2, e0, h⟩ := mSlice_elim h
  obtain ⟨x3, e1, h⟩ := mPtr_elim h
  obtain ⟨x4, e2, h⟩ := mPtr_elim h
  obtain ⟨x5, e3, h⟩ := mInt_elim h
  exact ⟨(x, x1, x2, x3, x4, x5), regsOf_self (L := [(2, (.slice x x1 x2)), (7, (.pointer x3)), (9, (.pointer x4)), (11, (.int .i64 x5))]) (List.forall_mem_cons.2 ⟨e0, List.forall_mem_cons.2 ⟨e1, List.forall_mem_cons.2 ⟨e2, List.forall_mem_cons.2 ⟨e3, List.forall_mem_nil _⟩⟩⟩⟩), h⟩
theorem glacierlaw3_NetPlays_p2_re (s : (Option Addr) × Nat × Nat × (Option Addr) × (Option Addr) × Int) (r : Regs) (K : ((Option Addr) × Nat × Nat × (Option Addr) × (Option Addr) × Int) → Prop) (h : K s) : glacierlaw3_NetPlays_p2.dec (regsOf (glacierlaw3_NetPlays_p2.slots s) r) K := by
  obtain ⟨x6, x7, x8, x9, x10, x11⟩ := s
  exact cast (show K (x6, x7, x8, x9, x10, x11) = glacierlaw3_NetPlays_p2.dec (regsOf (glacierlaw3_NetPlays_p2.slots (x6, x7, x8, x9, x10, x11)) r) K by kernel_rfl) h

theorem glacierlaw3_NetPlays_sound (nodes : Int) (bound : Int) (l : Option Addr) (l_n : Nat) (l_c : Nat) (R : Value → World → Prop) (w : World) (h : glacierlaw3_NetPlays_b4 nodes bound l l_n l_c R w) :
    CallR Try.prog fn_glacierlaw3_NetPlays #[(.int .i64 nodes), (.int .i64 bound), (.slice l l_n l_c)] w R := by
  refine CallR_intro (args := [(.int .i64 nodes), (.int .i64 bound), (.slice l l_n l_c)]) Try.func5 rfl (Nat.le_of_ble_eq_true (by kernel_rfl)) ?_
  refine Wp_glue glacierlaw3_NetPlays_p0 (fun s w => glacierlaw3_NetPlays_b3 s.1 s.2.1 s.2.2.1 s.2.2.2.1 s.2.2.2.2 R w) [_, _, _, _, _, _, _] (Q0 := fun e _ r w => match e with | .normal => glacierlaw3_NetPlays_p0.dec r (fun s => glacierlaw3_NetPlays_b3 s.1 s.2.1 s.2.2.1 s.2.2.2.1 s.2.2.2.2 R w) | .exit _ => False | .ret => retQ Try.prog Try.f5.results R .ret [] r w | _ => False) h (by kernel_rfl) (fun s r w h => ?_) glacierlaw3_NetPlays_p0_ok (fun _ _ _ h => h) ?_
  · obtain ⟨l7, l_n1, l_c1, n, r_⟩ := s
    have h : glacierlaw3_NetPlays_b3 l7 l_n1 l_c1 n r_ R w := h
    refine Wp_seq_via glacierlaw3_NetPlays_p1 (fun _ w => glacierlaw3_NetPlays_b0 R w) (fun s r w h => ?_) (fun hN1 => ?_)
    · cases s
      have h : glacierlaw3_NetPlays_b0 R w := h
      refine Wp_leaf_end (Q0 := fun e _ r w => match e with | .normal => retQ Try.prog Try.f5.results R .normal [] r w | .exit _ => False | .ret => retQ Try.prog Try.f5.results R .ret [] r w | _ => False) h (by kernel_rfl) ?_
      intro e _ r w h
      cases e with
      | normal => exact h
      | exit i => exact h.elim
      | ret => exact h
      | goto i => exact h.elim
      | panic c => exact h.elim
      | outgrown => exact h.elim
    · refine Wp_glue glacierlaw3_NetPlays_p2 (fun s w => glacierlaw3_NetPlays_b2 s.1 s.2.1 s.2.2.1 s.2.2.2.1 s.2.2.2.2.1 s.2.2.2.2.2 R w) [_] (Q0 := fun e _ r w => match e with | .normal => glacierlaw3_NetPlays_p2.dec r (fun s => glacierlaw3_NetPlays_b2 s.1 s.2.1 s.2.2.1 s.2.2.2.1 s.2.2.2.2.1 s.2.2.2.2.2 R w) | .exit _ => False | .ret => retQ Try.prog Try.f5.results R .ret [] r w | _ => False) h (by kernel_rfl) (fun s r w h => ?_) glacierlaw3_NetPlays_p2_ok (fun _ _ _ h => h) ?_
      · obtain ⟨l8, l_n2, l_c2, n1, r_1, i⟩ := s
        have h : glacierlaw3_NetPlays_b2 l8 l_n2 l_c2 n1 r_1 i R w := h
        refine Wp_block_via glacierlaw3_NetPlays_p1 (fun _ w => glacierlaw3_NetPlays_b0 R w) hN1 (fun hX2 => ?_)
        refine Wp_loop (p := glacierlaw3_NetPlays_p2) glacierlaw3_NetPlays_p2_ok (fun s r w K0 h => ?_) h
        obtain ⟨l9, l_n3, l_c3, n2, r_2, i1⟩ := s
        have h : glacierlaw3_NetPlays_b1 l9 l_n3 l_c3 n2 r_2 i1 K0 R w := h
        have hK3 := fun (s : (Option Addr) × Nat × Nat × (Option Addr) × (Option Addr) × Int) (r : Regs) (w : World) (h : K0 s w) => glacierlaw3_NetPlays_p2_re s r (fun s => K0 s w) h
        refine Wp_leaf_end (Q0 := fun e _ r w => match e with | .normal => glacierlaw3_NetPlays_p2.dec r (fun s => K0 s w) | .exit i => exitQ i 0 (glacierlaw3_NetPlays_p1.dec r (fun _ => glacierlaw3_NetPlays_b0 R w)) (False) | .ret => retQ Try.prog Try.f5.results R .ret [] r w | _ => False) h (by kernel_rfl) ?_
        intro e _ r w h
        cases e with
        | normal =>
          obtain ⟨s, hs, h⟩ := glacierlaw3_NetPlays_p2_ok _ _ h
          rw [← hs]
          exact hK3 s r w h
        | exit i =>
          rcases exitQ_elim h with ⟨rfl, h⟩ | ⟨_, h⟩
          · obtain ⟨s, hs, h⟩ := glacierlaw3_NetPlays_p1_ok _ _ h
            rw [← hs]
            exact hX2 s r w h
          exact h.elim
        | ret => exact h
        | goto i => exact h.elim
        | panic c => exact h.elim
        | outgrown => exact h.elim
      · intro e _ r w hne h
        cases e with
        | normal => exact absurd rfl hne
        | exit i => exact h.elim
        | ret => exact h
        | goto i => exact h.elim
        | panic c => exact h.elim
        | outgrown => exact h.elim
  · intro e _ r w hne h
    cases e with
    | normal => exact absurd rfl hne
    | exit i => exact h.elim
    | ret => exact h
    | goto i => exact h.elim
    | panic c => exact h.elim
    | outgrown => exact h.elim

/- slices.SortFunc[[]glacier/net.Link,glacier/net.Link] -/
def slices_SortFunc_s_net_Link_net_Link_b0 (x : Option Addr) (x_n : Nat) (x_c : Nat) (cmp : Value) (R : Value → World → Prop) (w : World) : Prop :=
  CallR Try.prog fn_math_bits_Len #[(.int .u64 (IntKind.wrap .u64 (x_n : Int)))] w fun res w_ =>
  mInt .i64 res fun v =>
  CallR Try.prog fn_slices_pdqsortCmpFunc_net_Link #[(.slice x x_n x_c), (.int .i64 0), (.int .i64 (x_n : Int)), (.int .i64 v), cmp] w_ fun res1 w_1 =>
  mTup res1 fun l =>
  mNil l (
  R (.tuple #[]) w_1)

theorem slices_SortFunc_s_net_Link_net_Link_sound (x : Option Addr) (x_n : Nat) (x_c : Nat) (cmp : Value) (R : Value → World → Prop) (w : World) (h : slices_SortFunc_s_net_Link_net_Link_b0 x x_n x_c cmp R w) :
    CallR Try.prog fn_slices_SortFunc_s_net_Link_net_Link #[(.slice x x_n x_c), cmp] w R := by
  refine CallR_intro (args := [(.slice x x_n x_c), cmp]) Try.func35 rfl (Nat.le_of_ble_eq_true (by kernel_rfl)) ?_
  refine Wp_leaf_end (Q0 := fun e _ r w => match e with | .normal => retQ Try.prog Try.f35.results R .normal [] r w | .exit _ => False | .ret => retQ Try.prog Try.f35.results R .ret [] r w | _ => False) h (by kernel_rfl) ?_
  intro e _ r w h
  cases e with
  | normal => exact h
  | exit i => exact h.elim
  | ret => exact h
  | goto i => exact h.elim
  | panic c => exact h.elim
  | outgrown => exact h.elim

/- math/bits.Len -/
def math_bits_Len_b0 (x : Int) (R : Value → World → Prop) (w : World) : Prop :=
  CallR Try.prog fn_math_bits_Len64 #[(.int .u64 x)] w fun res w_ =>
  mInt .i64 res fun v =>
  R (.int .i64 v) w_

theorem math_bits_Len_sound (x : Int) (R : Value → World → Prop) (w : World) (h : math_bits_Len_b0 x R w) :
    CallR Try.prog fn_math_bits_Len #[(.int .u64 x)] w R := by
  refine CallR_intro (args := [(.int .u64 x)]) Try.func40 rfl (Nat.le_of_ble_eq_true (by kernel_rfl)) ?_
  refine Wp_leaf_end (Q0 := fun e _ r w => match e with | .normal => retQ Try.prog Try.f40.results R .normal [] r w | .exit _ => False | .ret => retQ Try.prog Try.f40.results R .ret [] r w | _ => False) h (by kernel_rfl) ?_
  intro e _ r w h
  cases e with
  | normal => exact h
  | exit i => exact h.elim
  | ret => exact h
  | goto i => exact h.elim
  | panic c => exact h.elim
  | outgrown => exact h.elim

/- math/bits.Len64 -/
def math_bits_Len64_b0 (x2 : Int) (n1 : Int) (R : Value → World → Prop) (w : World) : Prop :=
  Br (decide (x2 ≥ 256)) (
  Req (0 ≤ (8 : Int)) (
  SIX (ByteArray.mk #[0, 1, 2, 2, 3, 3, 3, 3, 4, 4, 4, 4, 4, 4, 4, 4, 5, 5, 5, 5, 5, 5, 5, 5, 5, 5, 5, 5, 5, 5, 5, 5, 6, 6, 6, 6, 6, 6, 6, 6, 6, 6, 6, 6, 6, 6, 6, 6, 6, 6, 6, 6, 6, 6, 6, 6, 6, 6, 6, 6, 6, 6, 6, 6, 7, 7, 7, 7, 7, 7, 7, 7, 7, 7, 7, 7, 7, 7, 7, 7, 7, 7, 7, 7, 7, 7, 7, 7, 7, 7, 7, 7, 7, 7, 7, 7, 7, 7, 7, 7, 7, 7, 7, 7, 7, 7, 7, 7, 7, 7, 7, 7, 7, 7, 7, 7, 7, 7, 7, 7, 7, 7, 7, 7, 7, 7, 7, 7, 8, 8, 8, 8, 8, 8, 8, 8, 8, 8, 8, 8, 8, 8, 8, 8, 8, 8, 8, 8, 8, 8, 8, 8, 8, 8, 8, 8, 8, 8, 8, 8, 8, 8, 8, 8, 8, 8, 8, 8, 8, 8, 8, 8, 8, 8, 8, 8, 8, 8, 8, 8, 8, 8, 8, 8, 8, 8, 8, 8, 8, 8, 8, 8, 8, 8, 8, 8, 8, 8, 8, 8, 8, 8, 8, 8, 8, 8, 8, 8, 8, 8, 8, 8, 8, 8, 8, 8, 8, 8, 8, 8, 8, 8, 8, 8, 8, 8, 8, 8, 8, 8, 8, 8, 8, 8, 8, 8, 8, 8, 8, 8, 8, 8, 8, 8, 8, 8, 8, 8, 8, 8, 8, 8, 8, 8, 8, 8]) (IntKind.wrap .u8 (Int.fdiv x2 (2 ^ (min (Int.toNat 8) (IntKind.bits .u64))))) fun c =>
  R (.int .i64 (IntKind.wrap .i64 ((IntKind.wrap .i64 (n1 + 8)) + (IntKind.wrap .i64 (UInt8.toNat c : Int))))) w)) (
  SIX (ByteArray.mk #[0, 1, 2, 2, 3, 3, 3, 3, 4, 4, 4, 4, 4, 4, 4, 4, 5, 5, 5, 5, 5, 5, 5, 5, 5, 5, 5, 5, 5, 5, 5, 5, 6, 6, 6, 6, 6, 6, 6, 6, 6, 6, 6, 6, 6, 6, 6, 6, 6, 6, 6, 6, 6, 6, 6, 6, 6, 6, 6, 6, 6, 6, 6, 6, 7, 7, 7, 7, 7, 7, 7, 7, 7, 7, 7, 7, 7, 7, 7, 7, 7, 7, 7, 7, 7, 7, 7, 7, 7, 7, 7, 7, 7, 7, 7, 7, 7, 7, 7, 7, 7, 7, 7, 7, 7, 7, 7, 7, 7, 7, 7, 7, 7, 7, 7, 7, 7, 7, 7, 7, 7, 7, 7, 7, 7, 7, 7, 7, 8, 8, 8, 8, 8, 8, 8, 8, 8, 8, 8, 8, 8, 8, 8, 8, 8, 8, 8, 8, 8, 8, 8, 8, 8, 8, 8, 8, 8, 8, 8, 8, 8, 8, 8, 8, 8, 8, 8, 8, 8, 8, 8, 8, 8, 8, 8, 8, 8, 8, 8, 8, 8, 8, 8, 8, 8, 8, 8, 8, 8, 8, 8, 8, 8, 8, 8, 8, 8, 8, 8, 8, 8, 8, 8, 8, 8, 8, 8, 8, 8, 8, 8, 8, 8, 8, 8, 8, 8, 8, 8, 8, 8, 8, 8, 8, 8, 8, 8, 8, 8, 8, 8, 8, 8, 8, 8, 8, 8, 8, 8, 8, 8, 8, 8, 8, 8, 8, 8, 8, 8, 8, 8, 8, 8, 8, 8, 8]) (IntKind.wrap .u8 x2) fun c1 =>
  R (.int .i64 (IntKind.wrap .i64 (n1 + (IntKind.wrap .i64 (UInt8.toNat c1 : Int))))) w)

def math_bits_Len64_b1 (x1 : Int) (n : Int) (R : Value → World → Prop) (w : World) : Prop :=
  Br (decide (x1 ≥ 65536)) (
  Req (0 ≤ (16 : Int)) (
  math_bits_Len64_b0 (Int.fdiv x1 (2 ^ (min (Int.toNat 16) (IntKind.bits .u64)))) (IntKind.wrap .i64 (n + 16)) R w)) (
  math_bits_Len64_b0 x1 n R w)

def math_bits_Len64_b2 (x : Int) (R : Value → World → Prop) (w : World) : Prop :=
  Br (decide (x ≥ 4294967296)) (
  Req (0 ≤ (32 : Int)) (
  math_bits_Len64_b1 (Int.fdiv x (2 ^ (min (Int.toNat 32) (IntKind.bits .u64)))) 32 R w)) (
  math_bits_Len64_b1 x 0 R w)

def math_bits_Len64_p0 : Point (Int × Int) := { slots := fun s => [(0, (.int .u64 s.1)), (2, (.int .i64 s.2))], dec := fun r K => mInt .u64 (r 0) fun x => mInt .i64 (r 2) fun x1 => K (x, x1) }
theorem math_bits_Len64_p0_ok : math_bits_Len64_p0.ok := by
  intro r K h
  unfold math_bits_Len64_p0 at h
  obtain ⟨x, e0, h⟩ := mInt_elim h
  obtain ⟨x1, e1, h⟩ := mInt_elim h
  exact ⟨(x, x1), regsOf_self (L := [(0, (.int .u64 x)), (2, (.int .i64 x1))]) (List.forall_mem_cons.2 ⟨e0, List.forall_mem_cons.2 ⟨e1, List.forall_mem_nil _⟩⟩), h⟩
theorem math_bits_Len64_p0_re (s : Int × Int) (r : Regs) (K : (Int × Int) → Prop) (h : K s) : math_bits_Len64_p0.dec (regsOf (math_bits_Len64_p0.slots s) r) K := by
  obtain ⟨x2, x3⟩ := s
  exact cast (show K (x2, x3) = math_bits_Len64_p0.dec (regsOf (math_bits_Len64_p0.slots (x2, x3)) r) K by kernel_rfl) h

def math_bits_Len64_p1 : Point (Int × Int) := { slots := fun s => [(0, (.int .u64 s.1)), (2, (.int .i64 s.2))], dec := fun r K => mInt .u64 (r 0) fun x => mInt .i64 (r 2) fun x1 => K (x, x1) }
theorem math_bits_Len64_p1_ok : math_bits_Len64_p1.ok := by
  intro r K h
  unfold math_bits_Len64_p1 at h
  obtain ⟨x, e0, h⟩ := mInt_elim h
  obtain ⟨x1, e1, h⟩ := mInt_elim h
  exact ⟨(x, x1), regsOf_self (L := [(0, (.int .u64 x)), (2, (.int .i64 x1))]) (List.forall_mem_cons.2 ⟨e0, List.forall_mem_cons.2 ⟨e1, List.forall_mem_nil _⟩⟩), h⟩
theorem math_bits_Len64_p1_re (s : Int × Int) (r : Regs) (K : (Int × Int) → Prop) (h : K s) : math_bits_Len64_p1.dec (regsOf (math_bits_Len64_p1.slots s) r) K := by
  obtain ⟨x2, x3⟩ := s
  exact cast (show K (x2, x3) = math_bits_Len64_p1.dec (regsOf (math_bits_Len64_p1.slots (x2, x3)) r) K by kernel_rfl) h

theorem math_bits_Len64_sound (x : Int) (R : Value → World → Prop) (w : World) (h : math_bits_Len64_b2 x R w) :
    CallR Try.prog fn_math_bits_Len64 #[(.int .u64 x)] w R := by
  refine CallR_intro (args := [(.int .u64 x)]) Try.func51 rfl (Nat.le_of_ble_eq_true (by kernel_rfl)) ?_
  refine Wp_glue math_bits_Len64_p0 (fun s w => math_bits_Len64_b1 s.1 s.2 R w) [_, _] (Q0 := fun e _ r w => match e with | .normal => math_bits_Len64_p0.dec r (fun s => math_bits_Len64_b1 s.1 s.2 R w) | .exit _ => False | .ret => retQ Try.prog Try.f51.results R .ret [] r w | _ => False) h (by kernel_rfl) (fun s r w h => ?_) math_bits_Len64_p0_ok (fun _ _ _ h => h) ?_
  · obtain ⟨x1, n⟩ := s
    have h : math_bits_Len64_b1 x1 n R w := h
    refine Wp_glue math_bits_Len64_p1 (fun s w => math_bits_Len64_b0 s.1 s.2 R w) [_] (Q0 := fun e _ r w => match e with | .normal => math_bits_Len64_p1.dec r (fun s => math_bits_Len64_b0 s.1 s.2 R w) | .exit _ => False | .ret => retQ Try.prog Try.f51.results R .ret [] r w | _ => False) h (by kernel_rfl) (fun s r w h => ?_) math_bits_Len64_p1_ok (fun _ _ _ h => h) ?_
    · obtain ⟨x2, n1⟩ := s
      have h : math_bits_Len64_b0 x2 n1 R w := h
      refine Wp_leaf_end (Q0 := fun e _ r w => match e with | .normal => retQ Try.prog Try.f51.results R .normal [] r w | .exit _ => False | .ret => retQ Try.prog Try.f51.results R .ret [] r w | _ => False) h (by kernel_rfl) ?_
      intro e _ r w h
      cases e with
      | normal => exact h
      | exit i => exact h.elim
      | ret => exact h
      | goto i => exact h.elim
      | panic c => exact h.elim
      | outgrown => exact h.elim
    · intro e _ r w hne h
      cases e with
      | normal => exact absurd rfl hne
      | exit i => exact h.elim
      | ret => exact h
      | goto i => exact h.elim
      | panic c => exact h.elim
      | outgrown => exact h.elim
  · intro e _ r w hne h
    cases e with
    | normal => exact absurd rfl hne
    | exit i => exact h.elim
    | ret => exact h
    | goto i => exact h.elim
    | panic c => exact h.elim
    | outgrown => exact h.elim

/- slices.pdqsortCmpFunc[glacier/net.Link] -/
def slices_pdqsortCmpFunc_net_Link_b0 (data5 : Option Addr) (data_n5 : Nat) (data_c5 : Nat) (a5 : Int) (b5 : Int) (limit5 : Int) (cmp5 : Value) (wasBalanced4 : Bool) (wasPartitioned4 : Bool) (length2 : Int) (pivot1 : Int) (K0 : ((Option Addr) × Nat × Nat × Int × Int × Int × Value × Bool × Bool) → World → Prop) (w : World) : Prop :=
  LetW (World.drew w) fun w_6 =>
  Br (decide (a5 > 0)) (
  IX data5 data_n5 (IntKind.wrap .i64 (a5 - 1)) 3 fun a6 =>
  LDI .i64 w_6 a6 fun From =>
  LDI .i64 w_6 (Addr.add a6 1) fun To =>
  LDI .i64 w_6 (Addr.add a6 2) fun Count =>
  IX data5 data_n5 pivot1 3 fun a7 =>
  LDI .i64 w_6 a7 fun From1 =>
  LDI .i64 w_6 (Addr.add a7 1) fun To1 =>
  LDI .i64 w_6 (Addr.add a7 2) fun Count1 =>
  CallV Try.prog cmp5 [(.agg #[(.int .i64 From), (.int .i64 To), (.int .i64 Count)]), (.agg #[(.int .i64 From1), (.int .i64 To1), (.int .i64 Count1)])] w_6 fun res6 w_7 =>
  mInt .i64 res6 fun v5 =>
  (w_7 = w_7 ∧ 
  Br (!(decide (v5 < 0))) (
  CallR Try.prog fn_slices_partitionEqualCmpFunc_net_Link #[(.slice data5 data_n5 data_c5), (.int .i64 a5), (.int .i64 b5), (.int .i64 pivot1), cmp5] w_7 fun res7 w_8 =>
  mInt .i64 res7 fun v6 =>
  K0 (data5, data_n5, data_c5, v6, b5, limit5, cmp5, wasBalanced4, wasPartitioned4) w_8) (
  CallR Try.prog fn_slices_partitionCmpFunc_net_Link #[(.slice data5 data_n5 data_c5), (.int .i64 a5), (.int .i64 b5), (.int .i64 pivot1), cmp5] w_7 fun res8 w_9 =>
  mTup res8 fun l7 =>
  mCons l7 fun v7 l8 =>
  mInt .i64 v7 fun v8 =>
  mCons l8 fun v9 l9 =>
  mBool v9 fun v10 =>
  mNil l9 (
  Req ((8 : Int) ≠ 0) (
  Br (decide ((IntKind.wrap .i64 (v8 - a5)) < (IntKind.wrap .i64 (b5 - v8)))) (
  CallR Try.prog fn_slices_pdqsortCmpFunc_net_Link #[(.slice data5 data_n5 data_c5), (.int .i64 a5), (.int .i64 v8), (.int .i64 limit5), cmp5] w_9 fun res9 w_10 =>
  mTup res9 fun l10 =>
  mNil l10 (
  K0 (data5, data_n5, data_c5, IntKind.wrap .i64 (v8 + 1), b5, limit5, cmp5, decide ((IntKind.wrap .i64 (v8 - a5)) ≥ (IntKind.wrap .i64 (Int.tdiv length2 8))), v10) w_10)) (
  CallR Try.prog fn_slices_pdqsortCmpFunc_net_Link #[(.slice data5 data_n5 data_c5), (.int .i64 (IntKind.wrap .i64 (v8 + 1))), (.int .i64 b5), (.int .i64 limit5), cmp5] w_9 fun res10 w_11 =>
  mTup res10 fun l11 =>
  mNil l11 (
  K0 (data5, data_n5, data_c5, a5, v8, limit5, cmp5, decide ((IntKind.wrap .i64 (b5 - v8)) ≥ (IntKind.wrap .i64 (Int.tdiv length2 8))), v10) w_11))))))) (
  CallR Try.prog fn_slices_partitionCmpFunc_net_Link #[(.slice data5 data_n5 data_c5), (.int .i64 a5), (.int .i64 b5), (.int .i64 pivot1), cmp5] w_6 fun res11 w_12 =>
  mTup res11 fun l12 =>
  mCons l12 fun v11 l13 =>
  mInt .i64 v11 fun v12 =>
  mCons l13 fun v13 l14 =>
  mBool v13 fun v14 =>
  mNil l14 (
  Req ((8 : Int) ≠ 0) (
  Br (decide ((IntKind.wrap .i64 (v12 - a5)) < (IntKind.wrap .i64 (b5 - v12)))) (
  CallR Try.prog fn_slices_pdqsortCmpFunc_net_Link #[(.slice data5 data_n5 data_c5), (.int .i64 a5), (.int .i64 v12), (.int .i64 limit5), cmp5] w_12 fun res12 w_13 =>
  mTup res12 fun l15 =>
  mNil l15 (
  K0 (data5, data_n5, data_c5, IntKind.wrap .i64 (v12 + 1), b5, limit5, cmp5, decide ((IntKind.wrap .i64 (v12 - a5)) ≥ (IntKind.wrap .i64 (Int.tdiv length2 8))), v14) w_13)) (
  CallR Try.prog fn_slices_pdqsortCmpFunc_net_Link #[(.slice data5 data_n5 data_c5), (.int .i64 (IntKind.wrap .i64 (v12 + 1))), (.int .i64 b5), (.int .i64 limit5), cmp5] w_12 fun res13 w_14 =>
  mTup res13 fun l16 =>
  mNil l16 (
  K0 (data5, data_n5, data_c5, a5, v12, limit5, cmp5, decide ((IntKind.wrap .i64 (b5 - v12)) ≥ (IntKind.wrap .i64 (Int.tdiv length2 8))), v14) w_14)))))

def slices_pdqsortCmpFunc_net_Link_b1 (data4 : Option Addr) (data_n4 : Nat) (data_c4 : Nat) (a4 : Int) (b4 : Int) (limit4 : Int) (cmp4 : Value) (wasBalanced3 : Bool) (wasPartitioned3 : Bool) (length1 : Int) (pivot : Int) (hint : Int) (K0 : ((Option Addr) × Nat × Nat × Int × Int × Int × Value × Bool × Bool) → World → Prop) (R : Value → World → Prop) (w : World) : Prop :=
  Br wasBalanced3 (
  Br wasPartitioned3 (
  Br (hint == 1) (
  CallR Try.prog fn_slices_partialInsertionSortCmpFunc_net_Link #[(.slice data4 data_n4 data_c4), (.int .i64 a4), (.int .i64 b4), cmp4] w fun res5 w_5 =>
  mBool res5 fun v4 =>
  Br v4 (
  R (.tuple #[]) w_5) (
  slices_pdqsortCmpFunc_net_Link_b0 data4 data_n4 data_c4 a4 b4 limit4 cmp4 wasBalanced3 wasPartitioned3 length1 pivot K0 w_5)) (
  slices_pdqsortCmpFunc_net_Link_b0 data4 data_n4 data_c4 a4 b4 limit4 cmp4 wasBalanced3 wasPartitioned3 length1 pivot K0 w)) (
  slices_pdqsortCmpFunc_net_Link_b0 data4 data_n4 data_c4 a4 b4 limit4 cmp4 wasBalanced3 wasPartitioned3 length1 pivot K0 w)) (
  slices_pdqsortCmpFunc_net_Link_b0 data4 data_n4 data_c4 a4 b4 limit4 cmp4 wasBalanced3 wasPartitioned3 length1 pivot K0 w)

def slices_pdqsortCmpFunc_net_Link_b2 (data3 : Option Addr) (data_n3 : Nat) (data_c3 : Nat) (a3 : Int) (b3 : Int) (limit3 : Int) (cmp3 : Value) (wasBalanced2 : Bool) (wasPartitioned2 : Bool) (length : Int) (K0 : ((Option Addr) × Nat × Nat × Int × Int × Int × Value × Bool × Bool) → World → Prop) (R : Value → World → Prop) (w : World) : Prop :=
  CallR Try.prog fn_slices_choosePivotCmpFunc_net_Link #[(.slice data3 data_n3 data_c3), (.int .i64 a3), (.int .i64 b3), cmp3] w fun res3 w_3 =>
  mTup res3 fun l3 =>
  mCons l3 fun v l4 =>
  mInt .i64 v fun v1 =>
  mCons l4 fun v2 l5 =>
  mInt .i64 v2 fun v3 =>
  mNil l5 (
  Br (v3 == 2) (
  CallR Try.prog fn_slices_reverseRangeCmpFunc_net_Link #[(.slice data3 data_n3 data_c3), (.int .i64 a3), (.int .i64 b3), cmp3] w_3 fun res4 w_4 =>
  mTup res4 fun l6 =>
  mNil l6 (
  slices_pdqsortCmpFunc_net_Link_b1 data3 data_n3 data_c3 a3 b3 limit3 cmp3 wasBalanced2 wasPartitioned2 length (IntKind.wrap .i64 ((IntKind.wrap .i64 (b3 - 1)) - (IntKind.wrap .i64 (v1 - a3)))) 1 K0 R w_4)) (
  slices_pdqsortCmpFunc_net_Link_b1 data3 data_n3 data_c3 a3 b3 limit3 cmp3 wasBalanced2 wasPartitioned2 length v1 v3 K0 R w_3))

def slices_pdqsortCmpFunc_net_Link_b3 (data2 : Option Addr) (data_n2 : Nat) (data_c2 : Nat) (a2 : Int) (b2 : Int) (limit2 : Int) (cmp2 : Value) (wasBalanced1 : Bool) (wasPartitioned1 : Bool) (K0 : ((Option Addr) × Nat × Nat × Int × Int × Int × Value × Bool × Bool) → World → Prop) (R : Value → World → Prop) (w : World) : Prop :=
  Br (decide ((IntKind.wrap .i64 (b2 - a2)) ≤ 12)) (
  CallR Try.prog fn_slices_insertionSortCmpFunc_net_Link #[(.slice data2 data_n2 data_c2), (.int .i64 a2), (.int .i64 b2), cmp2] w fun res w_ =>
  mTup res fun l =>
  mNil l (
  R (.tuple #[]) w_)) (
  Br (limit2 == 0) (
  CallR Try.prog fn_slices_heapSortCmpFunc_net_Link #[(.slice data2 data_n2 data_c2), (.int .i64 a2), (.int .i64 b2), cmp2] w fun res1 w_1 =>
  mTup res1 fun l1 =>
  mNil l1 (
  R (.tuple #[]) w_1)) (
  Br (!wasBalanced1) (
  CallR Try.prog fn_slices_breakPatternsCmpFunc_net_Link #[(.slice data2 data_n2 data_c2), (.int .i64 a2), (.int .i64 b2), cmp2] w fun res2 w_2 =>
  mTup res2 fun l2 =>
  mNil l2 (
  slices_pdqsortCmpFunc_net_Link_b2 data2 data_n2 data_c2 a2 b2 (IntKind.wrap .i64 (limit2 - 1)) cmp2 wasBalanced1 wasPartitioned1 (IntKind.wrap .i64 (b2 - a2)) K0 R w_2)) (
  slices_pdqsortCmpFunc_net_Link_b2 data2 data_n2 data_c2 a2 b2 limit2 cmp2 wasBalanced1 wasPartitioned1 (IntKind.wrap .i64 (b2 - a2)) K0 R w)))

def slices_pdqsortCmpFunc_net_Link_b4 (data1 : Option Addr) (data_n1 : Nat) (data_c1 : Nat) (a1 : Int) (b1 : Int) (limit1 : Int) (cmp1 : Value) (wasBalanced : Bool) (wasPartitioned : Bool) (R : Value → World → Prop) (w : World) : Prop :=
  LoopS (σ := (Option Addr) × Nat × Nat × Int × Int × Int × Value × Bool × Bool) (fun s w K0 =>
  slices_pdqsortCmpFunc_net_Link_b3 s.1 s.2.1 s.2.2.1 s.2.2.2.1 s.2.2.2.2.1 s.2.2.2.2.2.1 s.2.2.2.2.2.2.1 s.2.2.2.2.2.2.2.1 s.2.2.2.2.2.2.2.2 K0 R w) (data1, data_n1, data_c1, a1, b1, limit1, cmp1, wasBalanced, wasPartitioned) w

def slices_pdqsortCmpFunc_net_Link_b5 (data : Option Addr) (data_n : Nat) (data_c : Nat) (a : Int) (b : Int) (limit : Int) (cmp : Value) (R : Value → World → Prop) (w : World) : Prop :=
  slices_pdqsortCmpFunc_net_Link_b4 data data_n data_c a b limit cmp true true R w

def slices_pdqsortCmpFunc_net_Link_p0 : Point ((Option Addr) × Nat × Nat × Int × Int × Int × Value × Bool × Bool) := { slots := fun s => [(0, (.slice s.1 s.2.1 s.2.2.1)), (1, (.int .i64 s.2.2.2.1)), (2, (.int .i64 s.2.2.2.2.1)), (3, (.int .i64 s.2.2.2.2.2.1)), (4, s.2.2.2.2.2.2.1), (10, (.bool s.2.2.2.2.2.2.2.1)), (11, (.bool s.2.2.2.2.2.2.2.2))], dec := fun r K => mSlice (r 0) fun x x1 x2 => mInt .i64 (r 1) fun x3 => mInt .i64 (r 2) fun x4 => mInt .i64 (r 3) fun x5 => mBool (r 10) fun x6 => mBool (r 11) fun x7 => K (x, x1, x2, x3, x4, x5, (r 4), x6, x7) }
theorem slices_pdqsortCmpFunc_net_Link_p0_ok : slices_pdqsortCmpFunc_net_Link_p0.ok := by
  intro r K h
  unfold slices_pdqsortCmpFunc_net_Link_p0 at h
  obtain ⟨x, x1, x2, e0, h⟩ := mSlice_elim h
  obtain ⟨x3, e1, h⟩ := mInt_elim h
  obtain ⟨x4, e2, h⟩ := mInt_elim h
  obtain ⟨x5, e3, h⟩ := mInt_elim h
  obtain ⟨x6, e5, h⟩ := mBool_elim h
  obtain ⟨x7, e6, h⟩ := mBool_elim h
  exact ⟨(x, x1, x2, x3, x4, x5, (r 4), x6, x7), regsOf_self (L := [(0, (.slice x x1 x2)), (1, (.int .i64 x3)), (2, (.int .i64 x4)), (3, (.int .i64 x5)), (4, (r 4)), (10, (.bool x6)), (11, (.bool x7))]) (List.forall_mem_cons.2 ⟨e0, List.forall_mem_cons.2 ⟨e1, List.forall_mem_cons.2 ⟨e2, List.forall_mem_cons.2 ⟨e3, List.forall_mem_cons.2 ⟨rfl, List.forall_mem_cons.2 ⟨e5, List.forall_mem_cons.2 ⟨e6, List.forall_mem_nil _⟩⟩⟩⟩⟩⟩⟩), h⟩
theorem slices_pdqsortCmpFunc_net_Link_p0_re (s : (Option Addr) × Nat × Nat × Int × Int × Int × Value × Bool × Bool) (r : Regs) (K : ((Option Addr) × Nat × Nat × Int × Int × Int × Value × Bool × Bool) → Prop) (h : K s) : slices_pdqsortCmpFunc_net_Link_p0.dec (regsOf (slices_pdqsortCmpFunc_net_Link_p0.slots s) r) K := by
  obtain ⟨x8, x9, x10, x11, x12, x13, x14, x15, x16⟩ := s
  exact cast (show K (x8, x9, x10, x11, x12, x13, x14, x15, x16) = slices_pdqsortCmpFunc_net_Link_p0.dec (regsOf (slices_pdqsortCmpFunc_net_Link_p0.slots (x8, x9, x10, x11, x12, x13, x14, x15, x16)) r) K by kernel_rfl) h

def slices_pdqsortCmpFunc_net_Link_p1 : Point ((Option Addr) × Nat × Nat × Int × Int × Int × Value × Bool × Bool × Int) := { slots := fun s => [(0, (.slice s.1 s.2.1 s.2.2.1)), (1, (.int .i64 s.2.2.2.1)), (2, (.int .i64 s.2.2.2.2.1)), (3, (.int .i64 s.2.2.2.2.2.1)), (4, s.2.2.2.2.2.2.1), (10, (.bool s.2.2.2.2.2.2.2.1)), (11, (.bool s.2.2.2.2.2.2.2.2.1)), (12, (.int .i64 s.2.2.2.2.2.2.2.2.2))], dec := fun r K => mSlice (r 0) fun x x1 x2 => mInt .i64 (r 1) fun x3 => mInt .i64 (r 2) fun x4 => mInt .i64 (r 3) fun x5 => mBool (r 10) fun x6 => mBool (r 11) fun x7 => mInt .i64 (r 12) fun x8 => K (x, x1, x2, x3, x4, x5, (r 4), x6, x7, x8) }
theorem slices_pdqsortCmpFunc_net_Link_p1_ok : slices_pdqsortCmpFunc_net_Link_p1.ok := by
  intro r K h
  unfold slices_pdqsortCmpFunc_net_Link_p1 at h
  obtain ⟨x, x1, x2, e0, h⟩ := mSlice_elim h
  obtain ⟨x3, e1, h⟩ := mInt_elim h
  obtain ⟨x4, e2, h⟩ := mInt_elim h
  obtain ⟨x5, e3, h⟩ := mInt_elim h
  obtain ⟨x6, e5, h⟩ := mBool_elim h
  obtain ⟨x7, e6, h⟩ := mBool_elim h
  obtain ⟨x8, e7, h⟩ := mInt_elim h
  exact ⟨(x, x1, x2, x3, x4, x5, (r 4), x6, x7, x8), regsOf_self (L := [(0, (.slice x x1 x2)), (1, (.int .i64 x3)), (2, (.int .i64 x4)), (3, (.int .i64 x5)), (4, (r 4)), (10, (.bool x6)), (11, (.bool x7)), (12, (.int .i64 x8))]) (List.forall_mem_cons.2 ⟨e0, List.forall_mem_cons.2 ⟨e1, List.forall_mem_cons.2 ⟨e2, List.forall_mem_cons.2 ⟨e3, List.forall_mem_cons.2 ⟨rfl, List.forall_mem_cons.2 ⟨e5, List.forall_mem_cons.2 ⟨e6, List.forall_mem_cons.2 ⟨e7, List.forall_mem_nil _⟩⟩⟩⟩⟩⟩⟩⟩), h⟩
theorem slices_pdqsortCmpFunc_net_Link_p1_re (s : (Option Addr) × Nat × Nat × Int × Int × Int × Value × Bool × Bool × Int) (r : Regs) (K : ((Option Addr) × Nat × Nat × Int × Int × Int × Value × Bool × Bool × Int) → Prop) (h : K s) : slices_pdqsortCmpFunc_net_Link_p1.dec (regsOf (slices_pdqsortCmpFunc_net_Link_p1.slots s) r) K := by
  obtain ⟨x9, x10, x11, x12, x13, x14, x15, x16, x17, x18⟩ := s
  exact cast (show K (x9, x10, x11, x12, x13, x14, x15, x16, x17, x18) = slices_pdqsortCmpFunc_net_Link_p1.dec (regsOf (slices_pdqsortCmpFunc_net_Link_p1.slots (x9, x10, x11, x12, x13, x14, x15, x16, x17, x18)) r) K by kernel_rfl) h

def slices_pdqsortCmpFunc_net_Link_p2 : Point ((Option Addr) × Nat × Nat × Int × Int × Int × Value × Bool × Bool × Int × Int × Int) := { slots := fun s => [(0, (.slice s.1 s.2.1 s.2.2.1)), (1, (.int .i64 s.2.2.2.1)), (2, (.int .i64 s.2.2.2.2.1)), (3, (.int .i64 s.2.2.2.2.2.1)), (4, s.2.2.2.2.2.2.1), (10, (.bool s.2.2.2.2.2.2.2.1)), (11, (.bool s.2.2.2.2.2.2.2.2.1)), (12, (.int .i64 s.2.2.2.2.2.2.2.2.2.1)), (13, (.int .i64 s.2.2.2.2.2.2.2.2.2.2.1)), (14, (.int .i64 s.2.2.2.2.2.2.2.2.2.2.2))], dec := fun r K => mSlice (r 0) fun x x1 x2 => mInt .i64 (r 1) fun x3 => mInt .i64 (r 2) fun x4 => mInt .i64 (r 3) fun x5 => mBool (r 10) fun x6 => mBool (r 11) fun x7 => mInt .i64 (r 12) fun x8 => mInt .i64 (r 13) fun x9 => mInt .i64 (r 14) fun x10 => K (x, x1, x2, x3, x4, x5, (r 4), x6, x7, x8, x9, x10) }
theorem slices_pdqsortCmpFunc_net_Link_p2_ok : slices_pdqsortCmpFunc_net_Link_p2.ok := by
  intro r K h
  unfold slices_pdqsortCmpFunc_net_Link_p2 at h
  obtain ⟨x, x1, x2, e0, h⟩ := mSlice_elim h
  obtain ⟨x3, e1, h⟩ := mInt_elim h
  obtain ⟨x4, e2, h⟩ := mInt_elim h
  obtain ⟨x5, e3, h⟩ := mInt_elim h
  obtain ⟨x6, e5, h⟩ := mBool_elim h
  obtain ⟨x7, e6, h⟩ := mBool_elim h
  obtain ⟨x8, e7, h⟩ := mInt_elim h
  obtain ⟨x9, e8, h⟩ := mInt_elim h
  obtain ⟨x10, e9, h⟩ := mInt_elim h
  exact ⟨(x, x1, x2, x3, x4, x5, (r 4), x6, x7, x8, x9, x10), regsOf_self (L := [(0, (.slice x x1 x2)), (1, (.int .i64 x3)), (2, (.int .i64 x4)), (3, (.int .i64 x5)), (4, (r 4)), (10, (.bool x6)), (11, (.bool x7)), (12, (.int .i64 x8)), (13, (.int .i64 x9)), (14, (.int .i64 x10))]) (List.forall_mem_cons.2 ⟨e0, List.forall_mem_cons.2 ⟨e1, List.forall_mem_cons.2 ⟨e2, List.forall_mem_cons.2 ⟨e3, List.forall_mem_cons.2 ⟨rfl, List.forall_mem_cons.2 ⟨e5, List.forall_mem_cons.2 ⟨e6, List.forall_mem_cons.2 ⟨e7, List.forall_mem_cons.2 ⟨e8, List.forall_mem_cons.2 ⟨e9, List.forall_mem_nil _⟩⟩⟩⟩⟩⟩⟩⟩⟩⟩), h⟩
theorem slices_pdqsortCmpFunc_net_Link_p2_re (s : (Option Addr) × Nat × Nat × Int × Int × Int × Value × Bool × Bool × Int × Int × Int) (r : Regs) (K : ((Option Addr) × Nat × Nat × Int × Int × Int × Value × Bool × Bool × Int × Int × Int) → Prop) (h : K s) : slices_pdqsortCmpFunc_net_Link_p2.dec (regsOf (slices_pdqsortCmpFunc_net_Link_p2.slots s) r) K := by
  obtain ⟨x11, x12, x13, x14, x15, x16, x17, x18, x19, x20, x21, x22⟩ := s
  exact cast (show K (x11, x12, x13, x14, x15, x16, x17, x18, x19, x20, x21, x22) = slices_pdqsortCmpFunc_net_Link_p2.dec (regsOf (slices_pdqsortCmpFunc_net_Link_p2.slots (x11, x12, x13, x14, x15, x16, x17, x18, x19, x20, x21, x22)) r) K by kernel_rfl) h

def slices_pdqsortCmpFunc_net_Link_p3 : Point ((Option Addr) × Nat × Nat × Int × Int × Int × Value × Bool × Bool × Int × Int) := { slots := fun s => [(0, (.slice s.1 s.2.1 s.2.2.1)), (1, (.int .i64 s.2.2.2.1)), (2, (.int .i64 s.2.2.2.2.1)), (3, (.int .i64 s.2.2.2.2.2.1)), (4, s.2.2.2.2.2.2.1), (10, (.bool s.2.2.2.2.2.2.2.1)), (11, (.bool s.2.2.2.2.2.2.2.2.1)), (12, (.int .i64 s.2.2.2.2.2.2.2.2.2.1)), (13, (.int .i64 s.2.2.2.2.2.2.2.2.2.2))], dec := fun r K => mSlice (r 0) fun x x1 x2 => mInt .i64 (r 1) fun x3 => mInt .i64 (r 2) fun x4 => mInt .i64 (r 3) fun x5 => mBool (r 10) fun x6 => mBool (r 11) fun x7 => mInt .i64 (r 12) fun x8 => mInt .i64 (r 13) fun x9 => K (x, x1, x2, x3, x4, x5, (r 4), x6, x7, x8, x9) }
theorem slices_pdqsortCmpFunc_net_Link_p3_ok : slices_pdqsortCmpFunc_net_Link_p3.ok := by
  intro r K h
  unfold slices_pdqsortCmpFunc_net_Link_p3 at h
  obtain ⟨x, x1, x2, e0, h⟩ := mSlice_elim h
  obtain ⟨x3, e1, h⟩ := mInt_elim h
  obtain ⟨x4, e2, h⟩ := mInt_elim h
  obtain ⟨x5, e3, h⟩ := mInt_elim h
  obtain ⟨x6, e5, h⟩ := mBool_elim h
  obtain ⟨x7, e6, h⟩ := mBool_elim h
  obtain ⟨x8, e7, h⟩ := mInt_elim h
  obtain ⟨x9, e8, h⟩ := mInt_elim h
  exact ⟨(x, x1, x2, x3, x4, x5, (r 4), x6, x7, x8, x9), regsOf_self (L := [(0, (.slice x x1 x2)), (1, (.int .i64 x3)), (2, (.int .i64 x4)), (3, (.int .i64 x5)), (4, (r 4)), (10, (.bool x6)), (11, (.bool x7)), (12, (.int .i64 x8)), (13, (.int .i64 x9))]) (List.forall_mem_cons.2 ⟨e0, List.forall_mem_cons.2 ⟨e1, List.forall_mem_cons.2 ⟨e2, List.forall_mem_cons.2 ⟨e3, List.forall_mem_cons.2 ⟨rfl, List.forall_mem_cons.2 ⟨e5, List.forall_mem_cons.2 ⟨e6, List.forall_mem_cons.2 ⟨e7, List.forall_mem_cons.2 ⟨e8, List.forall_mem_nil _⟩⟩⟩⟩⟩⟩⟩⟩⟩), h⟩
theorem slices_pdqsortCmpFunc_net_Link_p3_re (s : (Option Addr) × Nat × Nat × Int × Int × Int × Value × Bool × Bool × Int × Int) (r : Regs) (K : ((Option Addr) × Nat × Nat × Int × Int × Int × Value × Bool × Bool × Int × Int) → Prop) (h : K s) : slices_pdqsortCmpFunc_net_Link_p3.dec (regsOf (slices_pdqsortCmpFunc_net_Link_p3.slots s) r) K := by
  obtain ⟨x10, x11, x12, x13, x14, x15, x16, x17, x18, x19, x20⟩ := s
  exact cast (show K (x10, x11, x12, x13, x14, x15, x16, x17, x18, x19, x20) = slices_pdqsortCmpFunc_net_Link_p3.dec (regsOf (slices_pdqsortCmpFunc_net_Link_p3.slots (x10, x11, x12, x13, x14, x15, x16, x17, x18, x19, x20)) r) K by kernel_rfl) h

theorem slices_pdqsortCmpFunc_net_Link_sound (data : Option Addr) (data_n : Nat) (data_c : Nat) (a : Int) (b : Int) (limit : Int) (cmp : Value) (R : Value → World → Prop) (w : World) (h : slices_pdqsortCmpFunc_net_Link_b5 data data_n data_c a b limit cmp R w) :
    CallR Try.prog fn_slices_pdqsortCmpFunc_net_Link #[(.slice data data_n data_c), (.int .i64 a), (.int .i64 b), (.int .i64 limit), cmp] w R := by
  refine CallR_intro (args := [(.slice data data_n data_c), (.int .i64 a), (.int .i64 b), (.int .i64 limit), cmp]) Try.func39 rfl (Nat.le_of_ble_eq_true (by kernel_rfl)) ?_
  refine Wp_glue slices_pdqsortCmpFunc_net_Link_p0 (fun s w => slices_pdqsortCmpFunc_net_Link_b4 s.1 s.2.1 s.2.2.1 s.2.2.2.1 s.2.2.2.2.1 s.2.2.2.2.2.1 s.2.2.2.2.2.2.1 s.2.2.2.2.2.2.2.1 s.2.2.2.2.2.2.2.2 R w) [_, _] (Q0 := fun e _ r w => match e with | .normal => slices_pdqsortCmpFunc_net_Link_p0.dec r (fun s => slices_pdqsortCmpFunc_net_Link_b4 s.1 s.2.1 s.2.2.1 s.2.2.2.1 s.2.2.2.2.1 s.2.2.2.2.2.1 s.2.2.2.2.2.2.1 s.2.2.2.2.2.2.2.1 s.2.2.2.2.2.2.2.2 R w) | .exit _ => False | .ret => retQ Try.prog Try.f39.results R .ret [] r w | _ => False) h (by kernel_rfl) (fun s r w h => ?_) slices_pdqsortCmpFunc_net_Link_p0_ok (fun _ _ _ h => h) ?_
  · obtain ⟨data1, data_n1, data_c1, a1, b1, limit1, cmp1, wasBalanced, wasPartitioned⟩ := s
    have h : slices_pdqsortCmpFunc_net_Link_b4 data1 data_n1 data_c1 a1 b1 limit1 cmp1 wasBalanced wasPartitioned R w := h
    refine Wp_block ?_
    refine Wp_loop (p := slices_pdqsortCmpFunc_net_Link_p0) slices_pdqsortCmpFunc_net_Link_p0_ok (fun s r w K0 h => ?_) h
    obtain ⟨data2, data_n2, data_c2, a2, b2, limit2, cmp2, wasBalanced1, wasPartitioned1⟩ := s
    have h : slices_pdqsortCmpFunc_net_Link_b3 data2 data_n2 data_c2 a2 b2 limit2 cmp2 wasBalanced1 wasPartitioned1 K0 R w := h
    have hK2 := fun (s : (Option Addr) × Nat × Nat × Int × Int × Int × Value × Bool × Bool) (r : Regs) (w : World) (h : K0 s w) => slices_pdqsortCmpFunc_net_Link_p0_re s r (fun s => K0 s w) h
    refine Wp_block_via slices_pdqsortCmpFunc_net_Link_p0 (fun s w => K0 s w) hK2 (fun hX3 => ?_)
    refine Wp_glue slices_pdqsortCmpFunc_net_Link_p1 (fun s w => slices_pdqsortCmpFunc_net_Link_b2 s.1 s.2.1 s.2.2.1 s.2.2.2.1 s.2.2.2.2.1 s.2.2.2.2.2.1 s.2.2.2.2.2.2.1 s.2.2.2.2.2.2.2.1 s.2.2.2.2.2.2.2.2.1 s.2.2.2.2.2.2.2.2.2 K0 R w) [_, _, _, _] (Q0 := fun e _ r w => match e with | .normal => slices_pdqsortCmpFunc_net_Link_p1.dec r (fun s => slices_pdqsortCmpFunc_net_Link_b2 s.1 s.2.1 s.2.2.1 s.2.2.2.1 s.2.2.2.2.1 s.2.2.2.2.2.1 s.2.2.2.2.2.2.1 s.2.2.2.2.2.2.2.1 s.2.2.2.2.2.2.2.2.1 s.2.2.2.2.2.2.2.2.2 K0 R w) | .exit i => exitQ i 1 (slices_pdqsortCmpFunc_net_Link_p0.dec r (fun s => K0 s w)) (False) | .ret => retQ Try.prog Try.f39.results R .ret [] r w | _ => False) h (by kernel_rfl) (fun s r w h => ?_) slices_pdqsortCmpFunc_net_Link_p1_ok (fun _ _ _ h => h) ?_
    · obtain ⟨data3, data_n3, data_c3, a3, b3, limit3, cmp3, wasBalanced2, wasPartitioned2, length⟩ := s
      have h : slices_pdqsortCmpFunc_net_Link_b2 data3 data_n3 data_c3 a3 b3 limit3 cmp3 wasBalanced2 wasPartitioned2 length K0 R w := h
      refine Wp_glue slices_pdqsortCmpFunc_net_Link_p2 (fun s w => slices_pdqsortCmpFunc_net_Link_b1 s.1 s.2.1 s.2.2.1 s.2.2.2.1 s.2.2.2.2.1 s.2.2.2.2.2.1 s.2.2.2.2.2.2.1 s.2.2.2.2.2.2.2.1 s.2.2.2.2.2.2.2.2.1 s.2.2.2.2.2.2.2.2.2.1 s.2.2.2.2.2.2.2.2.2.2.1 s.2.2.2.2.2.2.2.2.2.2.2 K0 R w) [_, _] (Q0 := fun e _ r w => match e with | .normal => slices_pdqsortCmpFunc_net_Link_p2.dec r (fun s => slices_pdqsortCmpFunc_net_Link_b1 s.1 s.2.1 s.2.2.1 s.2.2.2.1 s.2.2.2.2.1 s.2.2.2.2.2.1 s.2.2.2.2.2.2.1 s.2.2.2.2.2.2.2.1 s.2.2.2.2.2.2.2.2.1 s.2.2.2.2.2.2.2.2.2.1 s.2.2.2.2.2.2.2.2.2.2.1 s.2.2.2.2.2.2.2.2.2.2.2 K0 R w) | .exit i => exitQ i 1 (slices_pdqsortCmpFunc_net_Link_p0.dec r (fun s => K0 s w)) (False) | .ret => retQ Try.prog Try.f39.results R .ret [] r w | _ => False) h (by kernel_rfl) (fun s r w h => ?_) slices_pdqsortCmpFunc_net_Link_p2_ok (fun _ _ _ h => h) ?_
      · obtain ⟨data4, data_n4, data_c4, a4, b4, limit4, cmp4, wasBalanced3, wasPartitioned3, length1, pivot, hint⟩ := s
        have h : slices_pdqsortCmpFunc_net_Link_b1 data4 data_n4 data_c4 a4 b4 limit4 cmp4 wasBalanced3 wasPartitioned3 length1 pivot hint K0 R w := h
        refine Wp_glue slices_pdqsortCmpFunc_net_Link_p3 (fun s w => slices_pdqsortCmpFunc_net_Link_b0 s.1 s.2.1 s.2.2.1 s.2.2.2.1 s.2.2.2.2.1 s.2.2.2.2.2.1 s.2.2.2.2.2.2.1 s.2.2.2.2.2.2.2.1 s.2.2.2.2.2.2.2.2.1 s.2.2.2.2.2.2.2.2.2.1 s.2.2.2.2.2.2.2.2.2.2 K0 w) [_] (Q0 := fun e _ r w => match e with | .normal => slices_pdqsortCmpFunc_net_Link_p3.dec r (fun s => slices_pdqsortCmpFunc_net_Link_b0 s.1 s.2.1 s.2.2.1 s.2.2.2.1 s.2.2.2.2.1 s.2.2.2.2.2.1 s.2.2.2.2.2.2.1 s.2.2.2.2.2.2.2.1 s.2.2.2.2.2.2.2.2.1 s.2.2.2.2.2.2.2.2.2.1 s.2.2.2.2.2.2.2.2.2.2 K0 w) | .exit i => exitQ i 1 (slices_pdqsortCmpFunc_net_Link_p0.dec r (fun s => K0 s w)) (False) | .ret => retQ Try.prog Try.f39.results R .ret [] r w | _ => False) h (by kernel_rfl) (fun s r w h => ?_) slices_pdqsortCmpFunc_net_Link_p3_ok (fun _ _ _ h => h) ?_
        · obtain ⟨data5, data_n5, data_c5, a5, b5, limit5, cmp5, wasBalanced4, wasPartitioned4, length2, pivot1⟩ := s
          have h : slices_pdqsortCmpFunc_net_Link_b0 data5 data_n5 data_c5 a5 b5 limit5 cmp5 wasBalanced4 wasPartitioned4 length2 pivot1 K0 w := h
          refine Wp_leaf_end (Q0 := fun e _ r w => match e with | .normal => slices_pdqsortCmpFunc_net_Link_p0.dec r (fun s => K0 s w) | .exit i => exitQ i 1 (slices_pdqsortCmpFunc_net_Link_p0.dec r (fun s => K0 s w)) (False) | .ret => retQ Try.prog Try.f39.results R .ret [] r w | _ => False) h (by kernel_rfl) ?_
          intro e _ r w h
          cases e with
          | normal =>
            obtain ⟨s, hs, h⟩ := slices_pdqsortCmpFunc_net_Link_p0_ok _ _ h
            rw [← hs]
            exact hK2 s r w h
          | exit i =>
            rcases exitQ_elim h with ⟨rfl, h⟩ | ⟨_, h⟩
            · obtain ⟨s, hs, h⟩ := slices_pdqsortCmpFunc_net_Link_p0_ok _ _ h
              rw [← hs]
              exact hX3 s r w h
            exact h.elim
          | ret => exact h
          | goto i => exact h.elim
          | panic c => exact h.elim
          | outgrown => exact h.elim
        · intro e _ r w hne h
          cases e with
          | normal => exact absurd rfl hne
          | exit i =>
            rcases exitQ_elim h with ⟨rfl, h⟩ | ⟨_, h⟩
            · obtain ⟨s, hs, h⟩ := slices_pdqsortCmpFunc_net_Link_p0_ok _ _ h
              rw [← hs]
              exact hX3 s r w h
            exact h.elim
          | ret => exact h
          | goto i => exact h.elim
          | panic c => exact h.elim
          | outgrown => exact h.elim
      · intro e _ r w hne h
        cases e with
        | normal => exact absurd rfl hne
        | exit i =>
          rcases exitQ_elim h with ⟨rfl, h⟩ | ⟨_, h⟩
          · obtain ⟨s, hs, h⟩ := slices_pdqsortCmpFunc_net_Link_p0_ok _ _ h
            rw [← hs]
            exact hX3 s r w h
          exact h.elim
        | ret => exact h
        | goto i => exact h.elim
        | panic c => exact h.elim
        | outgrown => exact h.elim
    · intro e _ r w hne h
      cases e with
      | normal => exact absurd rfl hne
      | exit i =>
        rcases exitQ_elim h with ⟨rfl, h⟩ | ⟨_, h⟩
        · obtain ⟨s, hs, h⟩ := slices_pdqsortCmpFunc_net_Link_p0_ok _ _ h
          rw [← hs]
          exact hX3 s r w h
        exact h.elim
      | ret => exact h
      | goto i => exact h.elim
      | panic c => exact h.elim
      | outgrown => exact h.elim
  · intro e _ r w hne h
    cases e with
    | normal => exact absurd rfl hne
    | exit i => exact h.elim
    | ret => exact h
    | goto i => exact h.elim
    | panic c => exact h.elim
    | outgrown => exact h.elim

/- slices.insertionSortCmpFunc[glacier/net.Link] -/
def slices_insertionSortCmpFunc_net_Link_b0 (data6 : Option Addr) (data_n6 : Nat) (data_c6 : Nat) (a12 : Int) (b6 : Int) (cmp6 : Value) (i5 : Int) (K0 : ((Option Addr) × Nat × Nat × Int × Int × Value × Int) → World → Prop) (w : World) : Prop :=
  K0 (data6, data_n6, data_c6, a12, b6, cmp6, IntKind.wrap .i64 (i5 + 1)) w

def slices_insertionSortCmpFunc_net_Link_b1 (data5 : Option Addr) (data_n5 : Nat) (data_c5 : Nat) (a5 : Int) (b5 : Int) (cmp5 : Value) (i4 : Int) (j1 : Int) (K0 : ((Option Addr) × Nat × Nat × Int × Int × Value × Int) → World → Prop) (K1 : ((Option Addr) × Nat × Nat × Int × Int × Value × Int × Int) → World → Prop) (w : World) : Prop :=
  LetW (World.drew w) fun w_ =>
  Br (decide (j1 > a5)) (
  IX data5 data_n5 j1 3 fun a6 =>
  LDI .i64 w_ a6 fun From =>
  LDI .i64 w_ (Addr.add a6 1) fun To =>
  LDI .i64 w_ (Addr.add a6 2) fun Count =>
  IX data5 data_n5 (IntKind.wrap .i64 (j1 - 1)) 3 fun a7 =>
  LDI .i64 w_ a7 fun From1 =>
  LDI .i64 w_ (Addr.add a7 1) fun To1 =>
  LDI .i64 w_ (Addr.add a7 2) fun Count1 =>
  CallV Try.prog cmp5 [(.agg #[(.int .i64 From), (.int .i64 To), (.int .i64 Count)]), (.agg #[(.int .i64 From1), (.int .i64 To1), (.int .i64 Count1)])] w_ fun res w_1 =>
  mInt .i64 res fun v =>
  Br (decide (v < 0)) (
  LetW (World.drew w_1) fun w_2 =>
  IX data5 data_n5 (IntKind.wrap .i64 (j1 - 1)) 3 fun a8 =>
  LDI .i64 w_2 a8 fun From2 =>
  LDI .i64 w_2 (Addr.add a8 1) fun To2 =>
  LDI .i64 w_2 (Addr.add a8 2) fun Count2 =>
  IX data5 data_n5 j1 3 fun a9 =>
  LDI .i64 w_2 a9 fun From3 =>
  LDI .i64 w_2 (Addr.add a9 1) fun To3 =>
  LDI .i64 w_2 (Addr.add a9 2) fun Count3 =>
  IX data5 data_n5 j1 3 fun a10 =>
  ST w_2 a10 (.int .i64 From2) fun w_3 =>
  ST w_3 (Addr.add a10 1) (.int .i64 To2) fun w_4 =>
  ST w_4 (Addr.add a10 2) (.int .i64 Count2) fun w_5 =>
  IX data5 data_n5 (IntKind.wrap .i64 (j1 - 1)) 3 fun a11 =>
  ST w_5 a11 (.int .i64 From3) fun w_6 =>
  ST w_6 (Addr.add a11 1) (.int .i64 To3) fun w_7 =>
  ST w_7 (Addr.add a11 2) (.int .i64 Count3) fun w_8 =>
  K1 (data5, data_n5, data_c5, a5, b5, cmp5, i4, IntKind.wrap .i64 (j1 - 1)) w_8) (
  slices_insertionSortCmpFunc_net_Link_b0 data5 data_n5 data_c5 a5 b5 cmp5 i4 K0 w_1)) (
  slices_insertionSortCmpFunc_net_Link_b0 data5 data_n5 data_c5 a5 b5 cmp5 i4 K0 w_)

def slices_insertionSortCmpFunc_net_Link_b2 (data4 : Option Addr) (data_n4 : Nat) (data_c4 : Nat) (a4 : Int) (b4 : Int) (cmp4 : Value) (i3 : Int) (j : Int) (K0 : ((Option Addr) × Nat × Nat × Int × Int × Value × Int) → World → Prop) (w : World) : Prop :=
  LoopS (σ := (Option Addr) × Nat × Nat × Int × Int × Value × Int × Int) (fun s w K1 =>
  slices_insertionSortCmpFunc_net_Link_b1 s.1 s.2.1 s.2.2.1 s.2.2.2.1 s.2.2.2.2.1 s.2.2.2.2.2.1 s.2.2.2.2.2.2.1 s.2.2.2.2.2.2.2 K0 K1 w) (data4, data_n4, data_c4, a4, b4, cmp4, i3, j) w

def slices_insertionSortCmpFunc_net_Link_b3 (data3 : Option Addr) (data_n3 : Nat) (data_c3 : Nat) (a3 : Int) (b3 : Int) (cmp3 : Value) (i2 : Int) (K0 : ((Option Addr) × Nat × Nat × Int × Int × Value × Int) → World → Prop) (w : World) : Prop :=
  slices_insertionSortCmpFunc_net_Link_b2 data3 data_n3 data_c3 a3 b3 cmp3 i2 i2 K0 w

def slices_insertionSortCmpFunc_net_Link_b4 (R : Value → World → Prop) (w : World) : Prop :=
  R (.tuple #[]) w

def slices_insertionSortCmpFunc_net_Link_b5 (data2 : Option Addr) (data_n2 : Nat) (data_c2 : Nat) (a2 : Int) (b2 : Int) (cmp2 : Value) (i1 : Int) (K0 : ((Option Addr) × Nat × Nat × Int × Int × Value × Int) → World → Prop) (R : Value → World → Prop) (w : World) : Prop :=
  Br (decide (i1 < b2)) (
  slices_insertionSortCmpFunc_net_Link_b3 data2 data_n2 data_c2 a2 b2 cmp2 i1 K0 w) (
  slices_insertionSortCmpFunc_net_Link_b4 R w)

def slices_insertionSortCmpFunc_net_Link_b6 (data1 : Option Addr) (data_n1 : Nat) (data_c1 : Nat) (a1 : Int) (b1 : Int) (cmp1 : Value) (i : Int) (R : Value → World → Prop) (w : World) : Prop :=
  LoopS (σ := (Option Addr) × Nat × Nat × Int × Int × Value × Int) (fun s w K0 =>
  slices_insertionSortCmpFunc_net_Link_b5 s.1 s.2.1 s.2.2.1 s.2.2.2.1 s.2.2.2.2.1 s.2.2.2.2.2.1 s.2.2.2.2.2.2 K0 R w) (data1, data_n1, data_c1, a1, b1, cmp1, i) w

def slices_insertionSortCmpFunc_net_Link_b7 (data : Option Addr) (data_n : Nat) (data_c : Nat) (a : Int) (b : Int) (cmp : Value) (R : Value → World → Prop) (w : World) : Prop :=
  slices_insertionSortCmpFunc_net_Link_b6 data data_n data_c a b cmp (IntKind.wrap .i64 (a + 1)) R w

def slices_insertionSortCmpFunc_net_Link_p0 : Point ((Option Addr) × Nat × Nat × Int × Int × Value × Int) := { slots := fun s => [(0, (.slice s.1 s.2.1 s.2.2.1)), (1, (.int .i64 s.2.2.2.1)), (2, (.int .i64 s.2.2.2.2.1)), (3, s.2.2.2.2.2.1), (8, (.int .i64 s.2.2.2.2.2.2))], dec := fun r K => mSlice (r 0) fun x x1 x2 => mInt .i64 (r 1) fun x3 => mInt .i64 (r 2) fun x4 => mInt .i64 (r 8) fun x5 => K (x, x1, x2, x3, x4, (r 3), x5) }
theorem slices_insertionSortCmpFunc_net_Link_p0_ok : slices_insertionSortCmpFunc_net_Link_p0.ok := by
  intro r K h
  unfold slices_insertionSortCmpFunc_net_Link_p0 at h
  obtain ⟨x, x1, x2, e0, h⟩ := mSlice_elim h
  obtain ⟨x3, e1, h⟩ := mInt_elim h
  obtain ⟨x4, e2, h⟩ := mInt_elim h
  obtain ⟨x5, e4, h⟩ := mInt_elim h
  exact ⟨(x, x1, x2, x3, x4, (r 3), x5), regsOf_self (L := [(0, (.slice x x1 x2)), (1, (.int .i64 x3)), (2, (.int .i64 x4)), (3, (r 3)), (8, (.int .i64 x5))]) (List.forall_mem_cons.2 ⟨e0, List.forall_mem_cons.2 ⟨e1, List.forall_mem_cons.2 ⟨e2, List.forall_mem_cons.2 ⟨rfl, List.forall_mem_cons.2 ⟨e4, List.forall_mem_nil _⟩⟩⟩⟩⟩), h⟩
theorem slices_insertionSortCmpFunc_net_Link_p0_re (s : (Option Addr) × Nat × Nat × Int × Int × Value × Int) (r : Regs) (K : ((Option Addr) × Nat × Nat × Int × Int × Value × Int) → Prop) (h : K s) : slices_insertionSortCmpFunc_net_Link_p0.dec (regsOf (slices_insertionSortCmpFunc_net_Link_p0.slots s) r) K := by
  obtain ⟨x6, x7, x8, x9, x10, x11, x12⟩ := s
  exact cast (show K (x6, x7, x8, x9, x10, x11, x12) = slices_insertionSortCmpFunc_net_Link_p0.dec (regsOf (slices_insertionSortCmpFunc_net_Link_p0.slots (x6, x7, x8, x9, x10, x11, x12)) r) K by kernel_rfl) h

def slices_insertionSortCmpFunc_net_Link_p1 : Point ((Option Addr) × Nat × Nat × Int × Int × Value × Int) := { slots := fun s => [(0, (.slice s.1 s.2.1 s.2.2.1)), (1, (.int .i64 s.2.2.2.1)), (2, (.int .i64 s.2.2.2.2.1)), (3, s.2.2.2.2.2.1), (8, (.int .i64 s.2.2.2.2.2.2))], dec := fun r K => mSlice (r 0) fun x x1 x2 => mInt .i64 (r 1) fun x3 => mInt .i64 (r 2) fun x4 => mInt .i64 (r 8) fun x5 => K (x, x1, x2, x3, x4, (r 3), x5) }
theorem slices_insertionSortCmpFunc_net_Link_p1_ok : slices_insertionSortCmpFunc_net_Link_p1.ok := by
  intro r K h
  unfold slices_insertionSortCmpFunc_net_Link_p1 at h
  obtain ⟨x, x1, x2, e0, h⟩ := mSlice_elim h
  obtain ⟨x3, e1, h⟩ := mInt_elim h
  obtain ⟨x4, e2, h⟩ := mInt_elim h
  obtain ⟨x5, e4, h⟩ := mInt_elim h
  exact ⟨(x, x1, x2, x3, x4, (r 3), x5), regsOf_self (L := [(0, (.slice x x1 x2)), (1, (.int .i64 x3)), (2, (.int .i64 x4)), (3, (r 3)), (8, (.int .i64 x5))]) (List.forall_mem_cons.2 ⟨e0, List.forall_mem_cons.2 ⟨e1, List.forall_mem_cons.2 ⟨e2, List.forall_mem_cons.2 ⟨rfl, List.forall_mem_cons.2 ⟨e4, List.forall_mem_nil _⟩⟩⟩⟩⟩), h⟩
theorem slices_insertionSortCmpFunc_net_Link_p1_re (s : (Option Addr) × Nat × Nat × Int × Int × Value × Int) (r : Regs) (K : ((Option Addr) × Nat × Nat × Int × Int × Value × Int) → Prop) (h : K s) : slices_insertionSortCmpFunc_net_Link_p1.dec (regsOf (slices_insertionSortCmpFunc_net_Link_p1.slots s) r) K := by
  obtain ⟨x6, x7, x8, x9, x10, x11, x12⟩ := s
  exact cast (show K (x6, x7, x8, x9, x10, x11, x12) = slices_insertionSortCmpFunc_net_Link_p1.dec (regsOf (slices_insertionSortCmpFunc_net_Link_p1.slots (x6, x7, x8, x9, x10, x11, x12)) r) K by kernel_rfl) h

def slices_insertionSortCmpFunc_net_Link_p2 : Point ((Option Addr) × Nat × Nat × Int × Int × Value × Int) := { slots := fun s => [(0, (.slice s.1 s.2.1 s.2.2.1)), (1, (.int .i64 s.2.2.2.1)), (2, (.int .i64 s.2.2.2.2.1)), (3, s.2.2.2.2.2.1), (8, (.int .i64 s.2.2.2.2.2.2))], dec := fun r K => mSlice (r 0) fun x x1 x2 => mInt .i64 (r 1) fun x3 => mInt .i64 (r 2) fun x4 => mInt .i64 (r 8) fun x5 => K (x, x1, x2, x3, x4, (r 3), x5) }
theorem slices_insertionSortCmpFunc_net_Link_p2_ok : slices_insertionSortCmpFunc_net_Link_p2.ok := by
  intro r K h
  unfold slices_insertionSortCmpFunc_net_Link_p2 at h
  obtain ⟨x, x1, x2, e0, h⟩ := mSlice_elim h
  obtain ⟨x3, e1, h⟩ := mInt_elim h
  obtain ⟨x4, e2, h⟩ := mInt_elim h
  obtain ⟨x5, e4, h⟩ := mInt_elim h
  exact ⟨(x, x1, x2, x3, x4, (r 3), x5), regsOf_self (L := [(0, (.slice x x1 x2)), (1, (.int .i64 x3)), (2, (.int .i64 x4)), (3, (r 3)), (8, (.int .i64 x5))]) (List.forall_mem_cons.2 ⟨e0, List.forall_mem_cons.2 ⟨e1, List.forall_mem_cons.2 ⟨e2, List.forall_mem_cons.2 ⟨rfl, List.forall_mem_cons.2 ⟨e4, List.forall_mem_nil _⟩⟩⟩⟩⟩), h⟩
theorem slices_insertionSortCmpFunc_net_Link_p2_re (s : (Option Addr) × Nat × Nat × Int × Int × Value × Int) (r : Regs) (K : ((Option Addr) × Nat × Nat × Int × Int × Value × Int) → Prop) (h : K s) : slices_insertionSortCmpFunc_net_Link_p2.dec (regsOf (slices_insertionSortCmpFunc_net_Link_p2.slots s) r) K := by
  obtain ⟨x6, x7, x8, x9, x10, x11, x12⟩ := s
  exact cast (show K (x6, x7, x8, x9, x10, x11, x12) = slices_insertionSortCmpFunc_net_Link_p2.dec (regsOf (slices_insertionSortCmpFunc_net_Link_p2.slots (x6, x7, x8, x9, x10, x11, x12)) r) K by kernel_rfl) h

def slices_insertionSortCmpFunc_net_Link_p3 : Point ((Option Addr) × Nat × Nat × Int × Int × Value × Int × Int) := { slots := fun s => [(0, (.slice s.1 s.2.1 s.2.2.1)), (1, (.int .i64 s.2.2.2.1)), (2, (.int .i64 s.2.2.2.2.1)), (3, s.2.2.2.2.2.1), (8, (.int .i64 s.2.2.2.2.2.2.1)), (9, (.int .i64 s.2.2.2.2.2.2.2))], dec := fun r K => mSlice (r 0) fun x x1 x2 => mInt .i64 (r 1) fun x3 => mInt .i64 (r 2) fun x4 => mInt .i64 (r 8) fun x5 => mInt .i64 (r 9) fun x6 => K (x, x1, x2, x3, x4, (r 3), x5, x6) }
theorem slices_insertionSortCmpFunc_net_Link_p3_ok : slices_insertionSortCmpFunc_net_Link_p3.ok := by
  intro r K h
  unfold slices_insertionSortCmpFunc_net_Link_p3 at h
  obtain ⟨x, x1, x2, e0, h⟩ := mSlice_elim h
  obtain ⟨x3, e1, h⟩ := mInt_elim h
  obtain ⟨x4, e2, h⟩ := mInt_elim h
  obtain ⟨x5, e4, h⟩ := mInt_elim h
  obtain ⟨x6, e5, h⟩ := mInt_elim h
  exact ⟨(x, x1, x2, x3, x4, (r 3), x5, x6), regsOf_self (L := [(0, (.slice x x1 x2)), (1, (.int .i64 x3)), (2, (.int .i64 x4)), (3, (r 3)), (8, (.int .i64 x5)), (9, (.int .i64 x6))]) (List.forall_mem_cons.2 ⟨e0, List.forall_mem_cons.2 ⟨e1, List.forall_mem_cons.2 ⟨e2, List.forall_mem_cons.2 ⟨rfl, List.forall_mem_cons.2 ⟨e4, List.forall_mem_cons.2 ⟨e5, List.forall_mem_nil _⟩⟩⟩⟩⟩⟩), h⟩
theorem slices_insertionSortCmpFunc_net_Link_p3_re (s : (Option Addr) × Nat × Nat × Int × Int × Value × Int × Int) (r : Regs) (K : ((Option Addr) × Nat × Nat × Int × Int × Value × Int × Int) → Prop) (h : K s) : slices_insertionSortCmpFunc_net_Link_p3.dec (regsOf (slices_insertionSortCmpFunc_net_Link_p3.slots s) r) K := by
  obtain ⟨x7, x8, x9, x10, x11, x12, x13, x14⟩ := s
  exact cast (show K (x7, x8, x9, x10, x11, x12, x13, x14) = slices_insertionSortCmpFunc_net_Link_p3.dec (regsOf (slices_insertionSortCmpFunc_net_Link_p3.slots (x7, x8, x9, x10, x11, x12, x13, x14)) r) K by kernel_rfl) h

def slices_insertionSortCmpFunc_net_Link_p4 : Point (Unit) := { slots := fun _ => [], dec := fun _ K => K () }
theorem slices_insertionSortCmpFunc_net_Link_p4_ok : slices_insertionSortCmpFunc_net_Link_p4.ok := by
  intro r K h
  unfold slices_insertionSortCmpFunc_net_Link_p4 at h
  exact ⟨(), regsOf_self (L := []) (List.forall_mem_nil _), h⟩
theorem slices_insertionSortCmpFunc_net_Link_p4_re (s : Unit) (r : Regs) (K : Unit → Prop) (h : K s) : slices_insertionSortCmpFunc_net_Link_p4.dec (regsOf (slices_insertionSortCmpFunc_net_Link_p4.slots s) r) K := by
  exact cast (show K () = slices_insertionSortCmpFunc_net_Link_p4.dec (regsOf (slices_insertionSortCmpFunc_net_Link_p4.slots ()) r) K by kernel_rfl) h

theorem slices_insertionSortCmpFunc_net_Link_sound (data : Option Addr) (data_n : Nat) (data_c : Nat) (a : Int) (b : Int) (cmp : Value) (R : Value → World → Prop) (w : World) (h : slices_insertionSortCmpFunc_net_Link_b7 data data_n data_c a b cmp R w) :
    CallR Try.prog fn_slices_insertionSortCmpFunc_net_Link #[(.slice data data_n data_c), (.int .i64 a), (.int .i64 b), cmp] w R := by
  refine CallR_intro (args := [(.slice data data_n data_c), (.int .i64 a), (.int .i64 b), cmp]) Try.func42 rfl (Nat.le_of_ble_eq_true (by kernel_rfl)) ?_
  have hEnd : ∀ (s : Unit) (r : Regs) (w : World), slices_insertionSortCmpFunc_net_Link_b4 R w → retQ Try.prog Try.f42.results R .normal [] (regsOf (slices_insertionSortCmpFunc_net_Link_p4.slots s) r) w := by
    intro s r w h
    cases s
    have h : slices_insertionSortCmpFunc_net_Link_b4 R w := h
    exact cast (show (slices_insertionSortCmpFunc_net_Link_b4 R w) = retQ Try.prog Try.f42.results R .normal [] (regsOf (slices_insertionSortCmpFunc_net_Link_p4.slots ()) r) w by kernel_rfl) h
  refine Wp_glue slices_insertionSortCmpFunc_net_Link_p0 (fun s w => slices_insertionSortCmpFunc_net_Link_b6 s.1 s.2.1 s.2.2.1 s.2.2.2.1 s.2.2.2.2.1 s.2.2.2.2.2.1 s.2.2.2.2.2.2 R w) [_] (Q0 := fun e _ r w => match e with | .normal => slices_insertionSortCmpFunc_net_Link_p0.dec r (fun s => slices_insertionSortCmpFunc_net_Link_b6 s.1 s.2.1 s.2.2.1 s.2.2.2.1 s.2.2.2.2.1 s.2.2.2.2.2.1 s.2.2.2.2.2.2 R w) | .exit _ => False | .ret => retQ Try.prog Try.f42.results R .ret [] r w | _ => False) h (by kernel_rfl) (fun s r w h => ?_) slices_insertionSortCmpFunc_net_Link_p0_ok (fun _ _ _ h => h) ?_
  · obtain ⟨data1, data_n1, data_c1, a1, b1, cmp1, i⟩ := s
    have h : slices_insertionSortCmpFunc_net_Link_b6 data1 data_n1 data_c1 a1 b1 cmp1 i R w := h
    refine Wp_block_via slices_insertionSortCmpFunc_net_Link_p4 (fun _ w => slices_insertionSortCmpFunc_net_Link_b4 R w) hEnd (fun hX1 => ?_)
    refine Wp_loop (p := slices_insertionSortCmpFunc_net_Link_p0) slices_insertionSortCmpFunc_net_Link_p0_ok (fun s r w K0 h => ?_) h
    obtain ⟨data2, data_n2, data_c2, a2, b2, cmp2, i1⟩ := s
    have h : slices_insertionSortCmpFunc_net_Link_b5 data2 data_n2 data_c2 a2 b2 cmp2 i1 K0 R w := h
    have hK2 := fun (s : (Option Addr) × Nat × Nat × Int × Int × Value × Int) (r : Regs) (w : World) (h : K0 s w) => slices_insertionSortCmpFunc_net_Link_p0_re s r (fun s => K0 s w) h
    refine Wp_glue slices_insertionSortCmpFunc_net_Link_p1 (fun s w => slices_insertionSortCmpFunc_net_Link_b3 s.1 s.2.1 s.2.2.1 s.2.2.2.1 s.2.2.2.2.1 s.2.2.2.2.2.1 s.2.2.2.2.2.2 K0 w) [_] (Q0 := fun e _ r w => match e with | .normal => slices_insertionSortCmpFunc_net_Link_p1.dec r (fun s => slices_insertionSortCmpFunc_net_Link_b3 s.1 s.2.1 s.2.2.1 s.2.2.2.1 s.2.2.2.2.1 s.2.2.2.2.2.1 s.2.2.2.2.2.2 K0 w) | .exit i => exitQ i 0 (slices_insertionSortCmpFunc_net_Link_p4.dec r (fun _ => slices_insertionSortCmpFunc_net_Link_b4 R w)) (False) | .ret => retQ Try.prog Try.f42.results R .ret [] r w | _ => False) h (by kernel_rfl) (fun s r w h => ?_) slices_insertionSortCmpFunc_net_Link_p1_ok (fun _ _ _ h => h) ?_
    · obtain ⟨data3, data_n3, data_c3, a3, b3, cmp3, i2⟩ := s
      have h : slices_insertionSortCmpFunc_net_Link_b3 data3 data_n3 data_c3 a3 b3 cmp3 i2 K0 w := h
      refine Wp_seq_via slices_insertionSortCmpFunc_net_Link_p2 (fun s w => slices_insertionSortCmpFunc_net_Link_b0 s.1 s.2.1 s.2.2.1 s.2.2.2.1 s.2.2.2.2.1 s.2.2.2.2.2.1 s.2.2.2.2.2.2 K0 w) (fun s r w h => ?_) (fun hN3 => ?_)
      · obtain ⟨data6, data_n6, data_c6, a12, b6, cmp6, i5⟩ := s
        have h : slices_insertionSortCmpFunc_net_Link_b0 data6 data_n6 data_c6 a12 b6 cmp6 i5 K0 w := h
        refine Wp_leaf_end (Q0 := fun e _ r w => match e with | .normal => slices_insertionSortCmpFunc_net_Link_p0.dec r (fun s => K0 s w) | .exit i => exitQ i 0 (slices_insertionSortCmpFunc_net_Link_p4.dec r (fun _ => slices_insertionSortCmpFunc_net_Link_b4 R w)) (False) | .ret => retQ Try.prog Try.f42.results R .ret [] r w | _ => False) h (by kernel_rfl) ?_
        intro e _ r w h
        cases e with
        | normal =>
          obtain ⟨s, hs, h⟩ := slices_insertionSortCmpFunc_net_Link_p0_ok _ _ h
          rw [← hs]
          exact hK2 s r w h
        | exit i =>
          rcases exitQ_elim h with ⟨rfl, h⟩ | ⟨_, h⟩
          · obtain ⟨s, hs, h⟩ := slices_insertionSortCmpFunc_net_Link_p4_ok _ _ h
            rw [← hs]
            exact hX1 s r w h
          exact h.elim
        | ret => exact h
        | goto i => exact h.elim
        | panic c => exact h.elim
        | outgrown => exact h.elim
      · refine Wp_block_via slices_insertionSortCmpFunc_net_Link_p2 (fun s w => slices_insertionSortCmpFunc_net_Link_b0 s.1 s.2.1 s.2.2.1 s.2.2.2.1 s.2.2.2.2.1 s.2.2.2.2.2.1 s.2.2.2.2.2.2 K0 w) hN3 (fun hX4 => ?_)
        refine Wp_glue slices_insertionSortCmpFunc_net_Link_p3 (fun s w => slices_insertionSortCmpFunc_net_Link_b2 s.1 s.2.1 s.2.2.1 s.2.2.2.1 s.2.2.2.2.1 s.2.2.2.2.2.1 s.2.2.2.2.2.2.1 s.2.2.2.2.2.2.2 K0 w) [_] (Q0 := fun e _ r w => match e with | .normal => slices_insertionSortCmpFunc_net_Link_p3.dec r (fun s => slices_insertionSortCmpFunc_net_Link_b2 s.1 s.2.1 s.2.2.1 s.2.2.2.1 s.2.2.2.2.1 s.2.2.2.2.2.1 s.2.2.2.2.2.2.1 s.2.2.2.2.2.2.2 K0 w) | .exit i => exitQ i 0 (slices_insertionSortCmpFunc_net_Link_p4.dec r (fun _ => slices_insertionSortCmpFunc_net_Link_b4 R w)) (exitQ i 1 (slices_insertionSortCmpFunc_net_Link_p2.dec r (fun s => slices_insertionSortCmpFunc_net_Link_b0 s.1 s.2.1 s.2.2.1 s.2.2.2.1 s.2.2.2.2.1 s.2.2.2.2.2.1 s.2.2.2.2.2.2 K0 w)) (False)) | .ret => retQ Try.prog Try.f42.results R .ret [] r w | _ => False) h (by kernel_rfl) (fun s r w h => ?_) slices_insertionSortCmpFunc_net_Link_p3_ok (fun _ _ _ h => h) ?_
        · obtain ⟨data4, data_n4, data_c4, a4, b4, cmp4, i3, j⟩ := s
          have h : slices_insertionSortCmpFunc_net_Link_b2 data4 data_n4 data_c4 a4 b4 cmp4 i3 j K0 w := h
          refine Wp_block_via slices_insertionSortCmpFunc_net_Link_p2 (fun s w => slices_insertionSortCmpFunc_net_Link_b0 s.1 s.2.1 s.2.2.1 s.2.2.2.1 s.2.2.2.2.1 s.2.2.2.2.2.1 s.2.2.2.2.2.2 K0 w) hN3 (fun hX5 => ?_)
          refine Wp_loop (p := slices_insertionSortCmpFunc_net_Link_p3) slices_insertionSortCmpFunc_net_Link_p3_ok (fun s r w K1 h => ?_) h
          obtain ⟨data5, data_n5, data_c5, a5, b5, cmp5, i4, j1⟩ := s
          have h : slices_insertionSortCmpFunc_net_Link_b1 data5 data_n5 data_c5 a5 b5 cmp5 i4 j1 K0 K1 w := h
          have hK6 := fun (s : (Option Addr) × Nat × Nat × Int × Int × Value × Int × Int) (r : Regs) (w : World) (h : K1 s w) => slices_insertionSortCmpFunc_net_Link_p3_re s r (fun s => K1 s w) h
          refine Wp_leaf_end (Q0 := fun e _ r w => match e with | .normal => slices_insertionSortCmpFunc_net_Link_p3.dec r (fun s => K1 s w) | .exit i => exitQ i 0 (slices_insertionSortCmpFunc_net_Link_p4.dec r (fun _ => slices_insertionSortCmpFunc_net_Link_b4 R w)) (exitQ i 1 (slices_insertionSortCmpFunc_net_Link_p2.dec r (fun s => slices_insertionSortCmpFunc_net_Link_b0 s.1 s.2.1 s.2.2.1 s.2.2.2.1 s.2.2.2.2.1 s.2.2.2.2.2.1 s.2.2.2.2.2.2 K0 w)) (exitQ i 2 (slices_insertionSortCmpFunc_net_Link_p2.dec r (fun s => slices_insertionSortCmpFunc_net_Link_b0 s.1 s.2.1 s.2.2.1 s.2.2.2.1 s.2.2.2.2.1 s.2.2.2.2.2.1 s.2.2.2.2.2.2 K0 w)) (False))) | .ret => retQ Try.prog Try.f42.results R .ret [] r w | _ => False) h (by kernel_rfl) ?_
          intro e _ r w h
          cases e with
          | normal =>
            obtain ⟨s, hs, h⟩ := slices_insertionSortCmpFunc_net_Link_p3_ok _ _ h
            rw [← hs]
            exact hK6 s r w h
          | exit i =>
            rcases exitQ_elim h with ⟨rfl, h⟩ | ⟨_, h⟩
            · obtain ⟨s, hs, h⟩ := slices_insertionSortCmpFunc_net_Link_p4_ok _ _ h
              rw [← hs]
              exact (fun s r w h => blockQ_other (id := 2) (j := 0) (by decide) ((fun s r w h => blockQ_other (id := 1) (j := 0) (by decide) (hX1 s r w h)) s r w h)) s r w h
            rcases exitQ_elim h with ⟨rfl, h⟩ | ⟨_, h⟩
            · obtain ⟨s, hs, h⟩ := slices_insertionSortCmpFunc_net_Link_p2_ok _ _ h
              rw [← hs]
              exact (fun s r w h => blockQ_other (id := 2) (j := 1) (by decide) (hX4 s r w h)) s r w h
            rcases exitQ_elim h with ⟨rfl, h⟩ | ⟨_, h⟩
            · obtain ⟨s, hs, h⟩ := slices_insertionSortCmpFunc_net_Link_p2_ok _ _ h
              rw [← hs]
              exact hX5 s r w h
            exact h.elim
          | ret => exact h
          | goto i => exact h.elim
          | panic c => exact h.elim
          | outgrown => exact h.elim
        · intro e _ r w hne h
          cases e with
          | normal => exact absurd rfl hne
          | exit i =>
            rcases exitQ_elim h with ⟨rfl, h⟩ | ⟨_, h⟩
            · obtain ⟨s, hs, h⟩ := slices_insertionSortCmpFunc_net_Link_p4_ok _ _ h
              rw [← hs]
              exact (fun s r w h => blockQ_other (id := 1) (j := 0) (by decide) (hX1 s r w h)) s r w h
            rcases exitQ_elim h with ⟨rfl, h⟩ | ⟨_, h⟩
            · obtain ⟨s, hs, h⟩ := slices_insertionSortCmpFunc_net_Link_p2_ok _ _ h
              rw [← hs]
              exact hX4 s r w h
            exact h.elim
          | ret => exact h
          | goto i => exact h.elim
          | panic c => exact h.elim
          | outgrown => exact h.elim
    · intro e _ r w hne h
      cases e with
      | normal => exact absurd rfl hne
      | exit i =>
        rcases exitQ_elim h with ⟨rfl, h⟩ | ⟨_, h⟩
        · obtain ⟨s, hs, h⟩ := slices_insertionSortCmpFunc_net_Link_p4_ok _ _ h
          rw [← hs]
          exact hX1 s r w h
        exact h.elim
      | ret => exact h
      | goto i => exact h.elim
      | panic c => exact h.elim
      | outgrown => exact h.elim
  · intro e _ r w hne h
    cases e with
    | normal => exact absurd rfl hne
    | exit i => exact h.elim
    | ret => exact h
    | goto i => exact h.elim
    | panic c => exact h.elim
    | outgrown => exact h.elim

end Go.Proofs.Ytienifnpacoahaa
