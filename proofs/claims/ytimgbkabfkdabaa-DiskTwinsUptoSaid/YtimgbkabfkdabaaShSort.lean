/- Printed by a program of this claim: the shallow readings of functions, and that they are sound. -/
import Derived.Test.YtimgbkabfkdabaaShNames
namespace Go.Proofs.Ytimgbkabfkdabaa
open Go.Sh

/- slices.IndexFunc[[]string,string] -/
def slices_IndexFunc_s_string_string_b0 (R : Value → World → Prop) (w : World) : Prop :=
  R (.int .i64 (-1)) w

def slices_IndexFunc_s_string_string_b1 (s3 : Option Addr) (s_n3 : Nat) (s_c3 : Nat) (f3 : Value) (t71 : Int) (t81 : Int) (K0 : ((Option Addr) × Nat × Nat × Value × Int × Int) → World → Prop) (R : Value → World → Prop) (w : World) : Prop :=
  Br (decide (t81 < t71)) (
  IX s3 s_n3 t81 1 fun a =>
  LDS w a fun v =>
  CallV Try.prog f3 [(.string v)] w fun res w_ =>
  mBool res fun v1 =>
  Br v1 (
  R (.int .i64 t81) w_) (
  K0 (s3, s_n3, s_c3, f3, t71, IntKind.wrap .i64 (t81 + 1)) w_)) (
  slices_IndexFunc_s_string_string_b0 R w)

def slices_IndexFunc_s_string_string_b2 (s2 : Option Addr) (s_n2 : Nat) (s_c2 : Nat) (f2 : Value) (t7 : Int) (t8 : Int) (R : Value → World → Prop) (w : World) : Prop :=
  LoopS (σ := (Option Addr) × Nat × Nat × Value × Int × Int) (fun s w K0 =>
  slices_IndexFunc_s_string_string_b1 s.1 s.2.1 s.2.2.1 s.2.2.2.1 s.2.2.2.2.1 s.2.2.2.2.2 K0 R w) (s2, s_n2, s_c2, f2, t7, t8) w

def slices_IndexFunc_s_string_string_b3 (s1 : Option Addr) (s_n1 : Nat) (s_c1 : Nat) (f1 : Value) (R : Value → World → Prop) (w : World) : Prop :=
  slices_IndexFunc_s_string_string_b2 s1 s_n1 s_c1 f1 (s_n1 : Int) 0 R w

def slices_IndexFunc_s_string_string_b4 (s : Option Addr) (s_n : Nat) (s_c : Nat) (f : Value) (R : Value → World → Prop) (w : World) : Prop :=
  slices_IndexFunc_s_string_string_b3 s s_n s_c f R w

def slices_IndexFunc_s_string_string_p0 : Point ((Option Addr) × Nat × Nat × Value) := { slots := fun s => [(0, (.slice s.1 s.2.1 s.2.2.1)), (1, s.2.2.2)], dec := fun r K => mSlice (r 0) fun x x1 x2 => K (x, x1, x2, (r 1)) }
theorem slices_IndexFunc_s_string_string_p0_ok : slices_IndexFunc_s_string_string_p0.ok := by
  intro r K h
  unfold slices_IndexFunc_s_string_string_p0 at h
  obtain ⟨x, x1, x2, e0, h⟩ := mSlice_elim h
  exact ⟨(x, x1, x2, (r 1)), regsOf_self (L := [(0, (.slice x x1 x2)), (1, (r 1))]) (List.forall_mem_cons.2 ⟨e0, List.forall_mem_cons.2 ⟨rfl, List.forall_mem_nil _⟩⟩), h⟩
theorem slices_IndexFunc_s_string_string_p0_re (s : (Option Addr) × Nat × Nat × Value) (r : Regs) (K : ((Option Addr) × Nat × Nat × Value) → Prop) (h : K s) : slices_IndexFunc_s_string_string_p0.dec (regsOf (slices_IndexFunc_s_string_string_p0.slots s) r) K := by
  obtain ⟨x3, x4, x5, x6⟩ := s
  exact cast (show K (x3, x4, x5, x6) = slices_IndexFunc_s_string_string_p0.dec (regsOf (slices_IndexFunc_s_string_string_p0.slots (x3, x4, x5, x6)) r) K by kernel_rfl) h

def slices_IndexFunc_s_string_string_p1 : Point (Unit) := { slots := fun _ => [], dec := fun _ K => K () }
theorem slices_IndexFunc_s_string_string_p1_ok : slices_IndexFunc_s_string_string_p1.ok := by
  intro r K h
  unfold slices_IndexFunc_s_string_string_p1 at h
  exact ⟨(), regsOf_self (L := []) (List.forall_mem_nil _), h⟩
theorem slices_IndexFunc_s_string_string_p1_re (s : Unit) (r : Regs) (K : Unit → Prop) (h : K s) : slices_IndexFunc_s_string_string_p1.dec (regsOf (slices_IndexFunc_s_string_string_p1.slots s) r) K := by
  exact cast (show K () = slices_IndexFunc_s_string_string_p1.dec (regsOf (slices_IndexFunc_s_string_string_p1.slots ()) r) K by kernel_rfl) h

def slices_IndexFunc_s_string_string_p2 : Point ((Option Addr) × Nat × Nat × Value × Int × Int) := { slots := fun s => [(0, (.slice s.1 s.2.1 s.2.2.1)), (1, s.2.2.2.1), (7, (.int .i64 s.2.2.2.2.1)), (8, (.int .i64 s.2.2.2.2.2))], dec := fun r K => mSlice (r 0) fun x x1 x2 => mInt .i64 (r 7) fun x3 => mInt .i64 (r 8) fun x4 => K (x, x1, x2, (r 1), x3, x4) }
theorem slices_IndexFunc_s_string_string_p2_ok : slices_IndexFunc_s_string_string_p2.ok := by
  intro r K h
  unfold slices_IndexFunc_s_string_string_p2 at h
  obtain ⟨x, x1, x2, e0, h⟩ := mSlice_elim h
  obtain ⟨x3, e2, h⟩ := mInt_elim h
  obtain ⟨x4, e3, h⟩ := mInt_elim h
  exact ⟨(x, x1, x2, (r 1), x3, x4), regsOf_self (L := [(0, (.slice x x1 x2)), (1, (r 1)), (7, (.int .i64 x3)), (8, (.int .i64 x4))]) (List.forall_mem_cons.2 ⟨e0, List.forall_mem_cons.2 ⟨rfl, List.forall_mem_cons.2 ⟨e2, List.forall_mem_cons.2 ⟨e3, List.forall_mem_nil _⟩⟩⟩⟩), h⟩
theorem slices_IndexFunc_s_string_string_p2_re (s : (Option Addr) × Nat × Nat × Value × Int × Int) (r : Regs) (K : ((Option Addr) × Nat × Nat × Value × Int × Int) → Prop) (h : K s) : slices_IndexFunc_s_string_string_p2.dec (regsOf (slices_IndexFunc_s_string_string_p2.slots s) r) K := by
  obtain ⟨x5, x6, x7, x8, x9, x10⟩ := s
  exact cast (show K (x5, x6, x7, x8, x9, x10) = slices_IndexFunc_s_string_string_p2.dec (regsOf (slices_IndexFunc_s_string_string_p2.slots (x5, x6, x7, x8, x9, x10)) r) K by kernel_rfl) h

theorem slices_IndexFunc_s_string_string_sound (s : Option Addr) (s_n : Nat) (s_c : Nat) (f : Value) (R : Value → World → Prop) (w : World) (h : slices_IndexFunc_s_string_string_b4 s s_n s_c f R w) :
    CallR Try.prog fn_slices_IndexFunc_s_string_string #[(.slice s s_n s_c), f] w R := by
  refine CallR_intro (args := [(.slice s s_n s_c), f]) Try.func54 rfl (Nat.le_of_ble_eq_true (by kernel_rfl)) ?_
  refine Wp_glue slices_IndexFunc_s_string_string_p0 (fun s w => slices_IndexFunc_s_string_string_b3 s.1 s.2.1 s.2.2.1 s.2.2.2 R w) [_] (Q0 := fun e _ r w => match e with | .normal => slices_IndexFunc_s_string_string_p0.dec r (fun s => slices_IndexFunc_s_string_string_b3 s.1 s.2.1 s.2.2.1 s.2.2.2 R w) | .exit _ => False | .ret => retQ Try.prog Try.f54.results R .ret [] r w | _ => False) h (by kernel_rfl) (fun s r w h => ?_) slices_IndexFunc_s_string_string_p0_ok (fun _ _ _ h => h) ?_
  · obtain ⟨s1, s_n1, s_c1, f1⟩ := s
    have h : slices_IndexFunc_s_string_string_b3 s1 s_n1 s_c1 f1 R w := h
    refine Wp_seq_via slices_IndexFunc_s_string_string_p1 (fun _ w => slices_IndexFunc_s_string_string_b0 R w) (fun s r w h => ?_) (fun hN1 => ?_)
    · cases s
      have h : slices_IndexFunc_s_string_string_b0 R w := h
      refine Wp_leaf_end (Q0 := fun e _ r w => match e with | .normal => retQ Try.prog Try.f54.results R .normal [] r w | .exit _ => False | .ret => retQ Try.prog Try.f54.results R .ret [] r w | _ => False) h (by kernel_rfl) ?_
      intro e _ r w h
      cases e with
      | normal => exact h
      | exit i => exact h.elim
      | ret => exact h
      | goto i => exact h.elim
      | panic c => exact h.elim
      | outgrown => exact h.elim
    · refine Wp_glue slices_IndexFunc_s_string_string_p2 (fun s w => slices_IndexFunc_s_string_string_b2 s.1 s.2.1 s.2.2.1 s.2.2.2.1 s.2.2.2.2.1 s.2.2.2.2.2 R w) [_] (Q0 := fun e _ r w => match e with | .normal => slices_IndexFunc_s_string_string_p2.dec r (fun s => slices_IndexFunc_s_string_string_b2 s.1 s.2.1 s.2.2.1 s.2.2.2.1 s.2.2.2.2.1 s.2.2.2.2.2 R w) | .exit _ => False | .ret => retQ Try.prog Try.f54.results R .ret [] r w | _ => False) h (by kernel_rfl) (fun s r w h => ?_) slices_IndexFunc_s_string_string_p2_ok (fun _ _ _ h => h) ?_
      · obtain ⟨s2, s_n2, s_c2, f2, t7, t8⟩ := s
        have h : slices_IndexFunc_s_string_string_b2 s2 s_n2 s_c2 f2 t7 t8 R w := h
        refine Wp_block_via slices_IndexFunc_s_string_string_p1 (fun _ w => slices_IndexFunc_s_string_string_b0 R w) hN1 (fun hX2 => ?_)
        refine Wp_loop (p := slices_IndexFunc_s_string_string_p2) slices_IndexFunc_s_string_string_p2_ok (fun s r w K0 h => ?_) h
        obtain ⟨s3, s_n3, s_c3, f3, t71, t81⟩ := s
        have h : slices_IndexFunc_s_string_string_b1 s3 s_n3 s_c3 f3 t71 t81 K0 R w := h
        have hK3 := fun (s : (Option Addr) × Nat × Nat × Value × Int × Int) (r : Regs) (w : World) (h : K0 s w) => slices_IndexFunc_s_string_string_p2_re s r (fun s => K0 s w) h
        refine Wp_leaf_end (Q0 := fun e _ r w => match e with | .normal => slices_IndexFunc_s_string_string_p2.dec r (fun s => K0 s w) | .exit i => exitQ i 0 (slices_IndexFunc_s_string_string_p1.dec r (fun _ => slices_IndexFunc_s_string_string_b0 R w)) (False) | .ret => retQ Try.prog Try.f54.results R .ret [] r w | _ => False) h (by kernel_rfl) ?_
        intro e _ r w h
        cases e with
        | normal =>
          obtain ⟨s, hs, h⟩ := slices_IndexFunc_s_string_string_p2_ok _ _ h
          rw [← hs]
          exact hK3 s r w h
        | exit i =>
          rcases exitQ_elim h with ⟨rfl, h⟩ | ⟨_, h⟩
          · obtain ⟨s, hs, h⟩ := slices_IndexFunc_s_string_string_p1_ok _ _ h
            rw [← hs]
            exact hX2 s r w h
          exact h.elim
        | ret => exact h
        | goto i => exact h.elim
        | panic c => exact h.elim
        | outgrown => exact h.elim
      · intro e _ r w hne h
        cases e with
        | normal => exact absurd rfl hne
        | exit i => exact h.elim
        | ret => exact h
        | goto i => exact h.elim
        | panic c => exact h.elim
        | outgrown => exact h.elim
  · intro e _ r w hne h
    cases e with
    | normal => exact absurd rfl hne
    | exit i => exact h.elim
    | ret => exact h
    | goto i => exact h.elim
    | panic c => exact h.elim
    | outgrown => exact h.elim

/- slices.Sort[[]string,string] -/
def slices_Sort_s_string_string_b0 (x : Option Addr) (x_n : Nat) (x_c : Nat) (R : Value → World → Prop) (w : World) : Prop :=
  CallR Try.prog fn_math_bits_Len #[(.int .u64 (IntKind.wrap .u64 (x_n : Int)))] w fun res w_ =>
  mInt .i64 res fun v =>
  CallR Try.prog fn_slices_pdqsortOrdered_string #[(.slice x x_n x_c), (.int .i64 0), (.int .i64 (x_n : Int)), (.int .i64 v)] w_ fun res1 w_1 =>
  mTup res1 fun l =>
  mNil l (
  R (.tuple #[]) w_1)

theorem slices_Sort_s_string_string_sound (x : Option Addr) (x_n : Nat) (x_c : Nat) (R : Value → World → Prop) (w : World) (h : slices_Sort_s_string_string_b0 x x_n x_c R w) :
    CallR Try.prog fn_slices_Sort_s_string_string #[(.slice x x_n x_c)] w R := by
  refine CallR_intro (args := [(.slice x x_n x_c)]) Try.func45 rfl (Nat.le_of_ble_eq_true (by kernel_rfl)) ?_
  refine Wp_leaf_end (Q0 := fun e _ r w => match e with | .normal => retQ Try.prog Try.f45.results R .normal [] r w | .exit _ => False | .ret => retQ Try.prog Try.f45.results R .ret [] r w | _ => False) h (by kernel_rfl) ?_
  intro e _ r w h
  cases e with
  | normal => exact h
  | exit i => exact h.elim
  | ret => exact h
  | goto i => exact h.elim
  | panic c => exact h.elim
  | outgrown => exact h.elim

/- slices.pdqsortOrdered[string] -/
def slices_pdqsortOrdered_string_b0 (data5 : Option Addr) (data_n5 : Nat) (data_c5 : Nat) (a5 : Int) (b5 : Int) (limit5 : Int) (wasBalanced4 : Bool) (wasPartitioned4 : Bool) (length2 : Int) (pivot1 : Int) (K0 : ((Option Addr) × Nat × Nat × Int × Int × Int × Bool × Bool) → World → Prop) (w : World) : Prop :=
  LetW (World.drew w) fun w_6 =>
  Br (decide (a5 > 0)) (
  IX data5 data_n5 (IntKind.wrap .i64 (a5 - 1)) 1 fun a6 =>
  LDS w_6 a6 fun v5 =>
  IX data5 data_n5 pivot1 1 fun a7 =>
  LDS w_6 a7 fun v6 =>
  CallR Try.prog fn_cmp_Less_string #[(.string v5), (.string v6)] w_6 fun res6 w_7 =>
  mBool res6 fun v7 =>
  (w_7 = w_7 ∧ 
  Br (!v7) (
  CallR Try.prog fn_slices_partitionEqualOrdered_string #[(.slice data5 data_n5 data_c5), (.int .i64 a5), (.int .i64 b5), (.int .i64 pivot1)] w_7 fun res7 w_8 =>
  mInt .i64 res7 fun v8 =>
  K0 (data5, data_n5, data_c5, v8, b5, limit5, wasBalanced4, wasPartitioned4) w_8) (
  CallR Try.prog fn_slices_partitionOrdered_string #[(.slice data5 data_n5 data_c5), (.int .i64 a5), (.int .i64 b5), (.int .i64 pivot1)] w_7 fun res8 w_9 =>
  mTup res8 fun l7 =>
  mCons l7 fun v9 l8 =>
  mInt .i64 v9 fun v10 =>
  mCons l8 fun v11 l9 =>
  mBool v11 fun v12 =>
  mNil l9 (
  Req ((8 : Int) ≠ 0) (
  Br (decide ((IntKind.wrap .i64 (v10 - a5)) < (IntKind.wrap .i64 (b5 - v10)))) (
  CallR Try.prog fn_slices_pdqsortOrdered_string #[(.slice data5 data_n5 data_c5), (.int .i64 a5), (.int .i64 v10), (.int .i64 limit5)] w_9 fun res9 w_10 =>
  mTup res9 fun l10 =>
  mNil l10 (
  K0 (data5, data_n5, data_c5, IntKind.wrap .i64 (v10 + 1), b5, limit5, decide ((IntKind.wrap .i64 (v10 - a5)) ≥ (IntKind.wrap .i64 (Int.tdiv length2 8))), v12) w_10)) (
  CallR Try.prog fn_slices_pdqsortOrdered_string #[(.slice data5 data_n5 data_c5), (.int .i64 (IntKind.wrap .i64 (v10 + 1))), (.int .i64 b5), (.int .i64 limit5)] w_9 fun res10 w_11 =>
  mTup res10 fun l11 =>
  mNil l11 (
  K0 (data5, data_n5, data_c5, a5, v10, limit5, decide ((IntKind.wrap .i64 (b5 - v10)) ≥ (IntKind.wrap .i64 (Int.tdiv length2 8))), v12) w_11))))))) (
  CallR Try.prog fn_slices_partitionOrdered_string #[(.slice data5 data_n5 data_c5), (.int .i64 a5), (.int .i64 b5), (.int .i64 pivot1)] w_6 fun res11 w_12 =>
  mTup res11 fun l12 =>
  mCons l12 fun v13 l13 =>
  mInt .i64 v13 fun v14 =>
  mCons l13 fun v15 l14 =>
  mBool v15 fun v16 =>
  mNil l14 (
  Req ((8 : Int) ≠ 0) (
  Br (decide ((IntKind.wrap .i64 (v14 - a5)) < (IntKind.wrap .i64 (b5 - v14)))) (
  CallR Try.prog fn_slices_pdqsortOrdered_string #[(.slice data5 data_n5 data_c5), (.int .i64 a5), (.int .i64 v14), (.int .i64 limit5)] w_12 fun res12 w_13 =>
  mTup res12 fun l15 =>
  mNil l15 (
  K0 (data5, data_n5, data_c5, IntKind.wrap .i64 (v14 + 1), b5, limit5, decide ((IntKind.wrap .i64 (v14 - a5)) ≥ (IntKind.wrap .i64 (Int.tdiv length2 8))), v16) w_13)) (
  CallR Try.prog fn_slices_pdqsortOrdered_string #[(.slice data5 data_n5 data_c5), (.int .i64 (IntKind.wrap .i64 (v14 + 1))), (.int .i64 b5), (.int .i64 limit5)] w_12 fun res13 w_14 =>
  mTup res13 fun l16 =>
  mNil l16 (
  K0 (data5, data_n5, data_c5, a5, v14, limit5, decide ((IntKind.wrap .i64 (b5 - v14)) ≥ (IntKind.wrap .i64 (Int.tdiv length2 8))), v16) w_14)))))

def slices_pdqsortOrdered_string_b1 (data4 : Option Addr) (data_n4 : Nat) (data_c4 : Nat) (a4 : Int) (b4 : Int) (limit4 : Int) (wasBalanced3 : Bool) (wasPartitioned3 : Bool) (length1 : Int) (pivot : Int) (hint : Int) (K0 : ((Option Addr) × Nat × Nat × Int × Int × Int × Bool × Bool) → World → Prop) (R : Value → World → Prop) (w : World) : Prop :=
  Br wasBalanced3 (
  Br wasPartitioned3 (
  Br (hint == 1) (
  CallR Try.prog fn_slices_partialInsertionSortOrdered_string #[(.slice data4 data_n4 data_c4), (.int .i64 a4), (.int .i64 b4)] w fun res5 w_5 =>
  mBool res5 fun v4 =>
  Br v4 (
  R (.tuple #[]) w_5) (
  slices_pdqsortOrdered_string_b0 data4 data_n4 data_c4 a4 b4 limit4 wasBalanced3 wasPartitioned3 length1 pivot K0 w_5)) (
  slices_pdqsortOrdered_string_b0 data4 data_n4 data_c4 a4 b4 limit4 wasBalanced3 wasPartitioned3 length1 pivot K0 w)) (
  slices_pdqsortOrdered_string_b0 data4 data_n4 data_c4 a4 b4 limit4 wasBalanced3 wasPartitioned3 length1 pivot K0 w)) (
  slices_pdqsortOrdered_string_b0 data4 data_n4 data_c4 a4 b4 limit4 wasBalanced3 wasPartitioned3 length1 pivot K0 w)

def slices_pdqsortOrdered_string_b2 (data3 : Option Addr) (data_n3 : Nat) (data_c3 : Nat) (a3 : Int) (b3 : Int) (limit3 : Int) (wasBalanced2 : Bool) (wasPartitioned2 : Bool) (length : Int) (K0 : ((Option Addr) × Nat × Nat × Int × Int × Int × Bool × Bool) → World → Prop) (R : Value → World → Prop) (w : World) : Prop :=
  CallR Try.prog fn_slices_choosePivotOrdered_string #[(.slice data3 data_n3 data_c3), (.int .i64 a3), (.int .i64 b3)] w fun res3 w_3 =>
  mTup res3 fun l3 =>
  mCons l3 fun v l4 =>
  mInt .i64 v fun v1 =>
  mCons l4 fun v2 l5 =>
  mInt .i64 v2 fun v3 =>
  mNil l5 (
  Br (v3 == 2) (
  CallR Try.prog fn_slices_reverseRangeOrdered_string #[(.slice data3 data_n3 data_c3), (.int .i64 a3), (.int .i64 b3)] w_3 fun res4 w_4 =>
  mTup res4 fun l6 =>
  mNil l6 (
  slices_pdqsortOrdered_string_b1 data3 data_n3 data_c3 a3 b3 limit3 wasBalanced2 wasPartitioned2 length (IntKind.wrap .i64 ((IntKind.wrap .i64 (b3 - 1)) - (IntKind.wrap .i64 (v1 - a3)))) 1 K0 R w_4)) (
  slices_pdqsortOrdered_string_b1 data3 data_n3 data_c3 a3 b3 limit3 wasBalanced2 wasPartitioned2 length v1 v3 K0 R w_3))

def slices_pdqsortOrdered_string_b3 (data2 : Option Addr) (data_n2 : Nat) (data_c2 : Nat) (a2 : Int) (b2 : Int) (limit2 : Int) (wasBalanced1 : Bool) (wasPartitioned1 : Bool) (K0 : ((Option Addr) × Nat × Nat × Int × Int × Int × Bool × Bool) → World → Prop) (R : Value → World → Prop) (w : World) : Prop :=
  Br (decide ((IntKind.wrap .i64 (b2 - a2)) ≤ 12)) (
  CallR Try.prog fn_slices_insertionSortOrdered_string #[(.slice data2 data_n2 data_c2), (.int .i64 a2), (.int .i64 b2)] w fun res w_ =>
  mTup res fun l =>
  mNil l (
  R (.tuple #[]) w_)) (
  Br (limit2 == 0) (
  CallR Try.prog fn_slices_heapSortOrdered_string #[(.slice data2 data_n2 data_c2), (.int .i64 a2), (.int .i64 b2)] w fun res1 w_1 =>
  mTup res1 fun l1 =>
  mNil l1 (
  R (.tuple #[]) w_1)) (
  Br (!wasBalanced1) (
  CallR Try.prog fn_slices_breakPatternsOrdered_string #[(.slice data2 data_n2 data_c2), (.int .i64 a2), (.int .i64 b2)] w fun res2 w_2 =>
  mTup res2 fun l2 =>
  mNil l2 (
  slices_pdqsortOrdered_string_b2 data2 data_n2 data_c2 a2 b2 (IntKind.wrap .i64 (limit2 - 1)) wasBalanced1 wasPartitioned1 (IntKind.wrap .i64 (b2 - a2)) K0 R w_2)) (
  slices_pdqsortOrdered_string_b2 data2 data_n2 data_c2 a2 b2 limit2 wasBalanced1 wasPartitioned1 (IntKind.wrap .i64 (b2 - a2)) K0 R w)))

def slices_pdqsortOrdered_string_b4 (data1 : Option Addr) (data_n1 : Nat) (data_c1 : Nat) (a1 : Int) (b1 : Int) (limit1 : Int) (wasBalanced : Bool) (wasPartitioned : Bool) (R : Value → World → Prop) (w : World) : Prop :=
  LoopS (σ := (Option Addr) × Nat × Nat × Int × Int × Int × Bool × Bool) (fun s w K0 =>
  slices_pdqsortOrdered_string_b3 s.1 s.2.1 s.2.2.1 s.2.2.2.1 s.2.2.2.2.1 s.2.2.2.2.2.1 s.2.2.2.2.2.2.1 s.2.2.2.2.2.2.2 K0 R w) (data1, data_n1, data_c1, a1, b1, limit1, wasBalanced, wasPartitioned) w

def slices_pdqsortOrdered_string_b5 (data : Option Addr) (data_n : Nat) (data_c : Nat) (a : Int) (b : Int) (limit : Int) (R : Value → World → Prop) (w : World) : Prop :=
  slices_pdqsortOrdered_string_b4 data data_n data_c a b limit true true R w

def slices_pdqsortOrdered_string_p0 : Point ((Option Addr) × Nat × Nat × Int × Int × Int × Bool × Bool) := { slots := fun s => [(0, (.slice s.1 s.2.1 s.2.2.1)), (1, (.int .i64 s.2.2.2.1)), (2, (.int .i64 s.2.2.2.2.1)), (3, (.int .i64 s.2.2.2.2.2.1)), (8, (.bool s.2.2.2.2.2.2.1)), (9, (.bool s.2.2.2.2.2.2.2))], dec := fun r K => mSlice (r 0) fun x x1 x2 => mInt .i64 (r 1) fun x3 => mInt .i64 (r 2) fun x4 => mInt .i64 (r 3) fun x5 => mBool (r 8) fun x6 => mBool (r 9) fun x7 => K (x, x1, x2, x3, x4, x5, x6, x7) }
theorem slices_pdqsortOrdered_string_p0_ok : slices_pdqsortOrdered_string_p0.ok := by
  intro r K h
  unfold slices_pdqsortOrdered_string_p0 at h
  obtain ⟨x, x1, x2, e0, h⟩ := mSlice_elim h
  obtain ⟨x3, e1, h⟩ := mInt_elim h
  obtain ⟨x4, e2, h⟩ := mInt_elim h
  obtain ⟨x5, e3, h⟩ := mInt_elim h
  obtain ⟨x6, e4, h⟩ := mBool_elim h
  obtain ⟨x7, e5, h⟩ := mBool_elim h
  exact ⟨(x, x1, x2, x3, x4, x5, x6, x7), regsOf_self (L := [(0, (.slice x x1 x2)), (1, (.int .i64 x3)), (2, (.int .i64 x4)), (3, (.int .i64 x5)), (8, (.bool x6)), (9, (.bool x7))]) (List.forall_mem_cons.2 ⟨e0, List.forall_mem_cons.2 ⟨e1, List.forall_mem_cons.2 ⟨e2, List.forall_mem_cons.2 ⟨e3, List.forall_mem_cons.2 ⟨e4, List.forall_mem_cons.2 ⟨e5, List.forall_mem_nil _⟩⟩⟩⟩⟩⟩), h⟩
theorem slices_pdqsortOrdered_string_p0_re (s : (Option Addr) × Nat × Nat × Int × Int × Int × Bool × Bool) (r : Regs) (K : ((Option Addr) × Nat × Nat × Int × Int × Int × Bool × Bool) → Prop) (h : K s) : slices_pdqsortOrdered_string_p0.dec (regsOf (slices_pdqsortOrdered_string_p0.slots s) r) K := by
  obtain ⟨x8, x9, x10, x11, x12, x13, x14, x15⟩ := s
  exact cast (show K (x8, x9, x10, x11, x12, x13, x14, x15) = slices_pdqsortOrdered_string_p0.dec (regsOf (slices_pdqsortOrdered_string_p0.slots (x8, x9, x10, x11, x12, x13, x14, x15)) r) K by kernel_rfl) h

def slices_pdqsortOrdered_string_p1 : Point ((Option Addr) × Nat × Nat × Int × Int × Int × Bool × Bool × Int) := { slots := fun s => [(0, (.slice s.1 s.2.1 s.2.2.1)), (1, (.int .i64 s.2.2.2.1)), (2, (.int .i64 s.2.2.2.2.1)), (3, (.int .i64 s.2.2.2.2.2.1)), (8, (.bool s.2.2.2.2.2.2.1)), (9, (.bool s.2.2.2.2.2.2.2.1)), (10, (.int .i64 s.2.2.2.2.2.2.2.2))], dec := fun r K => mSlice (r 0) fun x x1 x2 => mInt .i64 (r 1) fun x3 => mInt .i64 (r 2) fun x4 => mInt .i64 (r 3) fun x5 => mBool (r 8) fun x6 => mBool (r 9) fun x7 => mInt .i64 (r 10) fun x8 => K (x, x1, x2, x3, x4, x5, x6, x7, x8) }
theorem slices_pdqsortOrdered_string_p1_ok : slices_pdqsortOrdered_string_p1.ok := by
  intro r K h
  unfold slices_pdqsortOrdered_string_p1 at h
  obtain ⟨x, x1, x2, e0, h⟩ := mSlice_elim h
  obtain ⟨x3, e1, h⟩ := mInt_elim h
  obtain ⟨x4, e2, h⟩ := mInt_elim h
  obtain ⟨x5, e3, h⟩ := mInt_elim h
  obtain ⟨x6, e4, h⟩ := mBool_elim h
  obtain ⟨x7, e5, h⟩ := mBool_elim h
  obtain ⟨x8, e6, h⟩ := mInt_elim h
  exact ⟨(x, x1, x2, x3, x4, x5, x6, x7, x8), regsOf_self (L := [(0, (.slice x x1 x2)), (1, (.int .i64 x3)), (2, (.int .i64 x4)), (3, (.int .i64 x5)), (8, (.bool x6)), (9, (.bool x7)), (10, (.int .i64 x8))]) (List.forall_mem_cons.2 ⟨e0, List.forall_mem_cons.2 ⟨e1, List.forall_mem_cons.2 ⟨e2, List.forall_mem_cons.2 ⟨e3, List.forall_mem_cons.2 ⟨e4, List.forall_mem_cons.2 ⟨e5, List.forall_mem_cons.2 ⟨e6, List.forall_mem_nil _⟩⟩⟩⟩⟩⟩⟩), h⟩
theorem slices_pdqsortOrdered_string_p1_re (s : (Option Addr) × Nat × Nat × Int × Int × Int × Bool × Bool × Int) (r : Regs) (K : ((Option Addr) × Nat × Nat × Int × Int × Int × Bool × Bool × Int) → Prop) (h : K s) : slices_pdqsortOrdered_string_p1.dec (regsOf (slices_pdqsortOrdered_string_p1.slots s) r) K := by
  obtain ⟨x9, x10, x11, x12, x13, x14, x15, x16, x17⟩ := s
  exact cast (show K (x9, x10, x11, x12, x13, x14, x15, x16, x17) = slices_pdqsortOrdered_string_p1.dec (regsOf (slices_pdqsortOrdered_string_p1.slots (x9, x10, x11, x12, x13, x14, x15, x16, x17)) r) K by kernel_rfl) h

def slices_pdqsortOrdered_string_p2 : Point ((Option Addr) × Nat × Nat × Int × Int × Int × Bool × Bool × Int × Int × Int) := { slots := fun s => [(0, (.slice s.1 s.2.1 s.2.2.1)), (1, (.int .i64 s.2.2.2.1)), (2, (.int .i64 s.2.2.2.2.1)), (3, (.int .i64 s.2.2.2.2.2.1)), (8, (.bool s.2.2.2.2.2.2.1)), (9, (.bool s.2.2.2.2.2.2.2.1)), (10, (.int .i64 s.2.2.2.2.2.2.2.2.1)), (11, (.int .i64 s.2.2.2.2.2.2.2.2.2.1)), (12, (.int .i64 s.2.2.2.2.2.2.2.2.2.2))], dec := fun r K => mSlice (r 0) fun x x1 x2 => mInt .i64 (r 1) fun x3 => mInt .i64 (r 2) fun x4 => mInt .i64 (r 3) fun x5 => mBool (r 8) fun x6 => mBool (r 9) fun x7 => mInt .i64 (r 10) fun x8 => mInt .i64 (r 11) fun x9 => mInt .i64 (r 12) fun x10 => K (x, x1, x2, x3, x4, x5, x6, x7, x8, x9, x10) }
theorem slices_pdqsortOrdered_string_p2_ok : slices_pdqsortOrdered_string_p2.ok := by
  intro r K h
  unfold slices_pdqsortOrdered_string_p2 at h
  obtain ⟨x, x1, x2, e0, h⟩ := mSlice_elim h
  obtain ⟨x3, e1, h⟩ := mInt_elim h
  obtain ⟨x4, e2, h⟩ := mInt_elim h
  obtain ⟨x5, e3, h⟩ := mInt_elim h
  obtain ⟨x6, e4, h⟩ := mBool_elim h
  obtain ⟨x7, e5, h⟩ := mBool_elim h
  obtain ⟨x8, e6, h⟩ := mInt_elim h
  obtain ⟨x9, e7, h⟩ := mInt_elim h
  obtain ⟨x10, e8, h⟩ := mInt_elim h
  exact ⟨(x, x1, x2, x3, x4, x5, x6, x7, x8, x9, x10), regsOf_self (L := [(0, (.slice x x1 x2)), (1, (.int .i64 x3)), (2, (.int .i64 x4)), (3, (.int .i64 x5)), (8, (.bool x6)), (9, (.bool x7)), (10, (.int .i64 x8)), (11, (.int .i64 x9)), (12, (.int .i64 x10))]) (List.forall_mem_cons.2 ⟨e0, List.forall_mem_cons.2 ⟨e1, List.forall_mem_cons.2 ⟨e2, List.forall_mem_cons.2 ⟨e3, List.forall_mem_cons.2 ⟨e4, List.forall_mem_cons.2 ⟨e5, List.forall_mem_cons.2 ⟨e6, List.forall_mem_cons.2 ⟨e7, List.forall_mem_cons.2 ⟨e8, List.forall_mem_nil _⟩⟩⟩⟩⟩⟩⟩⟩⟩), h⟩
theorem slices_pdqsortOrdered_string_p2_re (s : (Option Addr) × Nat × Nat × Int × Int × Int × Bool × Bool × Int × Int × Int) (r : Regs) (K : ((Option Addr) × Nat × Nat × Int × Int × Int × Bool × Bool × Int × Int × Int) → Prop) (h : K s) : slices_pdqsortOrdered_string_p2.dec (regsOf (slices_pdqsortOrdered_string_p2.slots s) r) K := by
  obtain ⟨x11, x12, x13, x14, x15, x16, x17, x18, x19, x20, x21⟩ := s
  exact cast (show K (x11, x12, x13, x14, x15, x16, x17, x18, x19, x20, x21) = slices_pdqsortOrdered_string_p2.dec (regsOf (slices_pdqsortOrdered_string_p2.slots (x11, x12, x13, x14, x15, x16, x17, x18, x19, x20, x21)) r) K by kernel_rfl) h

def slices_pdqsortOrdered_string_p3 : Point ((Option Addr) × Nat × Nat × Int × Int × Int × Bool × Bool × Int × Int) := { slots := fun s => [(0, (.slice s.1 s.2.1 s.2.2.1)), (1, (.int .i64 s.2.2.2.1)), (2, (.int .i64 s.2.2.2.2.1)), (3, (.int .i64 s.2.2.2.2.2.1)), (8, (.bool s.2.2.2.2.2.2.1)), (9, (.bool s.2.2.2.2.2.2.2.1)), (10, (.int .i64 s.2.2.2.2.2.2.2.2.1)), (11, (.int .i64 s.2.2.2.2.2.2.2.2.2))], dec := fun r K => mSlice (r 0) fun x x1 x2 => mInt .i64 (r 1) fun x3 => mInt .i64 (r 2) fun x4 => mInt .i64 (r 3) fun x5 => mBool (r 8) fun x6 => mBool (r 9) fun x7 => mInt .i64 (r 10) fun x8 => mInt .i64 (r 11) fun x9 => K (x, x1, x2, x3, x4, x5, x6, x7, x8, x9) }
theorem slices_pdqsortOrdered_string_p3_ok : slices_pdqsortOrdered_string_p3.ok := by
  intro r K h
  unfold slices_pdqsortOrdered_string_p3 at h
  obtain ⟨x, x1, x2, e0, h⟩ := mSlice_elim h
  obtain ⟨x3, e1, h⟩ := mInt_elim h
  obtain ⟨x4, e2, h⟩ := mInt_elim h
  obtain ⟨x5, e3, h⟩ := mInt_elim h
  obtain ⟨x6, e4, h⟩ := mBool_elim h
  obtain ⟨x7, e5, h⟩ := mBool_elim h
  obtain ⟨x8, e6, h⟩ := mInt_elim h
  obtain ⟨x9, e7, h⟩ := mInt_elim h
  exact ⟨(x, x1, x2, x3, x4, x5, x6, x7, x8, x9), regsOf_self (L := [(0, (.slice x x1 x2)), (1, (.int .i64 x3)), (2, (.int .i64 x4)), (3, (.int .i64 x5)), (8, (.bool x6)), (9, (.bool x7)), (10, (.int .i64 x8)), (11, (.int .i64 x9))]) (List.forall_mem_cons.2 ⟨e0, List.forall_mem_cons.2 ⟨e1, List.forall_mem_cons.2 ⟨e2, List.forall_mem_cons.2 ⟨e3, List.forall_mem_cons.2 ⟨e4, List.forall_mem_cons.2 ⟨e5, List.forall_mem_cons.2 ⟨e6, List.forall_mem_cons.2 ⟨e7, List.forall_mem_nil _⟩⟩⟩⟩⟩⟩⟩⟩), h⟩
theorem slices_pdqsortOrdered_string_p3_re (s : (Option Addr) × Nat × Nat × Int × Int × Int × Bool × Bool × Int × Int) (r : Regs) (K : ((Option Addr) × Nat × Nat × Int × Int × Int × Bool × Bool × Int × Int) → Prop) (h : K s) : slices_pdqsortOrdered_string_p3.dec (regsOf (slices_pdqsortOrdered_string_p3.slots s) r) K := by
  obtain ⟨x10, x11, x12, x13, x14, x15, x16, x17, x18, x19⟩ := s
  exact cast (show K (x10, x11, x12, x13, x14, x15, x16, x17, x18, x19) = slices_pdqsortOrdered_string_p3.dec (regsOf (slices_pdqsortOrdered_string_p3.slots (x10, x11, x12, x13, x14, x15, x16, x17, x18, x19)) r) K by kernel_rfl) h

theorem slices_pdqsortOrdered_string_sound (data : Option Addr) (data_n : Nat) (data_c : Nat) (a : Int) (b : Int) (limit : Int) (R : Value → World → Prop) (w : World) (h : slices_pdqsortOrdered_string_b5 data data_n data_c a b limit R w) :
    CallR Try.prog fn_slices_pdqsortOrdered_string #[(.slice data data_n data_c), (.int .i64 a), (.int .i64 b), (.int .i64 limit)] w R := by
  refine CallR_intro (args := [(.slice data data_n data_c), (.int .i64 a), (.int .i64 b), (.int .i64 limit)]) Try.func56 rfl (Nat.le_of_ble_eq_true (by kernel_rfl)) ?_
  refine Wp_glue slices_pdqsortOrdered_string_p0 (fun s w => slices_pdqsortOrdered_string_b4 s.1 s.2.1 s.2.2.1 s.2.2.2.1 s.2.2.2.2.1 s.2.2.2.2.2.1 s.2.2.2.2.2.2.1 s.2.2.2.2.2.2.2 R w) [_, _] (Q0 := fun e _ r w => match e with | .normal => slices_pdqsortOrdered_string_p0.dec r (fun s => slices_pdqsortOrdered_string_b4 s.1 s.2.1 s.2.2.1 s.2.2.2.1 s.2.2.2.2.1 s.2.2.2.2.2.1 s.2.2.2.2.2.2.1 s.2.2.2.2.2.2.2 R w) | .exit _ => False | .ret => retQ Try.prog Try.f56.results R .ret [] r w | _ => False) h (by kernel_rfl) (fun s r w h => ?_) slices_pdqsortOrdered_string_p0_ok (fun _ _ _ h => h) ?_
  · obtain ⟨data1, data_n1, data_c1, a1, b1, limit1, wasBalanced, wasPartitioned⟩ := s
    have h : slices_pdqsortOrdered_string_b4 data1 data_n1 data_c1 a1 b1 limit1 wasBalanced wasPartitioned R w := h
    refine Wp_block ?_
    refine Wp_loop (p := slices_pdqsortOrdered_string_p0) slices_pdqsortOrdered_string_p0_ok (fun s r w K0 h => ?_) h
    obtain ⟨data2, data_n2, data_c2, a2, b2, limit2, wasBalanced1, wasPartitioned1⟩ := s
    have h : slices_pdqsortOrdered_string_b3 data2 data_n2 data_c2 a2 b2 limit2 wasBalanced1 wasPartitioned1 K0 R w := h
    have hK2 := fun (s : (Option Addr) × Nat × Nat × Int × Int × Int × Bool × Bool) (r : Regs) (w : World) (h : K0 s w) => slices_pdqsortOrdered_string_p0_re s r (fun s => K0 s w) h
    refine Wp_block_via slices_pdqsortOrdered_string_p0 (fun s w => K0 s w) hK2 (fun hX3 => ?_)
    refine Wp_glue slices_pdqsortOrdered_string_p1 (fun s w => slices_pdqsortOrdered_string_b2 s.1 s.2.1 s.2.2.1 s.2.2.2.1 s.2.2.2.2.1 s.2.2.2.2.2.1 s.2.2.2.2.2.2.1 s.2.2.2.2.2.2.2.1 s.2.2.2.2.2.2.2.2 K0 R w) [_, _, _, _] (Q0 := fun e _ r w => match e with | .normal => slices_pdqsortOrdered_string_p1.dec r (fun s => slices_pdqsortOrdered_string_b2 s.1 s.2.1 s.2.2.1 s.2.2.2.1 s.2.2.2.2.1 s.2.2.2.2.2.1 s.2.2.2.2.2.2.1 s.2.2.2.2.2.2.2.1 s.2.2.2.2.2.2.2.2 K0 R w) | .exit i => exitQ i 1 (slices_pdqsortOrdered_string_p0.dec r (fun s => K0 s w)) (False) | .ret => retQ Try.prog Try.f56.results R .ret [] r w | _ => False) h (by kernel_rfl) (fun s r w h => ?_) slices_pdqsortOrdered_string_p1_ok (fun _ _ _ h => h) ?_
    · obtain ⟨data3, data_n3, data_c3, a3, b3, limit3, wasBalanced2, wasPartitioned2, length⟩ := s
      have h : slices_pdqsortOrdered_string_b2 data3 data_n3 data_c3 a3 b3 limit3 wasBalanced2 wasPartitioned2 length K0 R w := h
      refine Wp_glue slices_pdqsortOrdered_string_p2 (fun s w => slices_pdqsortOrdered_string_b1 s.1 s.2.1 s.2.2.1 s.2.2.2.1 s.2.2.2.2.1 s.2.2.2.2.2.1 s.2.2.2.2.2.2.1 s.2.2.2.2.2.2.2.1 s.2.2.2.2.2.2.2.2.1 s.2.2.2.2.2.2.2.2.2.1 s.2.2.2.2.2.2.2.2.2.2 K0 R w) [_, _] (Q0 := fun e _ r w => match e with | .normal => slices_pdqsortOrdered_string_p2.dec r (fun s => slices_pdqsortOrdered_string_b1 s.1 s.2.1 s.2.2.1 s.2.2.2.1 s.2.2.2.2.1 s.2.2.2.2.2.1 s.2.2.2.2.2.2.1 s.2.2.2.2.2.2.2.1 s.2.2.2.2.2.2.2.2.1 s.2.2.2.2.2.2.2.2.2.1 s.2.2.2.2.2.2.2.2.2.2 K0 R w) | .exit i => exitQ i 1 (slices_pdqsortOrdered_string_p0.dec r (fun s => K0 s w)) (False) | .ret => retQ Try.prog Try.f56.results R .ret [] r w | _ => False) h (by kernel_rfl) (fun s r w h => ?_) slices_pdqsortOrdered_string_p2_ok (fun _ _ _ h => h) ?_
      · obtain ⟨data4, data_n4, data_c4, a4, b4, limit4, wasBalanced3, wasPartitioned3, length1, pivot, hint⟩ := s
        have h : slices_pdqsortOrdered_string_b1 data4 data_n4 data_c4 a4 b4 limit4 wasBalanced3 wasPartitioned3 length1 pivot hint K0 R w := h
        refine Wp_glue slices_pdqsortOrdered_string_p3 (fun s w => slices_pdqsortOrdered_string_b0 s.1 s.2.1 s.2.2.1 s.2.2.2.1 s.2.2.2.2.1 s.2.2.2.2.2.1 s.2.2.2.2.2.2.1 s.2.2.2.2.2.2.2.1 s.2.2.2.2.2.2.2.2.1 s.2.2.2.2.2.2.2.2.2 K0 w) [_] (Q0 := fun e _ r w => match e with | .normal => slices_pdqsortOrdered_string_p3.dec r (fun s => slices_pdqsortOrdered_string_b0 s.1 s.2.1 s.2.2.1 s.2.2.2.1 s.2.2.2.2.1 s.2.2.2.2.2.1 s.2.2.2.2.2.2.1 s.2.2.2.2.2.2.2.1 s.2.2.2.2.2.2.2.2.1 s.2.2.2.2.2.2.2.2.2 K0 w) | .exit i => exitQ i 1 (slices_pdqsortOrdered_string_p0.dec r (fun s => K0 s w)) (False) | .ret => retQ Try.prog Try.f56.results R .ret [] r w | _ => False) h (by kernel_rfl) (fun s r w h => ?_) slices_pdqsortOrdered_string_p3_ok (fun _ _ _ h => h) ?_
        · obtain ⟨data5, data_n5, data_c5, a5, b5, limit5, wasBalanced4, wasPartitioned4, length2, pivot1⟩ := s
          have h : slices_pdqsortOrdered_string_b0 data5 data_n5 data_c5 a5 b5 limit5 wasBalanced4 wasPartitioned4 length2 pivot1 K0 w := h
          refine Wp_leaf_end (Q0 := fun e _ r w => match e with | .normal => slices_pdqsortOrdered_string_p0.dec r (fun s => K0 s w) | .exit i => exitQ i 1 (slices_pdqsortOrdered_string_p0.dec r (fun s => K0 s w)) (False) | .ret => retQ Try.prog Try.f56.results R .ret [] r w | _ => False) h (by kernel_rfl) ?_
          intro e _ r w h
          cases e with
          | normal =>
            obtain ⟨s, hs, h⟩ := slices_pdqsortOrdered_string_p0_ok _ _ h
            rw [← hs]
            exact hK2 s r w h
          | exit i =>
            rcases exitQ_elim h with ⟨rfl, h⟩ | ⟨_, h⟩
            · obtain ⟨s, hs, h⟩ := slices_pdqsortOrdered_string_p0_ok _ _ h
              rw [← hs]
              exact hX3 s r w h
            exact h.elim
          | ret => exact h
          | goto i => exact h.elim
          | panic c => exact h.elim
          | outgrown => exact h.elim
        · intro e _ r w hne h
          cases e with
          | normal => exact absurd rfl hne
          | exit i =>
            rcases exitQ_elim h with ⟨rfl, h⟩ | ⟨_, h⟩
            · obtain ⟨s, hs, h⟩ := slices_pdqsortOrdered_string_p0_ok _ _ h
              rw [← hs]
              exact hX3 s r w h
            exact h.elim
          | ret => exact h
          | goto i => exact h.elim
          | panic c => exact h.elim
          | outgrown => exact h.elim
      · intro e _ r w hne h
        cases e with
        | normal => exact absurd rfl hne
        | exit i =>
          rcases exitQ_elim h with ⟨rfl, h⟩ | ⟨_, h⟩
          · obtain ⟨s, hs, h⟩ := slices_pdqsortOrdered_string_p0_ok _ _ h
            rw [← hs]
            exact hX3 s r w h
          exact h.elim
        | ret => exact h
        | goto i => exact h.elim
        | panic c => exact h.elim
        | outgrown => exact h.elim
    · intro e _ r w hne h
      cases e with
      | normal => exact absurd rfl hne
      | exit i =>
        rcases exitQ_elim h with ⟨rfl, h⟩ | ⟨_, h⟩
        · obtain ⟨s, hs, h⟩ := slices_pdqsortOrdered_string_p0_ok _ _ h
          rw [← hs]
          exact hX3 s r w h
        exact h.elim
      | ret => exact h
      | goto i => exact h.elim
      | panic c => exact h.elim
      | outgrown => exact h.elim
  · intro e _ r w hne h
    cases e with
    | normal => exact absurd rfl hne
    | exit i => exact h.elim
    | ret => exact h
    | goto i => exact h.elim
    | panic c => exact h.elim
    | outgrown => exact h.elim

/- math/bits.Len -/
def math_bits_Len_b0 (x : Int) (R : Value → World → Prop) (w : World) : Prop :=
  CallR Try.prog fn_math_bits_Len64 #[(.int .u64 x)] w fun res w_ =>
  mInt .i64 res fun v =>
  R (.int .i64 v) w_

theorem math_bits_Len_sound (x : Int) (R : Value → World → Prop) (w : World) (h : math_bits_Len_b0 x R w) :
    CallR Try.prog fn_math_bits_Len #[(.int .u64 x)] w R := by
  refine CallR_intro (args := [(.int .u64 x)]) Try.func57 rfl (Nat.le_of_ble_eq_true (by kernel_rfl)) ?_
  refine Wp_leaf_end (Q0 := fun e _ r w => match e with | .normal => retQ Try.prog Try.f57.results R .normal [] r w | .exit _ => False | .ret => retQ Try.prog Try.f57.results R .ret [] r w | _ => False) h (by kernel_rfl) ?_
  intro e _ r w h
  cases e with
  | normal => exact h
  | exit i => exact h.elim
  | ret => exact h
  | goto i => exact h.elim
  | panic c => exact h.elim
  | outgrown => exact h.elim

/- math/bits.Len64 -/
def math_bits_Len64_b0 (x2 : Int) (n1 : Int) (R : Value → World → Prop) (w : World) : Prop :=
  Br (decide (x2 ≥ 256)) (
  Req (0 ≤ (8 : Int)) (
  SIX (ByteArray.mk #[0, 1, 2, 2, 3, 3, 3, 3, 4, 4, 4, 4, 4, 4, 4, 4, 5, 5, 5, 5, 5, 5, 5, 5, 5, 5, 5, 5, 5, 5, 5, 5, 6, 6, 6, 6, 6, 6, 6, 6, 6, 6, 6, 6, 6, 6, 6, 6, 6, 6, 6, 6, 6, 6, 6, 6, 6, 6, 6, 6, 6, 6, 6, 6, 7, 7, 7, 7, 7, 7, 7, 7, 7, 7, 7, 7, 7, 7, 7, 7, 7, 7, 7, 7, 7, 7, 7, 7, 7, 7, 7, 7, 7, 7, 7, 7, 7, 7, 7, 7, 7, 7, 7, 7, 7, 7, 7, 7, 7, 7, 7, 7, 7, 7, 7, 7, 7, 7, 7, 7, 7, 7, 7, 7, 7, 7, 7, 7, 8, 8, 8, 8, 8, 8, 8, 8, 8, 8, 8, 8, 8, 8, 8, 8, 8, 8, 8, 8, 8, 8, 8, 8, 8, 8, 8, 8, 8, 8, 8, 8, 8, 8, 8, 8, 8, 8, 8, 8, 8, 8, 8, 8, 8, 8, 8, 8, 8, 8, 8, 8, 8, 8, 8, 8, 8, 8, 8, 8, 8, 8, 8, 8, 8, 8, 8, 8, 8, 8, 8, 8, 8, 8, 8, 8, 8, 8, 8, 8, 8, 8, 8, 8, 8, 8, 8, 8, 8, 8, 8, 8, 8, 8, 8, 8, 8, 8, 8, 8, 8, 8, 8, 8, 8, 8, 8, 8, 8, 8, 8, 8, 8, 8, 8, 8, 8, 8, 8, 8, 8, 8, 8, 8, 8, 8, 8, 8]) (IntKind.wrap .u8 (Int.fdiv x2 (2 ^ (min (Int.toNat 8) (IntKind.bits .u64))))) fun c =>
  R (.int .i64 (IntKind.wrap .i64 ((IntKind.wrap .i64 (n1 + 8)) + (IntKind.wrap .i64 (UInt8.toNat c : Int))))) w)) (
  SIX (ByteArray.mk #[0, 1, 2, 2, 3, 3, 3, 3, 4, 4, 4, 4, 4, 4, 4, 4, 5, 5, 5, 5, 5, 5, 5, 5, 5, 5, 5, 5, 5, 5, 5, 5, 6, 6, 6, 6, 6, 6, 6, 6, 6, 6, 6, 6, 6, 6, 6, 6, 6, 6, 6, 6, 6, 6, 6, 6, 6, 6, 6, 6, 6, 6, 6, 6, 7, 7, 7, 7, 7, 7, 7, 7, 7, 7, 7, 7, 7, 7, 7, 7, 7, 7, 7, 7, 7, 7, 7, 7, 7, 7, 7, 7, 7, 7, 7, 7, 7, 7, 7, 7, 7, 7, 7, 7, 7, 7, 7, 7, 7, 7, 7, 7, 7, 7, 7, 7, 7, 7, 7, 7, 7, 7, 7, 7, 7, 7, 7, 7, 8, 8, 8, 8, 8, 8, 8, 8, 8, 8, 8, 8, 8, 8, 8, 8, 8, 8, 8, 8, 8, 8, 8, 8, 8, 8, 8, 8, 8, 8, 8, 8, 8, 8, 8, 8, 8, 8, 8, 8, 8, 8, 8, 8, 8, 8, 8, 8, 8, 8, 8, 8, 8, 8, 8, 8, 8, 8, 8, 8, 8, 8, 8, 8, 8, 8, 8, 8, 8, 8, 8, 8, 8, 8, 8, 8, 8, 8, 8, 8, 8, 8, 8, 8, 8, 8, 8, 8, 8, 8, 8, 8, 8, 8, 8, 8, 8, 8, 8, 8, 8, 8, 8, 8, 8, 8, 8, 8, 8, 8, 8, 8, 8, 8, 8, 8, 8, 8, 8, 8, 8, 8, 8, 8, 8, 8, 8, 8]) (IntKind.wrap .u8 x2) fun c1 =>
  R (.int .i64 (IntKind.wrap .i64 (n1 + (IntKind.wrap .i64 (UInt8.toNat c1 : Int))))) w)

def math_bits_Len64_b1 (x1 : Int) (n : Int) (R : Value → World → Prop) (w : World) : Prop :=
  Br (decide (x1 ≥ 65536)) (
  Req (0 ≤ (16 : Int)) (
  math_bits_Len64_b0 (Int.fdiv x1 (2 ^ (min (Int.toNat 16) (IntKind.bits .u64)))) (IntKind.wrap .i64 (n + 16)) R w)) (
  math_bits_Len64_b0 x1 n R w)

def math_bits_Len64_b2 (x : Int) (R : Value → World → Prop) (w : World) : Prop :=
  Br (decide (x ≥ 4294967296)) (
  Req (0 ≤ (32 : Int)) (
  math_bits_Len64_b1 (Int.fdiv x (2 ^ (min (Int.toNat 32) (IntKind.bits .u64)))) 32 R w)) (
  math_bits_Len64_b1 x 0 R w)

def math_bits_Len64_p0 : Point (Int × Int) := { slots := fun s => [(0, (.int .u64 s.1)), (2, (.int .i64 s.2))], dec := fun r K => mInt .u64 (r 0) fun x => mInt .i64 (r 2) fun x1 => K (x, x1) }
theorem math_bits_Len64_p0_ok : math_bits_Len64_p0.ok := by
  intro r K h
  unfold math_bits_Len64_p0 at h
  obtain ⟨x, e0, h⟩ := mInt_elim h
  obtain ⟨x1, e1, h⟩ := mInt_elim h
  exact ⟨(x, x1), regsOf_self (L := [(0, (.int .u64 x)), (2, (.int .i64 x1))]) (List.forall_mem_cons.2 ⟨e0, List.forall_mem_cons.2 ⟨e1, List.forall_mem_nil _⟩⟩), h⟩
theorem math_bits_Len64_p0_re (s : Int × Int) (r : Regs) (K : (Int × Int) → Prop) (h : K s) : math_bits_Len64_p0.dec (regsOf (math_bits_Len64_p0.slots s) r) K := by
  obtain ⟨x2, x3⟩ := s
  exact cast (show K (x2, x3) = math_bits_Len64_p0.dec (regsOf (math_bits_Len64_p0.slots (x2, x3)) r) K by kernel_rfl) h

def math_bits_Len64_p1 : Point (Int × Int) := { slots := fun s => [(0, (.int .u64 s.1)), (2, (.int .i64 s.2))], dec := fun r K => mInt .u64 (r 0) fun x => mInt .i64 (r 2) fun x1 => K (x, x1) }
theorem math_bits_Len64_p1_ok : math_bits_Len64_p1.ok := by
  intro r K h
  unfold math_bits_Len64_p1 at h
  obtain ⟨x, e0, h⟩ := mInt_elim h
  obtain ⟨x1, e1, h⟩ := mInt_elim h
  exact ⟨(x, x1), regsOf_self (L := [(0, (.int .u64 x)), (2, (.int .i64 x1))]) (List.forall_mem_cons.2 ⟨e0, List.forall_mem_cons.2 ⟨e1, List.forall_mem_nil _⟩⟩), h⟩
theorem math_bits_Len64_p1_re (s : Int × Int) (r : Regs) (K : (Int × Int) → Prop) (h : K s) : math_bits_Len64_p1.dec (regsOf (math_bits_Len64_p1.slots s) r) K := by
  obtain ⟨x2, x3⟩ := s
  exact cast (show K (x2, x3) = math_bits_Len64_p1.dec (regsOf (math_bits_Len64_p1.slots (x2, x3)) r) K by kernel_rfl) h

theorem math_bits_Len64_sound (x : Int) (R : Value → World → Prop) (w : World) (h : math_bits_Len64_b2 x R w) :
    CallR Try.prog fn_math_bits_Len64 #[(.int .u64 x)] w R := by
  refine CallR_intro (args := [(.int .u64 x)]) Try.func68 rfl (Nat.le_of_ble_eq_true (by kernel_rfl)) ?_
  refine Wp_glue math_bits_Len64_p0 (fun s w => math_bits_Len64_b1 s.1 s.2 R w) [_, _] (Q0 := fun e _ r w => match e with | .normal => math_bits_Len64_p0.dec r (fun s => math_bits_Len64_b1 s.1 s.2 R w) | .exit _ => False | .ret => retQ Try.prog Try.f68.results R .ret [] r w | _ => False) h (by kernel_rfl) (fun s r w h => ?_) math_bits_Len64_p0_ok (fun _ _ _ h => h) ?_
  · obtain ⟨x1, n⟩ := s
    have h : math_bits_Len64_b1 x1 n R w := h
    refine Wp_glue math_bits_Len64_p1 (fun s w => math_bits_Len64_b0 s.1 s.2 R w) [_] (Q0 := fun e _ r w => match e with | .normal => math_bits_Len64_p1.dec r (fun s => math_bits_Len64_b0 s.1 s.2 R w) | .exit _ => False | .ret => retQ Try.prog Try.f68.results R .ret [] r w | _ => False) h (by kernel_rfl) (fun s r w h => ?_) math_bits_Len64_p1_ok (fun _ _ _ h => h) ?_
    · obtain ⟨x2, n1⟩ := s
      have h : math_bits_Len64_b0 x2 n1 R w := h
      refine Wp_leaf_end (Q0 := fun e _ r w => match e with | .normal => retQ Try.prog Try.f68.results R .normal [] r w | .exit _ => False | .ret => retQ Try.prog Try.f68.results R .ret [] r w | _ => False) h (by kernel_rfl) ?_
      intro e _ r w h
      cases e with
      | normal => exact h
      | exit i => exact h.elim
      | ret => exact h
      | goto i => exact h.elim
      | panic c => exact h.elim
      | outgrown => exact h.elim
    · intro e _ r w hne h
      cases e with
      | normal => exact absurd rfl hne
      | exit i => exact h.elim
      | ret => exact h
      | goto i => exact h.elim
      | panic c => exact h.elim
      | outgrown => exact h.elim
  · intro e _ r w hne h
    cases e with
    | normal => exact absurd rfl hne
    | exit i => exact h.elim
    | ret => exact h
    | goto i => exact h.elim
    | panic c => exact h.elim
    | outgrown => exact h.elim

/- slices.insertionSortOrdered[string] -/
def slices_insertionSortOrdered_string_b0 (data6 : Option Addr) (data_n6 : Nat) (data_c6 : Nat) (a12 : Int) (b6 : Int) (i5 : Int) (K0 : ((Option Addr) × Nat × Nat × Int × Int × Int) → World → Prop) (w : World) : Prop :=
  K0 (data6, data_n6, data_c6, a12, b6, IntKind.wrap .i64 (i5 + 1)) w

def slices_insertionSortOrdered_string_b1 (data5 : Option Addr) (data_n5 : Nat) (data_c5 : Nat) (a5 : Int) (b5 : Int) (i4 : Int) (j1 : Int) (K0 : ((Option Addr) × Nat × Nat × Int × Int × Int) → World → Prop) (K1 : ((Option Addr) × Nat × Nat × Int × Int × Int × Int) → World → Prop) (w : World) : Prop :=
  LetW (World.drew w) fun w_ =>
  Br (decide (j1 > a5)) (
  IX data5 data_n5 j1 1 fun a6 =>
  LDS w_ a6 fun v =>
  IX data5 data_n5 (IntKind.wrap .i64 (j1 - 1)) 1 fun a7 =>
  LDS w_ a7 fun v1 =>
  CallR Try.prog fn_cmp_Less_string #[(.string v), (.string v1)] w_ fun res w_1 =>
  mBool res fun v2 =>
  Br v2 (
  LetW (World.drew w_1) fun w_2 =>
  IX data5 data_n5 (IntKind.wrap .i64 (j1 - 1)) 1 fun a8 =>
  LDS w_2 a8 fun v3 =>
  IX data5 data_n5 j1 1 fun a9 =>
  LDS w_2 a9 fun v4 =>
  IX data5 data_n5 j1 1 fun a10 =>
  ST w_2 a10 (.string v3) fun w_3 =>
  IX data5 data_n5 (IntKind.wrap .i64 (j1 - 1)) 1 fun a11 =>
  ST w_3 a11 (.string v4) fun w_4 =>
  K1 (data5, data_n5, data_c5, a5, b5, i4, IntKind.wrap .i64 (j1 - 1)) w_4) (
  slices_insertionSortOrdered_string_b0 data5 data_n5 data_c5 a5 b5 i4 K0 w_1)) (
  slices_insertionSortOrdered_string_b0 data5 data_n5 data_c5 a5 b5 i4 K0 w_)

def slices_insertionSortOrdered_string_b2 (data4 : Option Addr) (data_n4 : Nat) (data_c4 : Nat) (a4 : Int) (b4 : Int) (i3 : Int) (j : Int) (K0 : ((Option Addr) × Nat × Nat × Int × Int × Int) → World → Prop) (w : World) : Prop :=
  LoopS (σ := (Option Addr) × Nat × Nat × Int × Int × Int × Int) (fun s w K1 =>
  slices_insertionSortOrdered_string_b1 s.1 s.2.1 s.2.2.1 s.2.2.2.1 s.2.2.2.2.1 s.2.2.2.2.2.1 s.2.2.2.2.2.2 K0 K1 w) (data4, data_n4, data_c4, a4, b4, i3, j) w

def slices_insertionSortOrdered_string_b3 (data3 : Option Addr) (data_n3 : Nat) (data_c3 : Nat) (a3 : Int) (b3 : Int) (i2 : Int) (K0 : ((Option Addr) × Nat × Nat × Int × Int × Int) → World → Prop) (w : World) : Prop :=
  slices_insertionSortOrdered_string_b2 data3 data_n3 data_c3 a3 b3 i2 i2 K0 w

def slices_insertionSortOrdered_string_b4 (R : Value → World → Prop) (w : World) : Prop :=
  R (.tuple #[]) w

def slices_insertionSortOrdered_string_b5 (data2 : Option Addr) (data_n2 : Nat) (data_c2 : Nat) (a2 : Int) (b2 : Int) (i1 : Int) (K0 : ((Option Addr) × Nat × Nat × Int × Int × Int) → World → Prop) (R : Value → World → Prop) (w : World) : Prop :=
  Br (decide (i1 < b2)) (
  slices_insertionSortOrdered_string_b3 data2 data_n2 data_c2 a2 b2 i1 K0 w) (
  slices_insertionSortOrdered_string_b4 R w)

def slices_insertionSortOrdered_string_b6 (data1 : Option Addr) (data_n1 : Nat) (data_c1 : Nat) (a1 : Int) (b1 : Int) (i : Int) (R : Value → World → Prop) (w : World) : Prop :=
  LoopS (σ := (Option Addr) × Nat × Nat × Int × Int × Int) (fun s w K0 =>
  slices_insertionSortOrdered_string_b5 s.1 s.2.1 s.2.2.1 s.2.2.2.1 s.2.2.2.2.1 s.2.2.2.2.2 K0 R w) (data1, data_n1, data_c1, a1, b1, i) w

def slices_insertionSortOrdered_string_b7 (data : Option Addr) (data_n : Nat) (data_c : Nat) (a : Int) (b : Int) (R : Value → World → Prop) (w : World) : Prop :=
  slices_insertionSortOrdered_string_b6 data data_n data_c a b (IntKind.wrap .i64 (a + 1)) R w

def slices_insertionSortOrdered_string_p0 : Point ((Option Addr) × Nat × Nat × Int × Int × Int) := { slots := fun s => [(0, (.slice s.1 s.2.1 s.2.2.1)), (1, (.int .i64 s.2.2.2.1)), (2, (.int .i64 s.2.2.2.2.1)), (6, (.int .i64 s.2.2.2.2.2))], dec := fun r K => mSlice (r 0) fun x x1 x2 => mInt .i64 (r 1) fun x3 => mInt .i64 (r 2) fun x4 => mInt .i64 (r 6) fun x5 => K (x, x1, x2, x3, x4, x5) }
theorem slices_insertionSortOrdered_string_p0_ok : slices_insertionSortOrdered_string_p0.ok := by
  intro r K h
  unfold slices_insertionSortOrdered_string_p0 at h
  obtain ⟨x, x1, x2, e0, h⟩ := mSlice_elim h
  obtain ⟨x3, e1, h⟩ := mInt_elim h
  obtain ⟨x4, e2, h⟩ := mInt_elim h
  obtain ⟨x5, e3, h⟩ := mInt_elim h
  exact ⟨(x, x1, x2, x3, x4, x5), regsOf_self (L := [(0, (.slice x x1 x2)), (1, (.int .i64 x3)), (2, (.int .i64 x4)), (6, (.int .i64 x5))]) (List.forall_mem_cons.2 ⟨e0, List.forall_mem_cons.2 ⟨e1, List.forall_mem_cons.2 ⟨e2, List.forall_mem_cons.2 ⟨e3, List.forall_mem_nil _⟩⟩⟩⟩), h⟩
theorem slices_insertionSortOrdered_string_p0_re (s : (Option Addr) × Nat × Nat × Int × Int × Int) (r : Regs) (K : ((Option Addr) × Nat × Nat × Int × Int × Int) → Prop) (h : K s) : slices_insertionSortOrdered_string_p0.dec (regsOf (slices_insertionSortOrdered_string_p0.slots s) r) K := by
  obtain ⟨x6, x7, x8, x9, x10, x11⟩ := s
  exact cast (show K (x6, x7, x8, x9, x10, x11) = slices_insertionSortOrdered_string_p0.dec (regsOf (slices_insertionSortOrdered_string_p0.slots (x6, x7, x8, x9, x10, x11)) r) K by kernel_rfl) h

def slices_insertionSortOrdered_string_p1 : Point ((Option Addr) × Nat × Nat × Int × Int × Int) := { slots := fun s => [(0, (.slice s.1 s.2.1 s.2.2.1)), (1, (.int .i64 s.2.2.2.1)), (2, (.int .i64 s.2.2.2.2.1)), (6, (.int .i64 s.2.2.2.2.2))], dec := fun r K => mSlice (r 0) fun x x1 x2 => mInt .i64 (r 1) fun x3 => mInt .i64 (r 2) fun x4 => mInt .i64 (r 6) fun x5 => K (x, x1, x2, x3, x4, x5) }
theorem slices_insertionSortOrdered_string_p1_ok : slices_insertionSortOrdered_string_p1.ok := by
  intro r K h
  unfold slices_insertionSortOrdered_string_p1 at h
  obtain ⟨x, x1, x2, e0, h⟩ := mSlice_elim h
  obtain ⟨x3, e1, h⟩ := mInt_elim h
  obtain ⟨x4, e2, h⟩ := mInt_elim h
  obtain ⟨x5, e3, h⟩ := mInt_elim h
  exact ⟨(x, x1, x2, x3, x4, x5), regsOf_self (L := [(0, (.slice x x1 x2)), (1, (.int .i64 x3)), (2, (.int .i64 x4)), (6, (.int .i64 x5))]) (List.forall_mem_cons.2 ⟨e0, List.forall_mem_cons.2 ⟨e1, List.forall_mem_cons.2 ⟨e2, List.forall_mem_cons.2 ⟨e3, List.forall_mem_nil _⟩⟩⟩⟩), h⟩
theorem slices_insertionSortOrdered_string_p1_re (s : (Option Addr) × Nat × Nat × Int × Int × Int) (r : Regs) (K : ((Option Addr) × Nat × Nat × Int × Int × Int) → Prop) (h : K s) : slices_insertionSortOrdered_string_p1.dec (regsOf (slices_insertionSortOrdered_string_p1.slots s) r) K := by
  obtain ⟨x6, x7, x8, x9, x10, x11⟩ := s
  exact cast (show K (x6, x7, x8, x9, x10, x11) = slices_insertionSortOrdered_string_p1.dec (regsOf (slices_insertionSortOrdered_string_p1.slots (x6, x7, x8, x9, x10, x11)) r) K by kernel_rfl) h

def slices_insertionSortOrdered_string_p2 : Point ((Option Addr) × Nat × Nat × Int × Int × Int) := { slots := fun s => [(0, (.slice s.1 s.2.1 s.2.2.1)), (1, (.int .i64 s.2.2.2.1)), (2, (.int .i64 s.2.2.2.2.1)), (6, (.int .i64 s.2.2.2.2.2))], dec := fun r K => mSlice (r 0) fun x x1 x2 => mInt .i64 (r 1) fun x3 => mInt .i64 (r 2) fun x4 => mInt .i64 (r 6) fun x5 => K (x, x1, x2, x3, x4, x5) }
theorem slices_insertionSortOrdered_string_p2_ok : slices_insertionSortOrdered_string_p2.ok := by
  intro r K h
  unfold slices_insertionSortOrdered_string_p2 at h
  obtain ⟨x, x1, x2, e0, h⟩ := mSlice_elim h
  obtain ⟨x3, e1, h⟩ := mInt_elim h
  obtain ⟨x4, e2, h⟩ := mInt_elim h
  obtain ⟨x5, e3, h⟩ := mInt_elim h
  exact ⟨(x, x1, x2, x3, x4, x5), regsOf_self (L := [(0, (.slice x x1 x2)), (1, (.int .i64 x3)), (2, (.int .i64 x4)), (6, (.int .i64 x5))]) (List.forall_mem_cons.2 ⟨e0, List.forall_mem_cons.2 ⟨e1, List.forall_mem_cons.2 ⟨e2, List.forall_mem_cons.2 ⟨e3, List.forall_mem_nil _⟩⟩⟩⟩), h⟩
theorem slices_insertionSortOrdered_string_p2_re (s : (Option Addr) × Nat × Nat × Int × Int × Int) (r : Regs) (K : ((Option Addr) × Nat × Nat × Int × Int × Int) → Prop) (h : K s) : slices_insertionSortOrdered_string_p2.dec (regsOf (slices_insertionSortOrdered_string_p2.slots s) r) K := by
  obtain ⟨x6, x7, x8, x9, x10, x11⟩ := s
  exact cast (show K (x6, x7, x8, x9, x10, x11) = slices_insertionSortOrdered_string_p2.dec (regsOf (slices_insertionSortOrdered_string_p2.slots (x6, x7, x8, x9, x10, x11)) r) K by kernel_rfl) h

def slices_insertionSortOrdered_string_p3 : Point ((Option Addr) × Nat × Nat × Int × Int × Int × Int) := { slots := fun s => [(0, (.slice s.1 s.2.1 s.2.2.1)), (1, (.int .i64 s.2.2.2.1)), (2, (.int .i64 s.2.2.2.2.1)), (6, (.int .i64 s.2.2.2.2.2.1)), (7, (.int .i64 s.2.2.2.2.2.2))], dec := fun r K => mSlice (r 0) fun x x1 x2 => mInt .i64 (r 1) fun x3 => mInt .i64 (r 2) fun x4 => mInt .i64 (r 6) fun x5 => mInt .i64 (r 7) fun x6 => K (x, x1, x2, x3, x4, x5, x6) }
theorem slices_insertionSortOrdered_string_p3_ok : slices_insertionSortOrdered_string_p3.ok := by
  intro r K h
  unfold slices_insertionSortOrdered_string_p3 at h
  obtain ⟨x, x1, x2, e0, h⟩ := mSlice_elim h
  obtain ⟨x3, e1, h⟩ := mInt_elim h
  obtain ⟨x4, e2, h⟩ := mInt_elim h
  obtain ⟨x5, e3, h⟩ := mInt_elim h
  obtain ⟨x6, e4, h⟩ := mInt_elim h
  exact ⟨(x, x1, x2, x3, x4, x5, x6), regsOf_self (L := [(0, (.slice x x1 x2)), (1, (.int .i64 x3)), (2, (.int .i64 x4)), (6, (.int .i64 x5)), (7, (.int .i64 x6))]) (List.forall_mem_cons.2 ⟨e0, List.forall_mem_cons.2 ⟨e1, List.forall_mem_cons.2 ⟨e2, List.forall_mem_cons.2 ⟨e3, List.forall_mem_cons.2 ⟨e4, List.forall_mem_nil _⟩⟩⟩⟩⟩), h⟩
theorem slices_insertionSortOrdered_string_p3_re (s : (Option Addr) × Nat × Nat × Int × Int × Int × Int) (r : Regs) (K : ((Option Addr) × Nat × Nat × Int × Int × Int × Int) → Prop) (h : K s) : slices_insertionSortOrdered_string_p3.dec (regsOf (slices_insertionSortOrdered_string_p3.slots s) r) K := by
  obtain ⟨x7, x8, x9, x10, x11, x12, x13⟩ := s
  exact cast (show K (x7, x8, x9, x10, x11, x12, x13) = slices_insertionSortOrdered_string_p3.dec (regsOf (slices_insertionSortOrdered_string_p3.slots (x7, x8, x9, x10, x11, x12, x13)) r) K by kernel_rfl) h

def slices_insertionSortOrdered_string_p4 : Point (Unit) := { slots := fun _ => [], dec := fun _ K => K () }
theorem slices_insertionSortOrdered_string_p4_ok : slices_insertionSortOrdered_string_p4.ok := by
  intro r K h
  unfold slices_insertionSortOrdered_string_p4 at h
  exact ⟨(), regsOf_self (L := []) (List.forall_mem_nil _), h⟩
theorem slices_insertionSortOrdered_string_p4_re (s : Unit) (r : Regs) (K : Unit → Prop) (h : K s) : slices_insertionSortOrdered_string_p4.dec (regsOf (slices_insertionSortOrdered_string_p4.slots s) r) K := by
  exact cast (show K () = slices_insertionSortOrdered_string_p4.dec (regsOf (slices_insertionSortOrdered_string_p4.slots ()) r) K by kernel_rfl) h

theorem slices_insertionSortOrdered_string_sound (data : Option Addr) (data_n : Nat) (data_c : Nat) (a : Int) (b : Int) (R : Value → World → Prop) (w : World) (h : slices_insertionSortOrdered_string_b7 data data_n data_c a b R w) :
    CallR Try.prog fn_slices_insertionSortOrdered_string #[(.slice data data_n data_c), (.int .i64 a), (.int .i64 b)] w R := by
  refine CallR_intro (args := [(.slice data data_n data_c), (.int .i64 a), (.int .i64 b)]) Try.func58 rfl (Nat.le_of_ble_eq_true (by kernel_rfl)) ?_
  have hEnd : ∀ (s : Unit) (r : Regs) (w : World), slices_insertionSortOrdered_string_b4 R w → retQ Try.prog Try.f58.results R .normal [] (regsOf (slices_insertionSortOrdered_string_p4.slots s) r) w := by
    intro s r w h
    cases s
    have h : slices_insertionSortOrdered_string_b4 R w := h
    exact cast (show (slices_insertionSortOrdered_string_b4 R w) = retQ Try.prog Try.f58.results R .normal [] (regsOf (slices_insertionSortOrdered_string_p4.slots ()) r) w by kernel_rfl) h
  refine Wp_glue slices_insertionSortOrdered_string_p0 (fun s w => slices_insertionSortOrdered_string_b6 s.1 s.2.1 s.2.2.1 s.2.2.2.1 s.2.2.2.2.1 s.2.2.2.2.2 R w) [_] (Q0 := fun e _ r w => match e with | .normal => slices_insertionSortOrdered_string_p0.dec r (fun s => slices_insertionSortOrdered_string_b6 s.1 s.2.1 s.2.2.1 s.2.2.2.1 s.2.2.2.2.1 s.2.2.2.2.2 R w) | .exit _ => False | .ret => retQ Try.prog Try.f58.results R .ret [] r w | _ => False) h (by kernel_rfl) (fun s r w h => ?_) slices_insertionSortOrdered_string_p0_ok (fun _ _ _ h => h) ?_
  · obtain ⟨data1, data_n1, data_c1, a1, b1, i⟩ := s
    have h : slices_insertionSortOrdered_string_b6 data1 data_n1 data_c1 a1 b1 i R w := h
    refine Wp_block_via slices_insertionSortOrdered_string_p4 (fun _ w => slices_insertionSortOrdered_string_b4 R w) hEnd (fun hX1 => ?_)
    refine Wp_loop (p := slices_insertionSortOrdered_string_p0) slices_insertionSortOrdered_string_p0_ok (fun s r w K0 h => ?_) h
    obtain ⟨data2, data_n2, data_c2, a2, b2, i1⟩ := s
    have h : slices_insertionSortOrdered_string_b5 data2 data_n2 data_c2 a2 b2 i1 K0 R w := h
    have hK2 := fun (s : (Option Addr) × Nat × Nat × Int × Int × Int) (r : Regs) (w : World) (h : K0 s w) => slices_insertionSortOrdered_string_p0_re s r (fun s => K0 s w) h
    refine Wp_glue slices_insertionSortOrdered_string_p1 (fun s w => slices_insertionSortOrdered_string_b3 s.1 s.2.1 s.2.2.1 s.2.2.2.1 s.2.2.2.2.1 s.2.2.2.2.2 K0 w) [_] (Q0 := fun e _ r w => match e with | .normal => slices_insertionSortOrdered_string_p1.dec r (fun s => slices_insertionSortOrdered_string_b3 s.1 s.2.1 s.2.2.1 s.2.2.2.1 s.2.2.2.2.1 s.2.2.2.2.2 K0 w) | .exit i => exitQ i 0 (slices_insertionSortOrdered_string_p4.dec r (fun _ => slices_insertionSortOrdered_string_b4 R w)) (False) | .ret => retQ Try.prog Try.f58.results R .ret [] r w | _ => False) h (by kernel_rfl) (fun s r w h => ?_) slices_insertionSortOrdered_string_p1_ok (fun _ _ _ h => h) ?_
    · obtain ⟨data3, data_n3, data_c3, a3, b3, i2⟩ := s
      have h : slices_insertionSortOrdered_string_b3 data3 data_n3 data_c3 a3 b3 i2 K0 w := h
      refine Wp_seq_via slices_insertionSortOrdered_string_p2 (fun s w => slices_insertionSortOrdered_string_b0 s.1 s.2.1 s.2.2.1 s.2.2.2.1 s.2.2.2.2.1 s.2.2.2.2.2 K0 w) (fun s r w h => ?_) (fun hN3 => ?_)
      · obtain ⟨data6, data_n6, data_c6, a12, b6, i5⟩ := s
        have h : slices_insertionSortOrdered_string_b0 data6 data_n6 data_c6 a12 b6 i5 K0 w := h
        refine Wp_leaf_end (Q0 := fun e _ r w => match e with | .normal => slices_insertionSortOrdered_string_p0.dec r (fun s => K0 s w) | .exit i => exitQ i 0 (slices_insertionSortOrdered_string_p4.dec r (fun _ => slices_insertionSortOrdered_string_b4 R w)) (False) | .ret => retQ Try.prog Try.f58.results R .ret [] r w | _ => False) h (by kernel_rfl) ?_
        intro e _ r w h
        cases e with
        | normal =>
          obtain ⟨s, hs, h⟩ := slices_insertionSortOrdered_string_p0_ok _ _ h
          rw [← hs]
          exact hK2 s r w h
        | exit i =>
          rcases exitQ_elim h with ⟨rfl, h⟩ | ⟨_, h⟩
          · obtain ⟨s, hs, h⟩ := slices_insertionSortOrdered_string_p4_ok _ _ h
            rw [← hs]
            exact hX1 s r w h
          exact h.elim
        | ret => exact h
        | goto i => exact h.elim
        | panic c => exact h.elim
        | outgrown => exact h.elim
      · refine Wp_block_via slices_insertionSortOrdered_string_p2 (fun s w => slices_insertionSortOrdered_string_b0 s.1 s.2.1 s.2.2.1 s.2.2.2.1 s.2.2.2.2.1 s.2.2.2.2.2 K0 w) hN3 (fun hX4 => ?_)
        refine Wp_glue slices_insertionSortOrdered_string_p3 (fun s w => slices_insertionSortOrdered_string_b2 s.1 s.2.1 s.2.2.1 s.2.2.2.1 s.2.2.2.2.1 s.2.2.2.2.2.1 s.2.2.2.2.2.2 K0 w) [_] (Q0 := fun e _ r w => match e with | .normal => slices_insertionSortOrdered_string_p3.dec r (fun s => slices_insertionSortOrdered_string_b2 s.1 s.2.1 s.2.2.1 s.2.2.2.1 s.2.2.2.2.1 s.2.2.2.2.2.1 s.2.2.2.2.2.2 K0 w) | .exit i => exitQ i 0 (slices_insertionSortOrdered_string_p4.dec r (fun _ => slices_insertionSortOrdered_string_b4 R w)) (exitQ i 1 (slices_insertionSortOrdered_string_p2.dec r (fun s => slices_insertionSortOrdered_string_b0 s.1 s.2.1 s.2.2.1 s.2.2.2.1 s.2.2.2.2.1 s.2.2.2.2.2 K0 w)) (False)) | .ret => retQ Try.prog Try.f58.results R .ret [] r w | _ => False) h (by kernel_rfl) (fun s r w h => ?_) slices_insertionSortOrdered_string_p3_ok (fun _ _ _ h => h) ?_
        · obtain ⟨data4, data_n4, data_c4, a4, b4, i3, j⟩ := s
          have h : slices_insertionSortOrdered_string_b2 data4 data_n4 data_c4 a4 b4 i3 j K0 w := h
          refine Wp_block_via slices_insertionSortOrdered_string_p2 (fun s w => slices_insertionSortOrdered_string_b0 s.1 s.2.1 s.2.2.1 s.2.2.2.1 s.2.2.2.2.1 s.2.2.2.2.2 K0 w) hN3 (fun hX5 => ?_)
          refine Wp_loop (p := slices_insertionSortOrdered_string_p3) slices_insertionSortOrdered_string_p3_ok (fun s r w K1 h => ?_) h
          obtain ⟨data5, data_n5, data_c5, a5, b5, i4, j1⟩ := s
          have h : slices_insertionSortOrdered_string_b1 data5 data_n5 data_c5 a5 b5 i4 j1 K0 K1 w := h
          have hK6 := fun (s : (Option Addr) × Nat × Nat × Int × Int × Int × Int) (r : Regs) (w : World) (h : K1 s w) => slices_insertionSortOrdered_string_p3_re s r (fun s => K1 s w) h
          refine Wp_leaf_end (Q0 := fun e _ r w => match e with | .normal => slices_insertionSortOrdered_string_p3.dec r (fun s => K1 s w) | .exit i => exitQ i 0 (slices_insertionSortOrdered_string_p4.dec r (fun _ => slices_insertionSortOrdered_string_b4 R w)) (exitQ i 1 (slices_insertionSortOrdered_string_p2.dec r (fun s => slices_insertionSortOrdered_string_b0 s.1 s.2.1 s.2.2.1 s.2.2.2.1 s.2.2.2.2.1 s.2.2.2.2.2 K0 w)) (exitQ i 2 (slices_insertionSortOrdered_string_p2.dec r (fun s => slices_insertionSortOrdered_string_b0 s.1 s.2.1 s.2.2.1 s.2.2.2.1 s.2.2.2.2.1 s.2.2.2.2.2 K0 w)) (False))) | .ret => retQ Try.prog Try.f58.results R .ret [] r w | _ => False) h (by kernel_rfl) ?_
          intro e _ r w h
          cases e with
          | normal =>
            obtain ⟨s, hs, h⟩ := slices_insertionSortOrdered_string_p3_ok _ _ h
            rw [← hs]
            exact hK6 s r w h
          | exit i =>
            rcases exitQ_elim h with ⟨rfl, h⟩ | ⟨_, h⟩
            · obtain ⟨s, hs, h⟩ := slices_insertionSortOrdered_string_p4_ok _ _ h
              rw [← hs]
              exact (fun s r w h => blockQ_other (id := 2) (j := 0) (by decide) ((fun s r w h => blockQ_other (id := 1) (j := 0) (by decide) (hX1 s r w h)) s r w h)) s r w h
            rcases exitQ_elim h with ⟨rfl, h⟩ | ⟨_, h⟩
            · obtain ⟨s, hs, h⟩ := slices_insertionSortOrdered_string_p2_ok _ _ h
              rw [← hs]
              exact (fun s r w h => blockQ_other (id := 2) (j := 1) (by decide) (hX4 s r w h)) s r w h
            rcases exitQ_elim h with ⟨rfl, h⟩ | ⟨_, h⟩
            · obtain ⟨s, hs, h⟩ := slices_insertionSortOrdered_string_p2_ok _ _ h
              rw [← hs]
              exact hX5 s r w h
            exact h.elim
          | ret => exact h
          | goto i => exact h.elim
          | panic c => exact h.elim
          | outgrown => exact h.elim
        · intro e _ r w hne h
          cases e with
          | normal => exact absurd rfl hne
          | exit i =>
            rcases exitQ_elim h with ⟨rfl, h⟩ | ⟨_, h⟩
            · obtain ⟨s, hs, h⟩ := slices_insertionSortOrdered_string_p4_ok _ _ h
              rw [← hs]
              exact (fun s r w h => blockQ_other (id := 1) (j := 0) (by decide) (hX1 s r w h)) s r w h
            rcases exitQ_elim h with ⟨rfl, h⟩ | ⟨_, h⟩
            · obtain ⟨s, hs, h⟩ := slices_insertionSortOrdered_string_p2_ok _ _ h
              rw [← hs]
              exact hX4 s r w h
            exact h.elim
          | ret => exact h
          | goto i => exact h.elim
          | panic c => exact h.elim
          | outgrown => exact h.elim
    · intro e _ r w hne h
      cases e with
      | normal => exact absurd rfl hne
      | exit i =>
        rcases exitQ_elim h with ⟨rfl, h⟩ | ⟨_, h⟩
        · obtain ⟨s, hs, h⟩ := slices_insertionSortOrdered_string_p4_ok _ _ h
          rw [← hs]
          exact hX1 s r w h
        exact h.elim
      | ret => exact h
      | goto i => exact h.elim
      | panic c => exact h.elim
      | outgrown => exact h.elim
  · intro e _ r w hne h
    cases e with
    | normal => exact absurd rfl hne
    | exit i => exact h.elim
    | ret => exact h
    | goto i => exact h.elim
    | panic c => exact h.elim
    | outgrown => exact h.elim

/- cmp.Less[string] -/
def cmp_Less_string_b0 (x : ByteArray) (y : ByteArray) (R : Value → World → Prop) (w : World) : Prop :=
  CallR Try.prog fn_cmp_isNaN_string #[(.string x)] w fun res w_ =>
  mBool res fun v =>
  Br v (
  CallR Try.prog fn_cmp_isNaN_string #[(.string y)] w_ fun res1 w_1 =>
  mBool res1 fun v1 =>
  Br (!v1) (
  R (.bool true) w_1) (
  R (.bool (Op.bytesLess (ByteArray.toList x) (ByteArray.toList y))) w_1)) (
  R (.bool (Op.bytesLess (ByteArray.toList x) (ByteArray.toList y))) w_)

theorem cmp_Less_string_sound (x : ByteArray) (y : ByteArray) (R : Value → World → Prop) (w : World) (h : cmp_Less_string_b0 x y R w) :
    CallR Try.prog fn_cmp_Less_string #[(.string x), (.string y)] w R := by
  refine CallR_intro (args := [(.string x), (.string y)]) Try.func64 rfl (Nat.le_of_ble_eq_true (by kernel_rfl)) ?_
  refine Wp_leaf_end (Q0 := fun e _ r w => match e with | .normal => retQ Try.prog Try.f64.results R .normal [] r w | .exit _ => False | .ret => retQ Try.prog Try.f64.results R .ret [] r w | _ => False) h (by kernel_rfl) ?_
  intro e _ r w h
  cases e with
  | normal => exact h
  | exit i => exact h.elim
  | ret => exact h
  | goto i => exact h.elim
  | panic c => exact h.elim
  | outgrown => exact h.elim

/- cmp.isNaN[string] -/
def cmp_isNaN_string_b0 (x : ByteArray) (R : Value → World → Prop) (w : World) : Prop :=
  R (.bool (!(ByteArray.toList x == ByteArray.toList x))) w

theorem cmp_isNaN_string_sound (x : ByteArray) (R : Value → World → Prop) (w : World) (h : cmp_isNaN_string_b0 x R w) :
    CallR Try.prog fn_cmp_isNaN_string #[(.string x)] w R := by
  refine CallR_intro (args := [(.string x)]) Try.func74 rfl (Nat.le_of_ble_eq_true (by kernel_rfl)) ?_
  refine Wp_leaf_end (Q0 := fun e _ r w => match e with | .normal => retQ Try.prog Try.f74.results R .normal [] r w | .exit _ => False | .ret => retQ Try.prog Try.f74.results R .ret [] r w | _ => False) h (by kernel_rfl) ?_
  intro e _ r w h
  cases e with
  | normal => exact h
  | exit i => exact h.elim
  | ret => exact h
  | goto i => exact h.elim
  | panic c => exact h.elim
  | outgrown => exact h.elim

end Go.Proofs.Ytimgbkabfkdabaa
