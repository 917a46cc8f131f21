/- A region that draws its order: what may be taken first is taken first, what looks into memory is asked again behind each operation that it did not have to precede. -/
import Derived.Test.YtnhjcjnjpciifaaDoorShCore6
import Derived.OrdersHeld
namespace Go.Sh
variable {P : Program}

/- How the operations of a region hang together. -/
def binds1 (ops : Array Oper) (j i : Nat) : Bool := match ops[j]? with | some o => o.after.any fun e => Region.binds .any e && Nat.beq e.on i | none => false
def anc (ops : Array Oper) : Nat → Nat → Nat → Bool
  | 0, _, _ => false
  | f + 1, j, i => match ops[j]? with
    | some o => o.after.any fun e => Region.binds .any e && (Nat.beq e.on i || anc ops f e.on i)
    | none => false

/-- Operation p, carried out now, gives v and leaves the world. -/
def YP (P : Program) (ops : Array Oper) (p : Nat) (v : Value) (a : Act) (w : World) : Prop :=
  ∃ o, ops[p]? = some o ∧ Region.wanted o (yielded ops a.tmps) = true ∧ (execOp a.eval o).run P w = .ok (.value v) w

def wpAnyP (P : Program) (ops : Array Oper) (Q : Exit → Act → World → Prop) : Nat → Array Bool → List (Nat × Value) → Act → World → Prop
  | 0, listed, _, a, w => Region.ready .any ops listed = [] ∧ Q .normal a w
  | fuel + 1, listed, pend, a, w =>
    (Region.ready .any ops listed = [] → Q .normal a w) ∧
    ∀ i ∈ Region.ready .any ops listed, wpOp P ops Q i (fun a' w' =>
      (∀ q ∈ pend, anc ops ops.size i q.1 = false → YP P ops q.1 q.2 a' w') ∧
      wpAnyP P ops Q fuel (listed.setIfInBounds i true) (pend.filter fun q => !anc ops ops.size i q.1) a' w') a w

variable {ops : Array Oper} {Q : Exit → Act → World → Prop}

theorem wpAny_of_pend : ∀ (fuel : Nat) (listed : Array Bool) (pend : List (Nat × Value)) (a : Act) (w : World),
    wpAnyP P ops Q fuel listed pend a w → wpAny P .any ops Q fuel listed a w
  | 0, _, _, _, _, h => h
  | fuel + 1, _, _, _, _, h => ⟨h.1, fun i hi => wpOp_mono (fun a' w' h' => wpAny_of_pend fuel _ _ a' w' h'.2) (h.2 i hi)⟩
theorem wpAnyP_weaken : ∀ (fuel : Nat) (listed : Array Bool) (pend pend' : List (Nat × Value)) (a : Act) (w : World), (∀ q ∈ pend', q ∈ pend) →
    wpAnyP P ops Q fuel listed pend a w → wpAnyP P ops Q fuel listed pend' a w
  | 0, _, _, _, _, _, _, h => h
  | fuel + 1, _, pend, pend', _, _, hs, h => ⟨h.1, fun i hi => wpOp_mono (fun a' w' h' =>
      ⟨fun q hq hn => h'.1 q (hs q hq) hn, wpAnyP_weaken fuel _ _ _ a' w' (fun q hq => by
        rw [List.mem_filter] at hq ⊢
        exact ⟨hs q hq.1, hq.2⟩) h'.2⟩) (h.2 i hi)⟩

/-- What is listed holds all that it waits for. -/
def Closed (ops : Array Oper) (listed : Array Bool) : Prop :=
  ∀ i o, listed.getD i false = true → ops[i]? = some o → ∀ e ∈ o.after, Region.binds .any e = true → listed.getD e.on false = true
theorem Closed.anc {listed : Array Bool} (hc : Closed ops listed) : ∀ (f j i : Nat) (o : Oper), ops[j]? = some o →
    (∀ e ∈ o.after, Region.binds .any e = true → listed.getD e.on false = true) → anc ops f j i = true → listed.getD i false = true := by
  intro f
  induction f with
  | zero => intro j i o _ _ h; cases h
  | succ f ih =>
    intro j i o ho hall h
    simp only [Sh.anc, ho] at h
    obtain ⟨e, he, hb⟩ := Array.any_eq_true'.1 h
    simp only [Bool.and_eq_true, Bool.or_eq_true] at hb
    obtain ⟨hb, hx⟩ := hb
    have h1 := hall e he hb
    rcases hx with hx | hx
    · rw [← Nat.eq_of_beq_eq_true hx]; exact h1
    · cases ho' : ops[e.on]? with
      | none => cases f <;> simp [Sh.anc, ho'] at hx
      | some o' => exact ih e.on i o' ho' (hc e.on o' h1 ho') hx
theorem Closed.set {listed : Array Bool} (hc : Closed ops listed) {j : Nat} (hj : j ∈ Region.ready .any ops listed) : Closed ops (listed.setIfInBounds j true) := by
  intro i o hi ho e he hb
  by_cases hij : j = i
  · subst hij
    obtain ⟨_, o', ho', hall⟩ := mem_ready.1 hj
    rw [ho] at ho'; cases ho'
    exact getD_set_true (hall e he hb)
  · rw [getD_set_ne false hij] at hi
    exact getD_set_true (hc i o hi ho e he hb)

/-- The slot of one operation is not looked at by another. -/
def blind (ops : Array Oper) (d : Option Tmp) (q : Nat) : Bool :=
  match ops[q]?, d with
  | some o, some d => !(o.looksAt ops).contains d
  | some _, none => true
  | none, _ => false
theorem YP.put {q : Nat} {v u : Value} {a : Act} {w : World} {d : Option Tmp} (hs : Region.noSelect ops = true) (hb : blind ops d q = true) :
    YP P ops q v (a.put d u) w ↔ YP P ops q v a w := by
  cases hq : ops[q]? with
  | none => simp [YP, hq]
  | some o =>
    have hd : ∀ e, d = some e → e ∉ o.looksAt ops := by
      intro e he
      subst he
      simpa [blind, hq] using hb
    simp only [YP, hq, Option.some.injEq, exists_eq_left']
    rw [wanted_put o a d u hd, execOp_put o (fun cs b => Region.noSelect_spec hs q o cs b hq) a d u hd]

/-- An operation that gives its value in the world at hand, and is asked again behind each that does not wait for it, may be taken first. -/
theorem wpAnyP_take {i : Nat} {oi : Oper} {v : Value} (hi : ops[i]? = some oi) (hs : Region.noSelect ops = true)
    (hQ : ∀ c a w, ¬ Q (.panic c) a w) (hself : blind ops oi.dst i = true) :
    ∀ (fuel : Nat) (listed : Array Bool) (pend : List (Nat × Value)) (a : Act) (w : World), Closed ops listed →
      (∀ j oj, ops[j]? = some oj → j ≠ i → listed.getD j true = false → (∀ e ∈ oj.after, Region.binds .any e = true → e.on ≠ i) → oi.apart ops oj = true) →
      i ∈ Region.ready .any ops listed → YP P ops i v a w → (∀ q ∈ pend, YP P ops q.1 q.2 a w ∧ blind ops oi.dst q.1 = true) →
      wpAnyP P ops Q fuel (listed.setIfInBounds i true) ((i, v) :: pend) (a.put oi.dst v) w → wpAnyP P ops Q (fuel + 1) listed pend a w := by
  have hsel := fun (j : Nat) (o : Oper) cs b => Region.noSelect_spec (ops := ops) hs j o cs b
  intro fuel
  induction fuel with
  | zero =>
    intro listed pend a w _ _ hr hy hp H
    refine ⟨fun h => (by rw [h] at hr; cases hr), fun j hj => ?_⟩
    by_cases hji : j = i
    · subst hji
      obtain ⟨o, ho, hw, hrun⟩ := hy
      rw [hi] at ho; cases ho
      simp only [wpOp, hi, hw, if_true, Oper.wp, hrun, Oper.upon_value]
      refine .inl ⟨fun q hq _ => (YP.put hs (hp q hq).2).2 (hp q hq).1, wpAnyP_weaken _ _ _ _ _ _ (fun q hq => ?_) H⟩
      exact List.mem_cons_of_mem _ ((List.mem_filter.1 hq).1)
    · have := ready_mono hj hji
      rw [H.1] at this
      cases this
  | succ fuel ih =>
    intro listed pend a w hc hfree hr hy hp H
    refine ⟨fun h => (by rw [h] at hr; cases hr), fun j hj => ?_⟩
    by_cases hji : j = i
    · subst hji
      obtain ⟨o, ho, hw, hrun⟩ := hy
      rw [hi] at ho; cases ho
      simp only [wpOp, hi, hw, if_true, Oper.wp, hrun, Oper.upon_value]
      refine .inl ⟨fun q hq _ => (YP.put hs (hp q hq).2).2 (hp q hq).1, wpAnyP_weaken _ _ _ _ _ _ (fun q hq => ?_) H⟩
      exact List.mem_cons_of_mem _ ((List.mem_filter.1 hq).1)
    · have h1 := H.2 j (ready_mono hj hji)
      obtain ⟨hjun, oj, hoj, hall⟩ := mem_ready.1 hj
      have hiun : listed.getD i false = false := by
        have h0 := (mem_ready.1 hr).1
        rcases Nat.lt_or_ge i listed.size with h' | h'
        · simp [h'] at h0 ⊢; exact h0
        · simp [Array.getElem?_eq_none h']
      have hnot : ∀ e ∈ oj.after, Region.binds .any e = true → e.on ≠ i := fun e he hb heq => by
        have h1 := hall e he hb
        rw [heq, hiun] at h1
        cases h1
      have hanc : anc ops ops.size j i = false := by
        cases hx : anc ops ops.size j i with
        | false => rfl
        | true => have := hc.anc _ j i oj hoj hall hx; rw [hiun] at this; cases this
      have hyS : YieldsIf P ops (fun _ => False) oi v a := by
        obtain ⟨o, ho, hw, hrun⟩ := hy
        rw [hi] at ho; cases ho
        exact .inl ⟨hw, fun w hf => hf.elim⟩
      have h2 := wpOp_putIf hoj (hfree j oj hoj hji hjun hnot) (fun cs b => hsel i oi cs b hi) (fun cs b => hsel j oj cs b hoj) (fun c a w hq => (hQ c _ w hq).elim) hyS h1
      have hfree' : ∀ k ok, ops[k]? = some ok → k ≠ i → (listed.setIfInBounds j true).getD k true = false →
          (∀ e ∈ ok.after, Region.binds .any e = true → e.on ≠ i) → oi.apart ops ok = true := fun k ok hk hki hun hno => by
        refine hfree k ok hk hki ?_ hno
        by_cases hjk : j = k
        · subst hjk; exact hjun
        · rw [getD_set_ne true hjk] at hun; exact hun
      refine wpOp_mono (fun a' w' h3 => ?_) h2
      obtain ⟨_, hq, h4⟩ := h3
      have hpend : ∀ q ∈ pend, anc ops ops.size j q.1 = false → YP P ops q.1 q.2 a' w' := fun q hqm hn =>
        (YP.put hs (hp q hqm).2).1 (hq q (List.mem_cons_of_mem _ hqm) hn)
      have hyi : YP P ops i v a' w' := (YP.put hs hself).1 (hq (i, v) List.mem_cons_self hanc)
      refine ⟨hpend, ih (listed.setIfInBounds j true) _ a' w' (hc.set hj) hfree' (ready_mono hr (Ne.symm hji)) hyi (fun q hqm => ?_) ?_⟩
      · rw [List.mem_filter] at hqm
        exact ⟨hpend q hqm.1 (by simpa using hqm.2), (hp q hqm.1).2⟩
      · rw [Array.setIfInBounds_comm _ _ hji]
        simpa [List.filter_cons, hanc] using h4
/-- An operation that gives its value in whatever world may be taken first; nothing need be asked again. -/
theorem wpAnyP_take0 {i : Nat} {oi : Oper} {v : Value} (hi : ops[i]? = some oi) (hs : Region.noSelect ops = true)
    (hQ : ∀ c a w, ¬ Q (.panic c) a w) :
    ∀ (fuel : Nat) (listed : Array Bool) (pend : List (Nat × Value)) (a : Act) (w : World),
      (∀ j oj, ops[j]? = some oj → j ≠ i → listed.getD j true = false → (∀ e ∈ oj.after, Region.binds .any e = true → e.on ≠ i) → oi.apart ops oj = true) →
      i ∈ Region.ready .any ops listed → Yields P ops oi v a → (∀ q ∈ pend, YP P ops q.1 q.2 a w ∧ blind ops oi.dst q.1 = true) →
      wpAnyP P ops Q fuel (listed.setIfInBounds i true) pend (a.put oi.dst v) w → wpAnyP P ops Q (fuel + 1) listed pend a w := by
  have hsel := fun (j : Nat) (o : Oper) cs b => Region.noSelect_spec (ops := ops) hs j o cs b
  intro fuel
  induction fuel with
  | zero =>
    intro listed pend a w _ hr hy hp H
    refine ⟨fun h => (by rw [h] at hr; cases hr), fun j hj => ?_⟩
    by_cases hji : j = i
    · subst hji
      exact hy.wpOp hi ⟨fun q hq _ => (YP.put hs (hp q hq).2).2 (hp q hq).1, wpAnyP_weaken _ _ _ _ _ _ (fun q hq => (List.mem_filter.1 hq).1) H⟩
    · have := ready_mono hj hji
      rw [H.1] at this
      cases this
  | succ fuel ih =>
    intro listed pend a w hfree hr hy hp H
    refine ⟨fun h => (by rw [h] at hr; cases hr), fun j hj => ?_⟩
    by_cases hji : j = i
    · subst hji
      exact hy.wpOp hi ⟨fun q hq _ => (YP.put hs (hp q hq).2).2 (hp q hq).1, wpAnyP_weaken _ _ _ _ _ _ (fun q hq => (List.mem_filter.1 hq).1) H⟩
    · have h1 := H.2 j (ready_mono hj hji)
      obtain ⟨hjun, oj, hoj, hall⟩ := mem_ready.1 hj
      have hnot : ∀ e ∈ oj.after, Region.binds .any e = true → e.on ≠ i := fun e he hb heq => by
        have h1 := hall e he hb
        have h0 := (mem_ready.1 hr).1
        rw [heq] at h1
        rcases Nat.lt_or_ge i listed.size with h' | h'
        · simp [h'] at h0 h1; rw [h0] at h1; cases h1
        · simp [Array.getElem?_eq_none h'] at h1
      have h2 := wpOp_put hoj (hfree j oj hoj hji hjun hnot) (fun cs b => hsel i oi cs b hi) (fun cs b => hsel j oj cs b hoj) (fun c a w hq => (hQ c _ w hq).elim) hy h1
      have hfree' : ∀ k ok, ops[k]? = some ok → k ≠ i → (listed.setIfInBounds j true).getD k true = false →
          (∀ e ∈ ok.after, Region.binds .any e = true → e.on ≠ i) → oi.apart ops ok = true := fun k ok hk hki hun hno => by
        refine hfree k ok hk hki ?_ hno
        by_cases hjk : j = k
        · subst hjk; exact hjun
        · rw [getD_set_ne true hjk] at hun; exact hun
      refine wpOp_mono (fun a' w' h3 => ?_) h2
      obtain ⟨hya, hq, h4⟩ := h3
      have hpend : ∀ q ∈ pend, anc ops ops.size j q.1 = false → YP P ops q.1 q.2 a' w' := fun q hqm hn =>
        (YP.put hs (hp q hqm).2).1 (hq q hqm hn)
      refine ⟨hpend, ih (listed.setIfInBounds j true) _ a' w' hfree' (ready_mono hr (Ne.symm hji)) hya (fun q hqm => ?_) ?_⟩
      · rw [List.mem_filter] at hqm
        exact ⟨hpend q hqm.1 (by simpa using hqm.2), (hp q hqm.1).2⟩
      · rw [Array.setIfInBounds_comm _ _ hji]
        exact h4
end Go.Sh
