/- A region that draws its order: the shallow reading and its soundness. -/
import Derived.Test.YtnhjcjnjpciifaaDoorShCore7
namespace Go.Sh
variable {P : Program}

inductive QK where
  | pure | load | look | no
def binQO (x y : Value) : QK :=
  match x, y with
  | .int .., .int .. => .pure
  | .string _, .string _ => .pure
  | .pointer _, .pointer _ => .pure
  | .slice .., .slice none _ _ => .pure
  | _, .nilIface => .pure
  | _, _ => .look
def binQ (x y : Value) : QK := match y with | .nilIface => .pure | y => binQO x y
theorem binQ_old (x y : Value) : binQ x y = binQO x y := by
  cases y <;> first | rfl | (cases x <;> rfl)
def qkind (o : Oper) (r : Regs) : QK :=
  match o.op with
  | .move _ => .pure
  | .assign _ => .pure
  | .pick .. => .pure
  | .nilCheck _ => .pure
  | .indexAddr .. => .pure
  | .extract .. => .pure
  | .fieldAddr .. => .pure
  | .binOp _ _ x y _ => binQ (rho r x) (rho r y)
  | .load .. => .load
  | .index .. => .look
  | .lookup .. => .look
  | .field .. => .look
  | .unOp .. => .look
  | .convert .. => .look
  | .slice .. => .look
  | .build .. => .look
  | .makeInterface .. => .look
  | .makeFunc .. => .look
  | .call { callee := .builtin .len, .. } => .look
  | .call { callee := .builtin .cap, .. } => .look
  | .call { callee := .builtin .min, .. } => .look
  | .call { callee := .builtin .max, .. } => .look
  | _ => .no

def cellsEq (w : World) (a : Addr) : List Value → Nat → Prop → Prop
  | [], _, p => p
  | v :: vs, i, p => w.cell? (a.add i) = some v ∧ cellsEq w a vs (i + 1) p
def stabOp (P : Program) (o : Oper) (r : Regs) (w : World) (val : Value) (p : Prop) : Prop :=
  match o.op with
  | .load t x => (match rho r x with
    | .pointer (some a) => (match isRawArr P t with
      | true => (Instr.loadAt t (.pointer (some a))).run P w = .ok val w ∧ p
      | false => (match aggOf P t with
        | true => (match val, (P.info? t).map (·.size) with
          | .agg cs, some n => onlyIf (Nat.beq cs.toList.length n) (cellsEq w a cs.toList 0 p)
          | _, _ => False)
        | false => onlyIf (match P.underlying t with | some _ => true | none => false) (w.cell? a = some val ∧ p)))
    | _ => False)
  | _ => (rOp P o [] r w fun _ v w' => w' = w ∧ v = val) ∧ p
def rStab (P : Program) (ops : Array Oper) (r : Regs) (w : World) : List (Nat × Value) → Prop → Prop
  | [], p => p
  | (q, v) :: t, p => (match ops[q]? with | some o => stabOp P o r w v (rStab P ops r w t p) | none => False)

def rAll : List Nat → (Nat → Prop) → Prop
  | [], _ => True
  | i :: t, f => (match t with | [] => f i | _ :: _ => f i ∧ rAll t f)

def selectable (ops : Array Oper) (listed : Array Bool) (pend : List (Nat × Value)) (kn : Kn) (r : Regs) (i : Nat) : Bool :=
  match ops[i]? with
  | none => false
  | some o =>
    (match o.guard with
      | some (j, want) => (match gslot ops j with
        | some s => (match knGet kn s with
          | some b => (match decide (b = want) with | true => (match qkind o r with | .no => false | _ => true) | false => true)
          | none => (match qkind o r with | .no => false | _ => true))
        | none => true)
      | none => (match qkind o r with | .no => false | _ => true)) &&
    Region.free .any ops listed i && blind ops o.dst i && pend.all fun q => blind ops o.dst q.1
def firstQ (ops : Array Oper) (listed : Array Bool) (pend : List (Nat × Value)) (kn : Kn) (r : Regs) : List Nat → Option Nat
  | [] => none
  | i :: t => (match selectable ops listed pend kn r i with | true => some i | false => firstQ ops listed pend kn r t)

def rAny (P : Program) (n : Nat) (ops : Array Oper) : Nat → Array Bool → List (Nat × Value) → Kn → Regs → World → (Kn → Regs → World → Prop) → Prop
  | 0, listed, _, kn, r, w, K => (match Region.ready .any ops listed with | [] => K kn r w | _ :: _ => False)
  | fuel + 1, listed, pend, kn, r, w, K =>
    match Region.ready .any ops listed with
    | [] => K kn r w
    | i0 :: rs => match firstQ ops listed pend kn r (i0 :: rs) with
      | some i => (match ops[i]? with
        | none => False
        | some o => rGuard n ops o.guard kn r
          (fun kn r => match qkind o r with
            | .pure => rOp P o kn r w fun info v _ => setDst n o.dst info v kn r fun kn r => rAny P n ops fuel (listed.setIfInBounds i true) pend kn r w K
            | .load => rOp P o kn r w fun info v _ => setDst n o.dst info v kn r fun kn r => rAny P n ops fuel (listed.setIfInBounds i true) ((i, v) :: pend) kn r w K
            | .look => rOp P o kn r w fun info v w' => w' = w ∧ setDst n o.dst info v kn r fun kn r => rAny P n ops fuel (listed.setIfInBounds i true) ((i, v) :: pend) kn r w K
            | .no => False)
          (fun kn r => setDst n o.dst none undef kn r fun kn r => rAny P n ops fuel (listed.setIfInBounds i true) pend kn r w K))
      | none => rAll (i0 :: rs) fun i => (match ops[i]? with
        | none => False
        | some o => onlyIf (pend.all fun q => anc ops ops.size i q.1 || blind ops o.dst q.1) (rGuard n ops o.guard kn r
          (fun kn r => rOp P o kn r w fun info v w' => setDst n o.dst info v kn r fun kn r =>
            rStab P ops r w' (pend.filter fun q => !anc ops ops.size i q.1) (rAny P n ops fuel (listed.setIfInBounds i true) (pend.filter fun q => !anc ops ops.size i q.1) kn r w' K))
          (fun kn r => setDst n o.dst none undef kn r fun kn r => rAny P n ops fuel (listed.setIfInBounds i true) (pend.filter fun q => !anc ops ops.size i q.1) kn r w K)))

/- Soundness. -/
theorem binOp_ints_pure {op : BinOp} {t : TypeId} {k k' : IntKind} {a b : Int} {v : Value} {w w' : World}
    (h : (binOp op t (.int k a) (.int k' b)).run P w = .ok v w') (u : World) : w' = w ∧ (binOp op t (.int k a) (.int k' b)).run P u = .ok v u := by
  by_cases hk : k = k'
  · subst hk
    cases op <;> simp only [binOp, Op.shift, Op.intArith, Op.intDiv, Op.intBits, Op.intCmp, ne_eq, not_true_eq_false, if_false, Sem.run_pure, Sem.run_ite, Result.ok.injEq] at h ⊢ <;>
      first
        | (obtain ⟨rfl, rfl⟩ := h; exact ⟨rfl, rfl, trivial⟩)
        | (split at h <;> simp_all [runtimePanic])
  · cases op <;> simp only [binOp, Op.shift, ne_eq, hk, not_false_eq_true, if_true, run_stuck, Sem.run_ite, Sem.run_pure] at h ⊢ <;>
      first
        | cases h
        | (split at h <;> simp_all [runtimePanic])
theorem binOp_strs_pure {op : BinOp} {t : TypeId} {a b : ByteArray} {v : Value} {w w' : World}
    (h : (binOp op t (.string a) (.string b)).run P w = .ok v w') (u : World) : w' = w ∧ (binOp op t (.string a) (.string b)).run P u = .ok v u := by
  cases op <;> simp only [binOp, Op.stringOp, Sem.run_pure, Sem.run_ite, run_stuck, run_unsupported, Result.ok.injEq] at h ⊢ <;>
    first
      | (obtain ⟨rfl, rfl⟩ := h; exact ⟨rfl, rfl, trivial⟩)
      | (split at h <;> simp_all; done)
      | cases h

theorem rBin_pure {op : BinOp} {t : TypeId} {xo yo : Operand} {x y : Value} {w : World} {K : Value → World → Prop}
    (hk : binQ x y = .pure) (h : rBin P op t xo yo x y w K) :
    ∃ v, (∀ u, (do eqGuard op t xo yo x y; binOp op t x y : Sem Value).run P u = .ok v u) ∧ K v w := by
  rw [rBin_old] at h
  rw [binQ_old] at hk
  unfold binQO at hk
  unfold rBinO at h
  split at h
  · simp only [run_binOp_ints]
    split at h
    · obtain ⟨h0, h⟩ := h
      have h1 : ¬ _ < (0 : Int) := Int.not_lt.2 h0
      exact ⟨_, fun u => by simp only [binOp, Op.shift, if_neg h1]; rfl, h⟩
    · obtain ⟨h0, h⟩ := h
      have h1 : ¬ _ < (0 : Int) := Int.not_lt.2 h0
      exact ⟨_, fun u => by simp only [binOp, Op.shift, if_neg h1]; rfl, h⟩
    · obtain ⟨hk, h0, g⟩ := onlyIf_elim h
      have hk' := of_decide_eq_true hk
      subst hk'
      exact ⟨_, fun u => by simp only [binOp, Op.intDiv, if_neg h0, ne_eq, not_true_eq_false, if_false]; rfl, g⟩
    · obtain ⟨hk, h0, g⟩ := onlyIf_elim h
      have hk' := of_decide_eq_true hk
      subst hk'
      exact ⟨_, fun u => by simp only [binOp, Op.intDiv, if_neg h0, ne_eq, not_true_eq_false, if_false]; rfl, g⟩
    · obtain ⟨v, w', hr, hk⟩ := rRun_elim h
      obtain ⟨rfl, _⟩ := binOp_ints_pure hr w
      exact ⟨v, fun u => (binOp_ints_pure hr u).2, hk⟩
  · simp only [run_binOp_strs]
    split at h
    · obtain ⟨h0, h⟩ := h
      refine ⟨_, fun u => ?_, h⟩
      have hm : IntKind.i64.max = 9223372036854775807 := by decide
      simp only [binOp, Op.stringOp]
      rw [if_neg (by rw [hm]; omega)]
      rfl
    · obtain ⟨v, w', hr, hk⟩ := rRun_elim h
      obtain ⟨rfl, _⟩ := binOp_strs_pure hr w
      exact ⟨v, fun u => (binOp_strs_pure hr u).2, hk⟩
  · rename_i p q
    split at h
    · obtain ⟨hp, h⟩ := onlyIf_elim h
      split at hp
      · rename_i e he
        cases q with
        | none => exact ⟨_, fun u => by simp only [eqGuard, binOp, Sem.run_bind, equal_ptr he]; rfl, h⟩
        | some q => cases p with
          | none => exact ⟨_, fun u => by simp only [eqGuard, binOp, Sem.run_bind, equal_ptr' he]; rfl, h⟩
          | some p => exact h.elim
      · cases hp
    · obtain ⟨hp, h⟩ := onlyIf_elim h
      split at hp
      · rename_i e he
        cases q with
        | none => exact ⟨_, fun u => by simp only [eqGuard, binOp, Sem.run_bind, equal_ptr he]; rfl, h⟩
        | some q => cases p with
          | none => exact ⟨_, fun u => by simp only [eqGuard, binOp, Sem.run_bind, equal_ptr' he]; rfl, h⟩
          | some p => exact h.elim
      · cases hp
    · exact h.elim
  · rename_i a l c l' c'
    split at h
    · obtain ⟨hp, h⟩ := onlyIf_elim h
      split at hp
      · rename_i e he
        exact ⟨_, fun u => by simp only [eqGuard, binOp, Sem.run_bind, equal_slice he]; rfl, h⟩
      · cases hp
    · obtain ⟨hp, h⟩ := onlyIf_elim h
      split at hp
      · rename_i e he
        exact ⟨_, fun u => by simp only [eqGuard, binOp, Sem.run_bind, equal_slice he]; rfl, h⟩
      · cases hp
    · exact h.elim
  · split at h
    · obtain ⟨hp, h⟩ := onlyIf_elim h
      split at hp
      · rename_i e he
        unfold EqI at h
        split at h
        · refine ⟨_, fun u => ?_, h⟩
          cases xo <;> simp [eqGuard, binOp, equal_nil he]
        · exact ⟨_, fun u => by simp only [eqGuard, binOp, Sem.run_bind, equal_iface he]; rfl, h⟩
        · exact h.elim
      · cases hp
    · obtain ⟨hp, h⟩ := onlyIf_elim h
      split at hp
      · rename_i e he
        unfold EqI at h
        split at h
        · refine ⟨_, fun u => ?_, h⟩
          cases xo <;> simp [eqGuard, binOp, equal_nil he]
        · exact ⟨_, fun u => by simp only [eqGuard, binOp, Sem.run_bind, equal_iface he]; rfl, h⟩
        · exact h.elim
      · cases hp
    · exact h.elim
  · split at hk <;> first | (simp at hk; done) | (exfalso; solve_by_elim)

/-- An operation that is taken for plain gives its value in whatever world. -/
theorem rOp_pure {o : Oper} {kn : Kn} {r : Regs} {w : World} {K : Option Bool → Value → World → Prop} (hkn : KnOk kn r) (hq : qkind o r = .pure)
    (h : rOp P o kn r w K) : ∃ info v, InfoOk info v ∧ (∀ u, (execOp (rho r) o).run P u = .ok (.value v) u) ∧ K info v w := by
  unfold rOp at h
  unfold qkind at hq
  split at h
  · rename_i x hop
    exact ⟨_, _, knownOf_ok hkn x, fun u => by simp only [execOp, hop, Sem.run_pure], h⟩
  · rename_i x hop
    exact ⟨_, _, knownOf_ok hkn x, fun u => by simp only [execOp, hop, Sem.run_pure], h⟩
  · rename_i c x y hop
    split at h
    · rename_i hc
      obtain ⟨hb, h⟩ := onlyIf_elim h
      have hv := knownOf_ok hkn c _ hc
      exact ⟨_, _, knownOf_ok hkn x, fun u => by simp only [execOp, hop, hv, asBool, Sem.run_bind, Sem.run_pure, Result.andThen_ok, if_true], h⟩
    · rename_i hc
      obtain ⟨hb, h⟩ := onlyIf_elim h
      have hv := knownOf_ok hkn c _ hc
      exact ⟨_, _, knownOf_ok hkn y, fun u => by simp only [execOp, hop, hv, asBool, Sem.run_bind, Sem.run_pure, Result.andThen_ok, Bool.false_eq_true, if_false], h⟩
    · obtain ⟨b, hv, h⟩ := mBool_elim h
      cases b with
      | true => exact ⟨_, _, knownOf_ok hkn x, fun u => by simp only [execOp, hop, hv, asBool, Sem.run_bind, Sem.run_pure, Result.andThen_ok, if_true], h.1 rfl⟩
      | false => exact ⟨_, _, knownOf_ok hkn y, fun u => by simp only [execOp, hop, hv, asBool, Sem.run_bind, Sem.run_pure, Result.andThen_ok, Bool.false_eq_true, if_false], h.2 rfl⟩
  · rename_i t x hop; rw [hop] at hq; cases hq
  · rename_i t x y hop; rw [hop] at hq; cases hq
  · rename_i x hop
    split at h
    · rename_i p hv
      obtain ⟨ad, rfl, hk⟩ := NN_elim h
      exact ⟨_, _, infoOk_none _, fun u => by simp only [execOp, hop, hv, Sem.run_pure], hk⟩
    · rename_i g f1 f2 hv
      exact ⟨_, _, infoOk_none _, fun u => by simp only [execOp, hop, hv, Sem.run_pure], h⟩
    · exact h.elim
  · rename_i t x ix hop
    split at h
    · rename_i base len cap k i hx hi
      split at h
      · rename_i sz hs
        obtain ⟨ad, rfl, h0, h1, hk⟩ := h
        exact ⟨_, _, infoOk_none _, fun u => by simp only [execOp, hop, hx, hi, Sem.run_bind, slice_run hs h0 h1, Result.andThen_ok, Sem.run_pure], hk⟩
      · exact h.elim
    · rename_i ad k i hx hi
      split at h
      · rename_i n sz hs
        obtain ⟨⟨h0, h1⟩, hk⟩ := h
        exact ⟨_, _, infoOk_none _, fun u => by simp only [execOp, hop, hx, hi, Sem.run_bind, arr_run hs h0 h1, Result.andThen_ok, Sem.run_pure], hk⟩
      · exact h.elim
    · exact h.elim
  · rename_i t x ix hop; rw [hop] at hq; cases hq
  · rename_i op t x y _ hop
    rw [hop] at hq
    obtain ⟨v, hr, hk⟩ := rBin_pure hq h
    refine ⟨_, _, infoOk_none v, fun u => ?_, hk⟩
    have hr := hr u
    simp only [execOp, hop]
    simp only [Sem.run_bind] at hr ⊢
    rw [hr]
    simp only [Result.andThen_ok, Sem.run_pure]
  · rename_i x i hop
    obtain ⟨cs, hv, h⟩ := mTup_elim h
    obtain ⟨v, hn, hk⟩ := mNth_elim h
    exact ⟨_, _, infoOk_none v, fun u => by simp only [execOp, hop, hv, Instr.extract, List.getElem?_toArray, hn, Sem.run_bind, Sem.run_pure, Result.andThen_ok],
      tyV_elim (K := fun v => K none v w) hk⟩
  · rename_i f args ats hop; rw [hop] at hq; cases hq
  · rename_i x name args ats hop; rw [hop] at hq; cases hq
  · rename_i b args ats hop; rw [hop] at hq; cases b <;> cases hq
  · rename_i hop; rw [hop] at hq; cases hq
  · rename_i hop; rw [hop] at hq; cases hq
  · rename_i hop; rw [hop] at hq; cases hq
  · rename_i t x f hop
    split at h
    · rename_i ad off hx hf
      exact ⟨_, _, infoOk_none _, fun u => by simp only [execOp, hop, hx, Sem.run_bind, field_run hf, Result.andThen_ok, Sem.run_pure], h⟩
    · exact h.elim
  · rename_i hop; rw [hop] at hq; cases hq
  · rename_i hop; rw [hop] at hq; cases hq
  · rename_i hop; rw [hop] at hq; cases hq
  · rename_i hop; rw [hop] at hq; cases hq
  · rename_i hop; rw [hop] at hq; cases hq
  · rename_i hop; rw [hop] at hq; cases hq
  · obtain ⟨dst, op, type, pos, after, guard⟩ := o
    cases op <;> first
      | (simp [opSem, rRun] at h; done)
      | (simp at hq; done)
      | (exfalso; simp_all; done)
      | (exfalso; solve_by_elim)

end Go.Sh
