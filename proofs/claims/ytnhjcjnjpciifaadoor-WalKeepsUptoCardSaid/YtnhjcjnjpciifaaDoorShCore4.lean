/- The shallow reading is sound: one operation, a region that keeps its order, code without loops. -/
import Derived.Test.YtnhjcjnjpciifaaDoorShCore3
namespace Go.Sh
variable {P : Program}

def InfoOk (info : Option Bool) (v : Value) : Prop := ∀ b, info = some b → v = .bool b
theorem infoOk_none (v : Value) : InfoOk none v := fun _ h => by cases h
theorem knownOf_ok {kn : Kn} {r : Regs} (h : KnOk kn r) (x : Operand) : InfoOk (knownOf kn x) (rho r x) := by
  intro b hb
  cases x with
  | tmp t => exact h t b hb
  | const v => cases v <;> simp_all [knownOf, rho]
  | _ => cases hb

theorem run_binOp_ints {op : BinOp} {t : TypeId} {k k' : IntKind} {a b : Int} {xo yo : Operand} (w : World) :
    (do eqGuard op t xo yo (.int k a) (.int k' b); binOp op t (.int k a) (.int k' b) : Sem Value).run P w = (binOp op t (.int k a) (.int k' b)).run P w := by
  cases op <;> rfl
theorem run_binOp_strs {op : BinOp} {t : TypeId} {a b : ByteArray} {xo yo : Operand} (w : World) :
    (do eqGuard op t xo yo (.string a) (.string b); binOp op t (.string a) (.string b) : Sem Value).run P w = (binOp op t (.string a) (.string b)).run P w := by
  cases op <;> rfl
theorem equalIn_ptr {t e : TypeId} (he : P.underlying t = some (.pointer e)) (p : Option Addr) (w : World) (d : Nat) :
    (Op.equalIn (d + 1) t (.pointer p) (.pointer none)).run P w = .ok p.isNone w := by
  cases p <;> simp [Op.equalIn, run_underlying' he]
theorem equalIn_ptr' {t e : TypeId} (he : P.underlying t = some (.pointer e)) (p : Addr) (w : World) (d : Nat) :
    (Op.equalIn (d + 1) t (.pointer none) (.pointer (some p))).run P w = .ok false w := by
  simp [Op.equalIn, run_underlying' he]
theorem equalIn_slice {t e : TypeId} (he : P.underlying t = some (.slice e)) (p : Option Addr) (l c l' c' : Nat) (w : World) (d : Nat) :
    (Op.equalIn (d + 1) t (.slice p l c) (.slice none l' c')).run P w = .ok p.isNone w := by
  cases p <;> simp [Op.equalIn, run_underlying' he]
theorem equalIn_nil {t : TypeId} {ms : Array (String × TypeId)} (he : P.underlying t = some (.interface ms)) (w : World) (d : Nat) :
    (Op.equalIn (d + 1) t .nilIface .nilIface).run P w = .ok true w := by
  simp [Op.equalIn, run_underlying' he]
theorem equalIn_iface {t : TypeId} {ms : Array (String × TypeId)} (he : P.underlying t = some (.interface ms)) (u : TypeId) (x : Value) (w : World) (d : Nat) :
    (Op.equalIn (d + 1) t (.iface u x) .nilIface).run P w = .ok false w := by
  simp [Op.equalIn, run_underlying' he]
theorem equal_ptr {t e : TypeId} (he : P.underlying t = some (.pointer e)) (p : Option Addr) (w : World) :
    (Op.equal t (.pointer p) (.pointer none)).run P w = .ok p.isNone w := equalIn_ptr he p w 9999
theorem equal_ptr' {t e : TypeId} (he : P.underlying t = some (.pointer e)) (p : Addr) (w : World) :
    (Op.equal t (.pointer none) (.pointer (some p))).run P w = .ok false w := equalIn_ptr' he p w 9999
theorem equal_slice {t e : TypeId} (he : P.underlying t = some (.slice e)) (p : Option Addr) (l c l' c' : Nat) (w : World) :
    (Op.equal t (.slice p l c) (.slice none l' c')).run P w = .ok p.isNone w := equalIn_slice he p l c l' c' w 9999
theorem equal_nil {t : TypeId} {ms : Array (String × TypeId)} (he : P.underlying t = some (.interface ms)) (w : World) :
    (Op.equal t .nilIface .nilIface).run P w = .ok true w := equalIn_nil he w 9999
theorem equal_iface {t : TypeId} {ms : Array (String × TypeId)} (he : P.underlying t = some (.interface ms)) (u : TypeId) (x : Value) (w : World) :
    (Op.equal t (.iface u x) .nilIface).run P w = .ok false w := equalIn_iface he u x w 9999

theorem rBin_elim {op : BinOp} {t : TypeId} {xo yo : Operand} {x y : Value} {w : World} {K : Value → World → Prop}
    (h : rBin P op t xo yo x y w K) :
    ∃ v w', (do eqGuard op t xo yo x y; binOp op t x y : Sem Value).run P w = .ok v w' ∧ K v w' := by
  rw [rBin_old] at h
  unfold rBinO at h
  split at h
  · rw [run_binOp_ints]
    split at h
    · obtain ⟨h0, h⟩ := h
      have h1 : ¬ _ < (0 : Int) := Int.not_lt.2 h0
      exact ⟨_, _, by simp only [binOp, Op.shift, if_neg h1]; rfl, h⟩
    · obtain ⟨h0, h⟩ := h
      have h1 : ¬ _ < (0 : Int) := Int.not_lt.2 h0
      exact ⟨_, _, by simp only [binOp, Op.shift, if_neg h1]; rfl, h⟩
    · obtain ⟨hk, h0, g⟩ := onlyIf_elim h
      have hk' := of_decide_eq_true hk
      subst hk'
      exact ⟨_, _, by simp only [binOp, Op.intDiv, if_neg h0, ne_eq, not_true_eq_false, if_false]; rfl, g⟩
    · obtain ⟨hk, h0, g⟩ := onlyIf_elim h
      have hk' := of_decide_eq_true hk
      subst hk'
      exact ⟨_, _, by simp only [binOp, Op.intDiv, if_neg h0, ne_eq, not_true_eq_false, if_false]; rfl, g⟩
    · exact rRun_elim h
  · rw [run_binOp_strs]
    split at h
    · obtain ⟨h0, h⟩ := h
      refine ⟨_, _, ?_, h⟩
      have hm : IntKind.i64.max = 9223372036854775807 := by decide
      simp only [binOp, Op.stringOp]
      rw [if_neg (by rw [hm]; omega)]
      rfl
    · exact rRun_elim h
  · rename_i p q
    split at h
    · obtain ⟨hp, h⟩ := onlyIf_elim h
      split at hp
      · rename_i e he
        cases q with
        | none => exact ⟨_, _, by simp only [eqGuard, binOp, Sem.run_bind, equal_ptr he]; rfl, h⟩
        | some q => cases p with
          | none => exact ⟨_, _, by simp only [eqGuard, binOp, Sem.run_bind, equal_ptr' he]; rfl, h⟩
          | some p => exact h.elim
      · cases hp
    · obtain ⟨hp, h⟩ := onlyIf_elim h
      split at hp
      · rename_i e he
        cases q with
        | none => exact ⟨_, _, by simp only [eqGuard, binOp, Sem.run_bind, equal_ptr he]; rfl, h⟩
        | some q => cases p with
          | none => exact ⟨_, _, by simp only [eqGuard, binOp, Sem.run_bind, equal_ptr' he]; rfl, h⟩
          | some p => exact h.elim
      · cases hp
    · exact h.elim
  · rename_i a l c l' c'
    split at h
    · obtain ⟨hp, h⟩ := onlyIf_elim h
      split at hp
      · rename_i e he
        exact ⟨_, _, by simp only [eqGuard, binOp, Sem.run_bind, equal_slice he]; rfl, h⟩
      · cases hp
    · obtain ⟨hp, h⟩ := onlyIf_elim h
      split at hp
      · rename_i e he
        exact ⟨_, _, by simp only [eqGuard, binOp, Sem.run_bind, equal_slice he]; rfl, h⟩
      · cases hp
    · exact h.elim
  · split at h
    · obtain ⟨hp, h⟩ := onlyIf_elim h
      split at hp
      · rename_i e he
        unfold EqI at h
        split at h
        · refine ⟨_, _, ?_, h⟩
          cases xo <;> simp [eqGuard, binOp, equal_nil he]
        · exact ⟨_, _, by simp only [eqGuard, binOp, Sem.run_bind, equal_iface he]; rfl, h⟩
        · exact h.elim
      · cases hp
    · obtain ⟨hp, h⟩ := onlyIf_elim h
      split at hp
      · rename_i e he
        unfold EqI at h
        split at h
        · refine ⟨_, _, ?_, h⟩
          cases xo <;> simp [eqGuard, binOp, equal_nil he]
        · exact ⟨_, _, by simp only [eqGuard, binOp, Sem.run_bind, equal_iface he]; rfl, h⟩
        · exact h.elim
      · cases hp
    · exact h.elim
  · obtain ⟨v, w', hr, hk⟩ := rRun_elim h
    obtain ⟨b, rfl, hk⟩ := mBool_elim hk
    exact ⟨_, _, hr, hk⟩

end Go.Sh
