/- A region that draws its order: soundness. -/
import Derived.Test.YtnhjcjnjpciifaaDoorShCore8
namespace Go.Sh
variable {P : Program}

def valOp (o : Oper) : Bool :=
  match o.op with
  | .load .. => true
  | .binOp .. => true
  | .index .. => true
  | .lookup .. => true
  | .field .. => true
  | .unOp .. => true
  | .convert .. => true
  | .slice .. => true
  | .build .. => true
  | .makeInterface .. => true
  | .makeFunc .. => true
  | .call { callee := .builtin .len, .. } => true
  | .call { callee := .builtin .cap, .. } => true
  | .call { callee := .builtin .min, .. } => true
  | .call { callee := .builtin .max, .. } => true
  | _ => false
theorem valOp_of {o : Oper} {r : Regs} (h : (match qkind o r with | .load => true | .look => true | _ => false) = true) : valOp o = true := by
  obtain ⟨dst, op, type, pos, after, guard⟩ := o
  cases op <;> first
    | rfl
    | (simp [qkind] at h; done)
    | (rename_i c; obtain ⟨callee, args, ats⟩ := c; cases callee <;> first
        | (simp [qkind] at h; done)
        | (rename_i b; cases b <;> first | rfl | (simp [qkind] at h; done)))

theorem val_run {s : Sem Value} {w : World} {T : Value → (Value → Prop) → Prop} (hT : ∀ {v : Value} {K : Value → Prop}, T v K → K v) {K : Option Bool → Value → World → Prop}
    (h : rRun P s w fun v w' => T v fun v => K none v w') :
    ∃ info v w', InfoOk info v ∧ (do pure (.value (← s)) : Sem Next).run P w = .ok (.value v) w' ∧ K info v w' := by
  obtain ⟨v, w', hr, hk⟩ := rRun_elim h
  exact ⟨none, v, w', infoOk_none v, by simp only [Sem.run_bind, hr, Result.andThen_ok, Sem.run_pure], hT (K := fun v => K none v w') hk⟩

/-- An operation that only comes to a value comes to it. -/
theorem rOp_val {o : Oper} {kn : Kn} {r : Regs} {w : World} {K : Option Bool → Value → World → Prop} (hq : valOp o = true)
    (h : rOp P o kn r w K) : ∃ info v w', InfoOk info v ∧ (execOp (rho r) o).run P w = .ok (.value v) w' ∧ K info v w' := by
  obtain ⟨dst, op, type, pos, after, guard⟩ := o
  cases op <;> first
    | (simp [valOp] at hq; done)
    | exact val_run tyR_elim h
    | skip
  case load t a =>
    simp only [rOp] at h
    split at h
    · rename_i ad hv
      obtain ⟨v, hr, hk⟩ := ldVar_elim h
      exact ⟨none, v, w, infoOk_none v, by simp only [execOp, hv, Sem.run_bind, hr, Result.andThen_ok, Sem.run_pure], hk⟩
    · exact h.elim
  case binOp op t x y u =>
    obtain ⟨v, w', hr, hk⟩ := rBin_elim h
    refine ⟨none, v, w', infoOk_none v, ?_, hk⟩
    simp only [execOp]
    simp only [Sem.run_bind] at hr ⊢
    rw [hr]
    simp only [Result.andThen_ok, Sem.run_pure]
  case index t x ix =>
    simp only [rOp] at h
    split at h
    · rename_i s k i hx hi
      obtain ⟨ht, c, h0, hc, hk⟩ := onlyIf_elim h
      split at ht
      · rename_i he
        exact ⟨none, _, w, infoOk_none _, by simp only [execOp, hx, hi, Instr.index, asIntOf, Sem.run_bind, Sem.run_pure, Result.andThen_ok, run_underlying' he, if_pos h0, hc], hk⟩
      · cases ht
    · exact val_run tyV_elim h
  case call c =>
    obtain ⟨callee, args, ats⟩ := c
    cases callee with
    | value f => simp [valOp] at hq
    | invoke x m => simp [valOp] at hq
    | builtin b =>
      simp only [rOp] at h
      have hargs : (List.map (rho r) args.toList).toArray = Array.map (rho r) args := by apply Array.ext'; simp
      rw [hargs] at h
      simp only [execOp, resolve, Sem.run_bind, Sem.run_pure, Result.andThen_ok, invoke]
      unfold builtin
      cases b <;> first
        | exact val_run tyR_elim h
        | (simp [valOp] at hq; done)

theorem cellsEq_elim {w : World} {a : Addr} {cs : List Value} : ∀ {i : Nat} {p : Prop}, cellsEq w a cs i p →
    p ∧ ∀ acc : Array Value, (loadCellsFrom a i cs.length acc).run P w = .ok (acc ++ cs.toArray) w := by
  induction cs with
  | nil => intro i p h; exact ⟨h, fun acc => by simp [loadCellsFrom]⟩
  | cons v vs ih =>
    intro i p h
    obtain ⟨hv, h⟩ := h
    obtain ⟨hp, hrun⟩ := ih h
    refine ⟨hp, fun acc => ?_⟩
    simp only [List.length_cons, loadCellsFrom, Sem.run_bind, run_load, hv, Result.andThen_ok, hrun]
    congr 1
    apply Array.ext'
    simp
theorem stabOp_elim {o : Oper} {r : Regs} {w : World} {val : Value} {p : Prop} (hq : valOp o = true) (h : stabOp P o r w val p) :
    (execOp (rho r) o).run P w = .ok (.value val) w ∧ p := by
  unfold stabOp at h
  split at h
  · rename_i t x hop
    split at h
    · rename_i ad hv
      suffices hs : (Instr.loadAt t (.pointer (some ad))).run P w = .ok val w ∧ p by
        exact ⟨by simp only [execOp, hop, hv, Sem.run_bind, hs.1, Result.andThen_ok, Sem.run_pure], hs.2⟩
      split at h
      · exact h
      · rename_i hraw
        split at h
        · rename_i hagg
          split at h
          · rename_i cs n hn
            obtain ⟨hb, h⟩ := onlyIf_elim h
            obtain ⟨hp, hrun⟩ := cellsEq_elim (P := P) h
            have hlen := Nat.eq_of_beq_eq_true hb
            refine ⟨?_, hp⟩
            have hu : ∃ d, P.underlying t = some d ∧ (∃ fs, d = .struct fs) ∨ ∃ k e, P.underlying t = some (.array k e) := by
              unfold aggOf at hagg
              split at hagg
              · rename_i fs hf; exact ⟨_, .inl ⟨hf, fs, rfl⟩⟩
              · rename_i k e hf; exact ⟨default, .inr ⟨k, e, hf⟩⟩
              · simp at hagg
            have hia : (isAgg t).run P w = .ok true w := by
              obtain ⟨d, ⟨hd, fs, rfl⟩ | ⟨k, e, hd⟩⟩ := hu <;> simp [isAgg, run_underlying' hd]
            have h0 := hrun #[]
            rw [hlen] at h0
            simp [Instr.loadAt, Instr.sureAddr, loadVar, hia, run_sizeOf' hn, loadCells, h0]
          · exact h.elim
        · rename_i hagg
          obtain ⟨hd, hc, hp⟩ := onlyIf_elim h
          split at hd
          · rename_i d he
            refine ⟨?_, hp⟩
            have hia : (isAgg t).run P w = .ok false w := by
              unfold aggOf at hagg
              unfold isRawArr at hraw
              rw [he] at hagg hraw
              cases d <;> first
                | (simp at hagg; done)
                | (simp [isAgg, run_underlying' he]; done)
                | (simp only [Bool.not_eq_false'] at hraw; simp only [hraw] at hagg; cases hagg)
            simp [Instr.loadAt, Instr.sureAddr, loadVar, hia, hc]
          · cases hd
    · exact h.elim
  · obtain ⟨h, hp⟩ := h
    obtain ⟨info, v, w', _, hr, rfl, rfl⟩ := rOp_val hq h
    exact ⟨hr, hp⟩

theorem rAll_elim {l : List Nat} {f : Nat → Prop} (h : rAll l f) : ∀ i ∈ l, f i := by
  induction l with
  | nil => intro i hi; cases hi
  | cons x t ih =>
    intro i hi
    cases t with
    | nil =>
      rw [List.mem_singleton] at hi
      subst hi
      exact h
    | cons y t =>
      rcases List.mem_cons.1 hi with rfl | hi
      · exact h.1
      · exact ih h.2 i hi
theorem firstQ_elim {ops : Array Oper} {listed : Array Bool} {pend : List (Nat × Value)} {kn : Kn} {r : Regs} {l : List Nat} {i : Nat}
    (h : firstQ ops listed pend kn r l = some i) : i ∈ l ∧ selectable ops listed pend kn r i = true := by
  induction l with
  | nil => cases h
  | cons x t ih =>
    unfold firstQ at h
    split at h
    · rename_i hs
      cases h
      exact ⟨List.mem_cons_self, hs⟩
    · obtain ⟨h1, h2⟩ := ih h
      exact ⟨List.mem_cons_of_mem _ h1, h2⟩

theorem rStab_elim {ops : Array Oper} {r : Regs} {w : World} {p : Prop} {pend : List (Nat × Value)} (h : rStab P ops r w pend p) :
    p ∧ ∀ q ∈ pend, ∃ o, ops[q.1]? = some o ∧ (valOp o = true → (execOp (rho r) o).run P w = .ok (.value q.2) w) := by
  induction pend with
  | nil => exact ⟨h, fun q hq => by cases hq⟩
  | cons x t ih =>
    obtain ⟨q, v⟩ := x
    unfold rStab at h
    split at h
    · rename_i o ho
      by_cases hv : valOp o = true
      · obtain ⟨hr, h⟩ := stabOp_elim hv h
        obtain ⟨hp, hall⟩ := ih h
        refine ⟨hp, fun y hy => ?_⟩
        rcases List.mem_cons.1 hy with rfl | hy
        · exact ⟨o, ho, fun _ => hr⟩
        · exact hall y hy
      · have hp : rStab P ops r w t p := by
          unfold stabOp at h
          split at h
          · rename_i hop; simp [valOp, hop] at hv
          · exact h.2
        obtain ⟨hp, hall⟩ := ih hp
        refine ⟨hp, fun y hy => ?_⟩
        rcases List.mem_cons.1 hy with rfl | hy
        · exact ⟨o, ho, fun hv' => absurd hv' hv⟩
        · exact hall y hy
    · exact h.elim

end Go.Sh
