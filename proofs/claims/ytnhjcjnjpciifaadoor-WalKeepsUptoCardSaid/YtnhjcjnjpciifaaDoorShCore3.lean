/- The shallow reading is sound for the walk's own rules: operation by operation. -/
import Derived.Test.YtnhjcjnjpciifaaDoorShCore2
namespace Go.Sh
variable {P : Program}

structure Rel (n : Nat) (a : Act) (r : Regs) : Prop where
  defers : a.defers = []
  size : a.tmps.size = n
  tmps : ∀ i, a.tmps.getD i undef = r i
def KnOk (kn : Kn) (r : Regs) : Prop := ∀ i b, knGet kn i = some b → r i = .bool b

theorem onlyIf_elim {b : Bool} {p : Prop} (h : onlyIf b p) : b = true ∧ p := by
  cases b with
  | true => exact ⟨rfl, h⟩
  | false => exact h.elim
theorem Rel.eval {n : Nat} {a : Act} {r : Regs} (h : Rel n a r) : a.eval = rho r := by
  funext x
  cases x with
  | tmp t => exact h.tmps t
  | _ => rfl
theorem upd_same (r : Regs) (i : Nat) (v : Value) : upd r i v i = v := by simp [upd]
theorem upd_ne {r : Regs} {i j : Nat} {v : Value} (h : j ≠ i) : upd r i v j = r j := by
  unfold upd
  have : Nat.beq j i = false := by
    rw [Bool.eq_false_iff]
    exact fun hc => h (Nat.eq_of_beq_eq_true hc)
  rw [this]
theorem upd_self {r : Regs} {i : Nat} {v : Value} (h : r i = v) : upd r i v = r := by
  funext j
  by_cases hj : j = i
  · subst hj; rw [upd_same, h]
  · rw [upd_ne hj]
theorem Rel.put {n : Nat} {a : Act} {r : Regs} (h : Rel n a r) {d : Nat} (hd : d < n) (v : Value) : Rel n (a.put (some d) v) (upd r d v) := by
  refine ⟨h.defers, by simp [Act.put, h.size], fun i => ?_⟩
  have hs : d < a.tmps.size := by rw [h.size]; exact hd
  by_cases hi : i = d
  · subst hi; rw [upd_same]; simp [Act.put, hs]
  · rw [upd_ne hi, ← h.tmps i]
    simp [Act.put, Array.getElem?_setIfInBounds_ne (Ne.symm hi)]

theorem mInt_elim {k : IntKind} {v : Value} {K : Int → Prop} (h : mInt k v K) : ∃ n, v = .int k n ∧ K n := by
  cases v with
  | int k' n =>
    unfold mInt at h
    by_cases hk : k' = k
    · subst hk; exact ⟨n, rfl, by simpa using h⟩
    · simp [hk] at h
  | _ => exact h.elim
theorem mBool_elim {v : Value} {K : Bool → Prop} (h : mBool v K) : ∃ n, v = .bool n ∧ K n := by cases v <;> first | exact h.elim | exact ⟨_, rfl, h⟩
theorem mStr_elim {v : Value} {K : ByteArray → Prop} (h : mStr v K) : ∃ n, v = .string n ∧ K n := by cases v <;> first | exact h.elim | exact ⟨_, rfl, h⟩
theorem mPtr_elim {v : Value} {K : Option Addr → Prop} (h : mPtr v K) : ∃ n, v = .pointer n ∧ K n := by cases v <;> first | exact h.elim | exact ⟨_, rfl, h⟩
theorem mSlice_elim {v : Value} {K : Option Addr → Nat → Nat → Prop} (h : mSlice v K) : ∃ a l c, v = .slice a l c ∧ K a l c := by
  cases v <;> first | exact h.elim | exact ⟨_, _, _, rfl, h⟩
theorem mMap_elim {v : Value} {K : Option Nat → Prop} (h : mMap v K) : ∃ n, v = .map n ∧ K n := by cases v <;> first | exact h.elim | exact ⟨_, rfl, h⟩
theorem mAgg_elim {v : Value} {K : List Value → Prop} (h : mAgg v K) : ∃ cs : List Value, v = .agg cs.toArray ∧ K cs := by
  cases v <;> first | exact h.elim | exact ⟨_, rfl, h⟩
theorem mTup_elim {v : Value} {K : List Value → Prop} (h : mTup v K) : ∃ cs : List Value, v = .tuple cs.toArray ∧ K cs := by
  cases v <;> first | exact h.elim | exact ⟨_, rfl, h⟩
theorem mCell_elim {c : CellTy} {v : Value} {K : Value → Prop} (h : mCell c v K) : K v := by
  cases c with
  | int k => obtain ⟨n, e, g⟩ := mInt_elim (K := fun n => K (.int k n)) h; rw [e]; exact g
  | bool => obtain ⟨n, e, g⟩ := mBool_elim (K := fun n => K (.bool n)) h; rw [e]; exact g
  | str => obtain ⟨n, e, g⟩ := mStr_elim (K := fun n => K (.string n)) h; rw [e]; exact g
  | ptr => obtain ⟨n, e, g⟩ := mPtr_elim (K := fun n => K (.pointer n)) h; rw [e]; exact g
  | slice => obtain ⟨a, l, c, e, g⟩ := mSlice_elim (K := fun a l c => K (.slice a l c)) h; rw [e]; exact g
  | map => obtain ⟨n, e, g⟩ := mMap_elim (K := fun n => K (.map n)) h; rw [e]; exact g
  | raw => exact h
theorem mCells_elim {tys : List CellTy} : ∀ {l : List Value} {K : List Value → Prop}, mCells tys l K → K l := by
  induction tys with
  | nil => intro l K h; cases l with
    | nil => exact h
    | cons _ _ => exact h.elim
  | cons c cs ih => intro l K h; cases l with
    | nil => exact h.elim
    | cons x t => exact ih (l := t) (K := fun ys => K (x :: ys)) (mCell_elim (K := fun y => mCells cs t fun ys => K (y :: ys)) h)
theorem tyV_elim {t : TypeId} {v : Value} {K : Value → Prop} (h : tyV P t v K) : K v := by
  unfold tyV at h
  split at h
  · exact h
  · split at h
    · obtain ⟨cs, rfl, h⟩ := mAgg_elim h
      exact mCells_elim h
    · exact mCell_elim h
theorem mTys_elim {ts : List TypeId} : ∀ {l : List Value} {K : List Value → Prop}, mTys P ts l K → K l := by
  induction ts with
  | nil => intro l K h; cases l with
    | nil => exact h
    | cons _ _ => exact h.elim
  | cons c cs ih => intro l K h; cases l with
    | nil => exact h.elim
    | cons x t => exact ih (l := t) (K := fun ys => K (x :: ys)) (tyV_elim (K := fun y => mTys P cs t fun ys => K (y :: ys)) h)
theorem tyR_elim {t : TypeId} {v : Value} {K : Value → Prop} (h : tyR P t v K) : K v := by
  unfold tyR at h
  split at h
  · obtain ⟨cs, rfl, h⟩ := mTup_elim h
    exact mTys_elim h
  · exact tyV_elim h
theorem mNth_elim {l : List Value} : ∀ {i : Nat} {K : Value → Prop}, mNth l i K → ∃ v, l[i]? = some v ∧ K v := by
  induction l with
  | nil => intro i K h; exact h.elim
  | cons x t ih => intro i K h; cases i with
    | zero => exact ⟨x, rfl, h⟩
    | succ i => obtain ⟨v, hv, hk⟩ := ih h; exact ⟨v, by simpa using hv, hk⟩
theorem rRun_elim {α : Type} {s : Sem α} {w : World} {K : α → World → Prop} (h : rRun P s w K) : ∃ v w', s.run P w = .ok v w' ∧ K v w' := by
  unfold rRun at h
  split at h
  · exact ⟨_, _, by assumption, h⟩
  · exact h.elim
theorem rRun_intro {α : Type} {s : Sem α} {w w' : World} {v : α} {K : α → World → Prop} (h : s.run P w = .ok v w') (hk : K v w') : rRun P s w K := by
  unfold rRun; rw [h]; exact hk
theorem NN_elim {p : Option Addr} {K : Addr → Prop} (h : NN p K) : ∃ a, p = some a ∧ K a := by
  cases p with
  | none => exact h.elim
  | some a => exact ⟨a, rfl, h⟩

theorem ldCell_elim {c : CellTy} {w : World} {a : Addr} {K : Value → Prop} (h : ldCell c w a K) : ∃ v, w.cell? a = some v ∧ K v := by
  cases c with
  | int k => obtain ⟨n, hc, h⟩ := h; exact ⟨_, hc, h⟩
  | bool => obtain ⟨n, hc, h⟩ := h; exact ⟨_, hc, h⟩
  | str => obtain ⟨n, hc, h⟩ := h; exact ⟨_, hc, h⟩
  | ptr => obtain ⟨n, hc, h⟩ := h; exact ⟨_, hc, h⟩
  | slice => obtain ⟨b, l, c, hc, h⟩ := h; exact ⟨_, hc, h⟩
  | map => obtain ⟨n, hc, h⟩ := h; exact ⟨_, hc, h⟩
  | raw => exact h
theorem ldCells_elim {w : World} {a : Addr} {tys : List CellTy} : ∀ {i : Nat} {K : List Value → Prop}, ldCells w a tys i K →
    ∃ xs : List Value, xs.length = tys.length ∧ K xs ∧ ∀ acc : Array Value, (loadCellsFrom a i tys.length acc).run P w = .ok (acc ++ xs.toArray) w := by
  induction tys with
  | nil => intro i K h; exact ⟨[], rfl, h, fun acc => by simp [loadCellsFrom]⟩
  | cons c cs ih =>
    intro i K h
    obtain ⟨v, hv, h⟩ := ldCell_elim h
    obtain ⟨xs, hl, hk, hrun⟩ := ih h
    refine ⟨v :: xs, by simp [hl], hk, fun acc => ?_⟩
    simp only [List.length_cons, loadCellsFrom, Sem.run_bind, run_load, hv, Result.andThen_ok, hrun]
    congr 1
    apply Array.ext'
    simp
theorem run_underlying' {t : TypeId} {d : TypeDesc} (h : P.underlying t = some d) (w : World) : (underlying t).run P w = .ok d w := by
  simp [underlying, h]
theorem run_sizeOf' {t : TypeId} {n : Nat} (h : (P.info? t).map (·.size) = some n) (w : World) : (sizeOf t).run P w = .ok n w := by
  cases hi : P.info? t with
  | none => simp [hi] at h
  | some i => simp [hi] at h; simp [sizeOf, typeInfo, hi, h]
theorem ldVar_elim {t : TypeId} {a : Addr} {w : World} {K : Value → Prop} (h : ldVar P t a w K) :
    ∃ v, (Instr.loadAt t (.pointer (some a))).run P w = .ok v w ∧ K v := by
  unfold ldVar at h
  split at h
  · obtain ⟨v, w', hr, rfl, hk⟩ := rRun_elim h
    exact ⟨v, hr, hk⟩
  · rename_i hraw
    split at h
    · rename_i hagg
      split at h
      · rename_i n hn
        obtain ⟨hb, h⟩ := onlyIf_elim h
        obtain ⟨xs, hl, hk, hrun⟩ := ldCells_elim (P := P) h
        have hlen := Nat.eq_of_beq_eq_true hb
        refine ⟨_, ?_, hk⟩
        have hu : ∃ d, P.underlying t = some d ∧ (∃ fs, d = .struct fs) ∨ ∃ k e, P.underlying t = some (.array k e) := by
          unfold aggOf at hagg
          split at hagg
          · rename_i fs hf; exact ⟨_, .inl ⟨hf, fs, rfl⟩⟩
          · rename_i k e hf; exact ⟨default, .inr ⟨k, e, hf⟩⟩
          · simp at hagg
        have hia : (isAgg t).run P w = .ok true w := by
          obtain ⟨d, ⟨hd, fs, rfl⟩ | ⟨k, e, hd⟩⟩ := hu <;> simp [isAgg, run_underlying' hd]
        have h0 := hrun #[]
        rw [hlen] at h0
        simp [Instr.loadAt, Instr.sureAddr, loadVar, hia, run_sizeOf' hn, loadCells, h0]
      · exact h.elim
    · rename_i hagg
      split at h
      · rename_i d hd
        obtain ⟨v, hv, hk⟩ := ldCell_elim h
        refine ⟨v, ?_, hk⟩
        have hia : (isAgg t).run P w = .ok false w := by
          unfold aggOf at hagg
          unfold isRawArr at hraw
          rw [hd] at hagg hraw
          cases d <;> first
            | (simp at hagg; done)
            | (simp [isAgg, run_underlying' hd]; done)
            | (simp only [Bool.not_eq_false'] at hraw; simp only [hraw] at hagg; cases hagg)
        simp [Instr.loadAt, Instr.sureAddr, loadVar, hia, hv]
      · exact h.elim

theorem stCells_elim {a : Addr} {vs : List Value} : ∀ {w : World} {i : Nat} {K : World → Prop}, stCells w a vs i K →
    ∃ w', (storeCells a vs i).run P w = .ok () w' ∧ K w' := by
  induction vs with
  | nil => intro w i K h; exact ⟨w, by simp [storeCells], h⟩
  | cons v vs ih =>
    intro w i K h
    obtain ⟨hone, ⟨o, ho⟩, hf, h⟩ := onlyIf_elim h
    obtain ⟨w', hrun, hk⟩ := ih h
    refine ⟨w', ?_, hk⟩
    simp only [storeCells, Sem.run_bind, run_store P w _ v _ hone, ho, hf]
    simpa using hrun
theorem stVar_elim {t : TypeId} {a : Addr} {v : Value} {w : World} {K : World → Prop} (h : stVar P t a v w K) :
    ∃ w', (Instr.storeAt t (.pointer (some a)) v).run P w = .ok () w' ∧ K w' := by
  unfold stVar at h
  split at h
  · rename_i n hn
    obtain ⟨hb, h⟩ := onlyIf_elim h
    obtain ⟨w', hrun, hk⟩ := stCells_elim (P := P) h
    have hlen := Nat.eq_of_beq_eq_true hb
    have hsz : v.cells.size = n := by simpa using hlen
    refine ⟨w', ?_, hk⟩
    simp [Instr.storeAt, Instr.sureAddr, storeVar, run_sizeOf' hn, hsz, hrun]
  · exact h.elim
end Go.Sh
