/- Regions that keep their order, and code without loops: shallow reading and soundness. -/
import Derived.Test.YtnhjcjnjpciifaaDoorShCore5
namespace Go.Sh
variable {P : Program}

theorem knGet_del {kn : Kn} {i j : Nat} : knGet (knDel kn i) j = if j = i then none else knGet kn j := by
  induction kn with
  | nil => simp [knDel, knGet]
  | cons x t ih =>
    obtain ⟨k, b⟩ := x
    by_cases hki : k = i
    · subst hki
      have : Nat.beq k k = true := Nat.beq_refl k
      simp only [knDel, this, ih]
      by_cases hj : j = k
      · simp [hj]
      · have h2 : Nat.beq k j = false := by rw [Bool.eq_false_iff]; exact fun h => hj (Nat.eq_of_beq_eq_true h).symm
        simp [hj, knGet, h2]
    · have h1 : Nat.beq k i = false := by rw [Bool.eq_false_iff]; exact fun h => hki (Nat.eq_of_beq_eq_true h)
      simp only [knDel, h1, knGet]
      by_cases hkj : k = j
      · subst hkj
        simp [hki, Nat.beq_refl]
      · have h2 : Nat.beq k j = false := by rw [Bool.eq_false_iff]; exact fun h => hkj (Nat.eq_of_beq_eq_true h)
        simp only [h2, ih]
theorem KnOk.del {kn : Kn} {r : Regs} (h : KnOk kn r) (d : Nat) (v : Value) : KnOk (knDel kn d) (upd r d v) := by
  intro i b hb
  rw [knGet_del] at hb
  split at hb
  · cases hb
  · rename_i hne; rw [upd_ne hne]; exact h i b hb
theorem KnOk.cons {kn : Kn} {r : Regs} (h : KnOk kn r) {d : Nat} {b : Bool} (hd : r d = .bool b) : KnOk ((d, b) :: kn) r := by
  intro i c hc
  by_cases hi : d = i
  · subst hi
    simp only [knGet, Nat.beq_refl, Option.some.injEq] at hc
    rw [hd, hc]
  · have h2 : Nat.beq d i = false := by rw [Bool.eq_false_iff]; exact fun h => hi (Nat.eq_of_beq_eq_true h)
    simp only [knGet, h2] at hc
    exact h i c hc

theorem setDst_elim {n : Nat} {dst : Option Tmp} {info : Option Bool} {v : Value} {kn : Kn} {r : Regs} {K : Kn → Regs → Prop}
    (h : setDst n dst info v kn r K) {a : Act} (ha : Rel n a r) (hkn : KnOk kn r) (hi : InfoOk info v) :
    ∃ kn' r', Rel n (a.put dst v) r' ∧ KnOk kn' r' ∧ K kn' r' := by
  cases dst with
  | none => exact ⟨kn, r, ha, hkn, h⟩
  | some d =>
    obtain ⟨hd, h⟩ := onlyIf_elim h
    have hlt : d < n := by rw [Nat.blt_eq] at hd; exact hd
    cases info with
    | none => exact ⟨_, _, ha.put hlt v, hkn.del d v, h⟩
    | some b => exact ⟨_, _, ha.put hlt v, (hkn.del d v).cons (by rw [upd_same, hi b rfl]), h⟩

theorem yielded_of {n : Nat} {ops : Array Oper} {a : Act} {r : Regs} (ha : Rel n a r) {j s : Nat} (hs : gslot ops j = some s) (hlt : s < n) :
    yielded ops a.tmps j = match r s with | .bool b => some b | _ => none := by
  have h1 : a.tmps[s]? = some (r s) := by
    have h2 := ha.tmps s
    have h3 : s < a.tmps.size := by rw [ha.size]; exact hlt
    simp only [Array.getD_eq_getD_getElem?, h3, getElem?_pos, Option.getD_some] at h2
    simp [h3, h2]
  unfold yielded
  unfold gslot at hs
  rw [hs, Option.bind_some, h1]
  cases r s <;> rfl

theorem rGuard_elim {n : Nat} {ops : Array Oper} {g : Option (Nat × Bool)} {kn : Kn} {r : Regs} {yes no : Kn → Regs → Prop}
    (h : rGuard n ops g kn r yes no) {a : Act} (ha : Rel n a r) (hkn : KnOk kn r) {o : Oper} (ho : o.guard = g) :
    (Region.wanted o (yielded ops a.tmps) = true ∧ ∃ kn, KnOk kn r ∧ yes kn r) ∨
    (Region.wanted o (yielded ops a.tmps) = false ∧ ∃ kn, KnOk kn r ∧ no kn r) := by
  unfold rGuard at h
  split at h
  · exact .inl ⟨by simp [Region.wanted, ho], kn, hkn, h⟩
  · rename_i j want
    split at h
    · rename_i hs
      refine .inr ⟨?_, kn, hkn, h⟩
      unfold gslot at hs
      simp [Region.wanted, ho, yielded, hs]
    · rename_i s hs
      obtain ⟨hlt, h⟩ := onlyIf_elim h
      have hlt' : s < n := by rw [Nat.blt_eq] at hlt; exact hlt
      have hw : Region.wanted o (yielded ops a.tmps) = ((match r s with | .bool b => some b | _ => none) == some want) := by
        simp only [Region.wanted, ho, yielded_of ha hs hlt']
      rw [hw]
      split at h
      · rename_i b hb
        obtain ⟨_, h⟩ := onlyIf_elim h
        have hv := hkn s b hb
        rw [hv]
        by_cases hbw : b = want
        · subst hbw; exact .inl ⟨by simp, kn, hkn, by simpa using h⟩
        · exact .inr ⟨by simp [hbw], kn, hkn, by simpa [hbw] using h⟩
      · split at h
        · rename_i b hv
          simp only [hv]
          have hself : ∀ c : Bool, b = c → upd r s (.bool c) = r := fun c hc => upd_self (by rw [hv, hc])
          cases b with
          | true =>
            have h := h.1 rfl
            rw [hself true rfl] at h
            have hk : KnOk ((s, true) :: kn) r := hkn.cons hv
            cases want with
            | true => exact .inl ⟨rfl, _, hk, h⟩
            | false => exact .inr ⟨rfl, _, hk, h⟩
          | false =>
            have h := h.2 rfl
            rw [hself false rfl] at h
            have hk : KnOk ((s, false) :: kn) r := hkn.cons hv
            cases want with
            | true => exact .inr ⟨rfl, _, hk, h⟩
            | false => exact .inl ⟨rfl, _, hk, h⟩
        · rename_i vs hv
          simp only [hv]
          exact .inr ⟨rfl, kn, hkn, h⟩
        · exact h.elim

theorem rOps_sound {n : Nat} {ops : Array Oper} {Q : Exit → Act → World → Prop} {K : Kn → Regs → World → Prop}
    (hK : ∀ kn r w a, Rel n a r → KnOk kn r → K kn r w → Q .normal a w) (l : List Oper) :
    ∀ kn r w a, Rel n a r → KnOk kn r → rOps P n ops l kn r w K → wpList P ops Q l a w := by
  induction l with
  | nil => exact fun kn r w a ha hkn h => hK kn r w a ha hkn h
  | cons o rest ih =>
    intro kn r w a ha hkn h
    unfold wpList
    rcases rGuard_elim h ha hkn rfl with ⟨hw, kn, hkn, h⟩ | ⟨hw, kn, hkn, h⟩
    · rw [if_pos hw]
      refine .inl ?_
      unfold Oper.wp
      refine rOp_sound ha.eval hkn h fun info v w' hi hk => ?_
      obtain ⟨kn', r', ha', hkn', hk'⟩ := setDst_elim hk ha hkn hi
      exact ih kn' r' w' _ ha' hkn' hk'
    · rw [if_neg (by simp [hw])]
      obtain ⟨kn', r', ha', hkn', hk'⟩ := setDst_elim h ha hkn (infoOk_none _)
      exact ih kn' r' w _ ha' hkn' hk'

end Go.Sh
