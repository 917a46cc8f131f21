/- Code: the shallow reading of what has no loop, loops by a relation, calls. -/
import Derived.Test.YtnhjcjnjpciifaaDoorShCoreA
namespace Go.Sh
variable {P : Program}

def rwp (P : Program) (n : Nat) : Code → Kn → Regs → World → (Exit → Kn → Regs → World → Prop) → Prop
  | .skip, kn, r, w, Q => Q .normal kn r w
  | .region _ ops false, kn, r, w, Q => rOps P n ops ops.toList kn r w fun kn r w => Q .normal kn r w
  | .region _ ops true, kn, r, w, Q => onlyIf (Region.noSelect ops && P.follows .mixedOrders)
      (rAny P n ops ops.size (Array.replicate ops.size false) [] kn r w.drew fun kn r w => Q .normal kn r w)
  | .seq a b, kn, r, w, Q => rwp P n a kn r w fun e kn r w => (match e with
    | .normal => rwp P n b kn r w Q
    | .exit i => Q (.exit i) kn r w
    | .goto i => Q (.goto i) kn r w
    | .ret => Q .ret kn r w
    | .panic c => Q (.panic c) kn r w
    | .outgrown => Q .outgrown kn r w)
  | .cond c t f, kn, r, w, Q => (match knownOf kn c with
    | some true => rwp P n t kn r w Q
    | some false => rwp P n f kn r w Q
    | none => mBool (rho r c) fun b => Br b (rwp P n t kn r w Q) (rwp P n f kn r w Q))
  | .block id c, kn, r, w, Q => rwp P n c kn r w fun e kn r w => (match e with
    | .normal => Q .normal kn r w
    | .exit i => (match Nat.beq i id with | true => Q .normal kn r w | false => Q (.exit i) kn r w)
    | .goto i => Q (.goto i) kn r w
    | .ret => Q .ret kn r w
    | .panic c => Q (.panic c) kn r w
    | .outgrown => Q .outgrown kn r w)
  | .exit id, kn, r, w, Q => Q (.exit id) kn r w
  | .ret, kn, r, w, Q => Q .ret kn r w
  | _, _, _, _, _ => False

def Wp (P : Program) (n : Nat) (c : Code) (r : Regs) (w : World) (Q : Exit → Regs → World → Prop) : Prop :=
  ∀ a, Rel n a r → c.wp P (fun e a' w' => ∃ r', Rel n a' r' ∧ Q e r' w') a w

theorem rwp_sound {n : Nat} (c : Code) : ∀ (kn : Kn) (r : Regs) (w : World) (Q : Exit → Kn → Regs → World → Prop), rwp P n c kn r w Q →
    ∀ a, Rel n a r → KnOk kn r → c.wp P (fun e a' w' => ∃ kn' r', Rel n a' r' ∧ KnOk kn' r' ∧ Q e kn' r' w') a w := by
  induction c with
  | skip => exact fun kn r w Q h a ha hkn => wp_skip ⟨kn, r, ha, hkn, h⟩
  | region id ops draw =>
    intro kn r w Q h a ha hkn
    cases draw with
    | false =>
      refine wp_region_list ?_
      exact rOps_sound (Q := fun e a' w' => ∃ kn' r', Rel n a' r' ∧ KnOk kn' r' ∧ Q e kn' r' w') (fun kn r w a ha hkn h => ⟨kn, r, ha, hkn, h⟩) ops.toList kn r w a ha hkn h
    | true =>
      obtain ⟨hb, h⟩ := onlyIf_elim h
      simp only [Bool.and_eq_true] at hb
      refine wp_mono (Q := fun e a' w' => e = .normal ∧ ∃ kn' r', Rel n a' r' ∧ KnOk kn' r' ∧ Q e kn' r' w') ?_ (fun e a w h => h.2)
      refine wp_region_any hb.2 (wpAny_of_pend _ _ [] _ _ ?_)
      refine rAny_sound hb.1 (fun c a w h => by cases h.1) (fun kn r w a ha hkn h => ⟨rfl, kn, r, ha, hkn, h⟩) _ _ [] kn r _ a ha hkn ?_ (fun q hq => by cases hq) h
      intro i o hi
      by_cases hlt : i < ops.size <;> simp [hlt] at hi
  | seq a b iha ihb =>
    intro kn r w Q h s hs hkn
    refine wp_seq (wp_mono (iha _ _ _ _ h s hs hkn) ?_)
    rintro e a' w' ⟨kn', r', hr', hk', h'⟩
    cases e with
    | normal => exact ihb _ _ _ _ h' a' hr' hk'
    | _ => exact ⟨kn', r', hr', hk', h'⟩
  | cond c t f iht ihf =>
    intro kn r w Q h s hs hkn
    have hev : s.eval c = rho r c := by rw [hs.eval]
    simp only [rwp] at h
    split at h
    · rename_i hc
      exact wp_cond_true (by rw [hev]; exact knownOf_ok hkn c _ hc) (iht _ _ _ _ h s hs hkn)
    · rename_i hc
      exact wp_cond_false (by rw [hev]; exact knownOf_ok hkn c _ hc) (ihf _ _ _ _ h s hs hkn)
    · obtain ⟨b, hv, h⟩ := mBool_elim h
      exact wp_cond_split (by rw [hev]; exact hv) (fun hb => iht _ _ _ _ (h.1 hb) s hs hkn) (fun hb => ihf _ _ _ _ (h.2 hb) s hs hkn)
  | block id c ih =>
    intro kn r w Q h s hs hkn
    refine wp_block (wp_mono (ih _ _ _ _ h s hs hkn) ?_)
    rintro e a' w' ⟨kn', r', hr', hk', h'⟩
    cases e with
    | exit i =>
      simp only [Exit.inBlock]
      by_cases hid : i = id
      · subst hid
        rw [if_pos rfl]
        simp only [Nat.beq_refl] at h'
        exact ⟨kn', r', hr', hk', h'⟩
      · rw [if_neg hid]
        have : Nat.beq i id = false := by rw [Bool.eq_false_iff]; exact fun hc => hid (Nat.eq_of_beq_eq_true hc)
        simp only [this] at h'
        exact ⟨kn', r', hr', hk', h'⟩
    | _ => exact ⟨kn', r', hr', hk', h'⟩
  | exit id => exact fun kn r w Q h a ha hkn => wp_exit ⟨kn, r, ha, hkn, h⟩
  | ret => exact fun kn r w Q h a ha hkn => wp_ret ⟨kn, r, ha, hkn, h⟩
  | _ => intro kn r w Q h; exact h.elim

section
variable {n : Nat} {r : Regs} {w : World} {Q : Exit → Regs → World → Prop}
theorem Wp_mono {c : Code} {Q' : Exit → Regs → World → Prop} (h : Wp P n c r w Q) (hq : ∀ e r w, Q e r w → Q' e r w) : Wp P n c r w Q' :=
  fun a ha => wp_mono (h a ha) fun _ _ _ ⟨r', hr', h'⟩ => ⟨r', hr', hq _ _ _ h'⟩
theorem Wp_leaf {c : Code} {Q0 : Exit → Kn → Regs → World → Prop} {p : Prop} (h : p) (he : p = rwp P n c [] r w Q0)
    (hq : ∀ e kn r w, Q0 e kn r w → Q e r w) : Wp P n c r w Q := by
  subst he
  exact fun a ha => wp_mono (rwp_sound c _ _ _ _ h a ha (fun i b hb => by cases hb)) fun _ _ _ ⟨_, r', hr', _, h'⟩ => ⟨r', hr', hq _ _ _ _ h'⟩
def thenQ (next : Regs → World → Prop) (Q : Exit → Regs → World → Prop) : Exit → Regs → World → Prop
  | .normal, r, w => next r w
  | e, r, w => Q e r w
theorem Wp_seq {a b : Code} (h : Wp P n a r w (thenQ (fun r w => Wp P n b r w Q) Q)) : Wp P n (.seq a b) r w Q := by
  intro s hs
  refine wp_seq (wp_mono (h s hs) ?_)
  rintro e a' w' ⟨r', hr', h'⟩
  cases e with
  | normal => exact h' a' hr'
  | _ => exact ⟨r', hr', h'⟩
def blockQ (id : Nat) (Q : Exit → Regs → World → Prop) : Exit → Regs → World → Prop
  | .exit i, r, w => if i = id then Q .normal r w else Q (.exit i) r w
  | e, r, w => Q e r w
theorem Wp_block {id : Nat} {c : Code} (h : Wp P n c r w (blockQ id Q)) : Wp P n (.block id c) r w Q := by
  intro s hs
  refine wp_block (wp_mono (h s hs) ?_)
  rintro e a' w' ⟨r', hr', h'⟩
  cases e with
  | exit i =>
    simp only [Exit.inBlock, blockQ] at h' ⊢
    split
    · rename_i hi; rw [if_pos hi] at h'; exact ⟨r', hr', h'⟩
    · rename_i hi; rw [if_neg hi] at h'; exact ⟨r', hr', h'⟩
  | _ => exact ⟨r', hr', h'⟩
theorem Wp_cond {c : Operand} {t f : Code} {b : Bool} (hb : rho r c = .bool b) (ht : b = true → Wp P n t r w Q) (hf : b = false → Wp P n f r w Q) :
    Wp P n (.cond c t f) r w Q := by
  intro s hs
  exact wp_cond_split (by rw [hs.eval]; exact hb) (fun h => ht h s hs) (fun h => hf h s hs)
end

/- A place in the code at which some registers are known by their kind. -/
def regsOf (L : List (Nat × Value)) (r : Regs) : Regs :=
  match L with
  | [] => r
  | (i, v) :: t => upd (regsOf t r) i v
theorem regsOf_self {L : List (Nat × Value)} {r : Regs} (h : ∀ x ∈ L, r x.1 = x.2) : regsOf L r = r := by
  induction L with
  | nil => rfl
  | cons x t ih =>
    obtain ⟨i, v⟩ := x
    simp only [regsOf, ih fun y hy => h y (List.mem_cons_of_mem _ hy)]
    exact upd_self (h (i, v) List.mem_cons_self)
structure Point (σ : Type) where
  slots : σ → List (Nat × Value)
  dec : Regs → (σ → Prop) → Prop
def Point.ok {σ : Type} (p : Point σ) : Prop := ∀ r K, p.dec r K → ∃ s, regsOf (p.slots s) r = r ∧ K s

/-- A loop: some relation holds at each round's head, and its number falls. -/
def LoopS {σ : Type} (body : σ → World → (σ → World → Prop) → Prop) (s : σ) (w : World) : Prop :=
  ∃ I : Nat → σ → World → Prop, (∃ k, I k s w) ∧ ∀ k s w, I k s w → body s w fun s' w' => ∃ k', k' < k ∧ I k' s' w'

theorem least_ex {p : Nat → Prop} (h : ∃ k, p k) : ∃ k, p k ∧ ∀ j, p j → k ≤ j := by
  obtain ⟨k, hk⟩ := h
  induction k using Nat.strongRecOn with
  | _ k ih =>
    by_cases hx : ∃ j, p j ∧ j < k
    · obtain ⟨j, hj, hlt⟩ := hx
      exact ih j hlt hj
    · exact ⟨k, hk, fun j hj => by
        rcases Nat.lt_or_ge j k with hlt | hge
        · exact absurd ⟨j, hj, hlt⟩ hx
        · exact hge⟩
noncomputable def least {p : Nat → Prop} (h : ∃ k, p k) : Nat := (least_ex h).choose
theorem least_spec {p : Nat → Prop} (h : ∃ k, p k) : p (least h) := (least_ex h).choose_spec.1
theorem least_le {p : Nat → Prop} (h : ∃ k, p k) {j : Nat} (hj : p j) : least h ≤ j := (least_ex h).choose_spec.2 j hj

theorem Wp_loop {σ : Type} {p : Point σ} (hp : p.ok) {n : Nat} {c : Code} {Q : Exit → Regs → World → Prop} {body : σ → World → (σ → World → Prop) → Prop}
    (hbody : ∀ s r w K, body s w K → Wp P n c (regsOf (p.slots s) r) w (thenQ (fun r w => p.dec r fun s => K s w) Q))
    {s : σ} {r : Regs} {w : World} (h : LoopS body s w) : Wp P n (.loop c) (regsOf (p.slots s) r) w Q := by
  obtain ⟨I, ⟨k, hk⟩, hI⟩ := h
  intro a ha
  classical
  let J : Act → World → Nat → Prop := fun a w k => ∃ s r, Rel n a (regsOf (p.slots s) r) ∧ I k s w
  refine wp_loop (fun a w => ∃ k, J a w k) (fun a w => if h : ∃ k, J a w k then least h else 0) ⟨k, s, r, ha, hk⟩ ?_
  intro a w hJ
  rw [dif_pos hJ]
  obtain ⟨s, r, hr, hs⟩ := least_spec hJ
  refine wp_mono (hbody s r w _ (hI _ s w hs) a hr) ?_
  rintro e a' w' ⟨r', hr', h'⟩
  cases e with
  | normal =>
    obtain ⟨s', hs', k', hlt, hI'⟩ := hp _ _ h'
    have hJ' : J a' w' k' := ⟨s', r', by rw [hs']; exact hr', hI'⟩
    refine ⟨⟨k', hJ'⟩, ?_⟩
    rw [dif_pos ⟨k', hJ'⟩]
    exact Nat.lt_of_le_of_lt (least_le _ hJ') hlt
  | _ => exact ⟨r', hr', h'⟩

/- What a function tells. -/
def rRes (P : Program) : List ResultVar → Regs → World → (List Value → Prop) → Prop
  | [], _, _, K => K []
  | .tmp t :: rest, r, w, K => rRes P rest r w fun vs => K (r t :: vs)
  | .cell a t :: rest, r, w, K => (match r a with
    | .pointer (some ad) => ldVar P t ad w fun v => rRes P rest r w fun vs => K (v :: vs)
    | _ => False)
def retV : List Value → Value
  | [v] => v
  | vs => .tuple vs.toArray
def retQ (P : Program) (res : Array ResultVar) (R : Value → World → Prop) : Exit → Kn → Regs → World → Prop
  | .normal, _, r, w => rRes P res.toList r w fun vs => R (retV vs) w
  | .ret, _, r, w => rRes P res.toList r w fun vs => R (retV vs) w
  | _, _, _, _ => False

def resSem (tmps : Array Value) (x : ResultVar) : Sem Value :=
  match x with
  | .tmp t => pure (tmps.getD t undef)
  | .cell a t => do loadVar t (← asAddr (tmps.getD a undef))
theorem results_eq (fn : Func) (tmps : Array Value) :
    results fn tmps = (do let vs ← fn.results.mapM (resSem tmps); pure (if h : vs.size = 1 then vs[0] else .tuple vs)) := rfl
theorem rRes_elim {l : List ResultVar} {n : Nat} {a : Act} {r : Regs} (ha : Rel n a r) {w : World} : ∀ {K : List Value → Prop}, rRes P l r w K →
    ∃ vs : List Value, vs.length = l.length ∧ (l.mapM (resSem a.tmps)).run P w = .ok vs w ∧ K vs := by
  induction l with
  | nil => intro K h; exact ⟨[], rfl, rfl, h⟩
  | cons x rest ih =>
    intro K h
    cases x with
    | tmp t =>
      obtain ⟨vs, hl, hr, hk⟩ := ih h
      refine ⟨r t :: vs, by simp [hl], ?_, hk⟩
      have ht := ha.tmps t
      rw [List.mapM_cons]
      simp only [resSem, ht, Sem.run_bind, Sem.run_pure, Result.andThen_ok, hr]
    | cell ad t =>
      simp only [rRes] at h
      split at h
      · rename_i p hv
        obtain ⟨v, hrun, h⟩ := ldVar_elim h
        obtain ⟨vs, hl, hr, hk⟩ := ih h
        refine ⟨v :: vs, by simp [hl], ?_, hk⟩
        have ht := ha.tmps ad
        rw [hv] at ht
        have h2 : (loadVar t p).run P w = .ok v w := by simpa [Instr.loadAt, Instr.sureAddr] using hrun
        rw [List.mapM_cons]
        simp only [resSem, ht, asAddr, Sem.run_bind, Sem.run_pure, Result.andThen_ok, h2, hr]
      · exact h.elim
theorem results_run {fn : Func} {n : Nat} {a : Act} {r : Regs} (ha : Rel n a r) {w : World} {K : List Value → Prop} (h : rRes P fn.results.toList r w K) :
    ∃ vs : List Value, (results fn a.tmps).run P w = .ok (retV vs) w ∧ K vs := by
  obtain ⟨vs, hl, hr, hk⟩ := rRes_elim ha h
  refine ⟨vs, ?_, hk⟩
  rw [results_eq]
  rw [← Array.toArray_toList (xs := fn.results), List.mapM_toArray]
  simp only [Sem.run_bind, Sem.run_map, hr, Result.andThen_ok, Sem.run_pure]
  congr 1
  match vs with
  | [] => rfl
  | [v] => rfl
  | v :: u :: t => simp [retV]

theorem CallR_intro {f : FuncId} {fn : Func} {c : Code} {args : List Value} {w : World} {R : Value → World → Prop} (hf : P.funcs[f]? = some fn) (hb : fn.body = some c)
    (hn : args.length ≤ fn.ntmps)
    (h : Wp P fn.ntmps c (regs0 args) w fun e r w => retQ P fn.results R e [] r w) : CallR P f args.toArray w R := by
  refine calls_of_wp hf hb (wp_mono (h _ ?_) ?_)
  · refine ⟨rfl, by simp; omega, fun i => ?_⟩
    simp only [regs0, Array.getD_eq_getD_getElem?, List.getD_eq_getElem?_getD]
    by_cases hi : i < args.length
    · rw [Array.getElem?_append_left (by simpa using hi)]; simp
    · rw [Array.getElem?_append_right (by simpa using hi)]
      have h1 : args[i]? = none := by simpa using hi
      rw [h1]
      simp only [Array.getElem?_replicate]
      split <;> rfl
  · rintro e a' w' ⟨r', hr', h'⟩
    cases e with
    | normal => obtain ⟨vs, hrun, hk⟩ := results_run hr' h'; exact ⟨hr'.defers, _, hrun, hk⟩
    | ret => obtain ⟨vs, hrun, hk⟩ := results_run hr' h'; exact ⟨hr'.defers, _, hrun, hk⟩
    | _ => exact h'.elim
theorem CallR_mono {f : FuncId} {args : Array Value} {w : World} {R R' : Value → World → Prop} (h : CallR P f args w R) (hr : ∀ v w', R v w' → R' v w') : CallR P f args w R' :=
  Calls.mono h fun e w' he => by cases e <;> first | exact hr _ _ he | exact he

theorem mCons_elim {l : List Value} {K : Value → List Value → Prop} (h : mCons l K) : ∃ x t, l = x :: t ∧ K x t := by
  cases l with
  | nil => exact h.elim
  | cons x t => exact ⟨x, t, rfl, h⟩
theorem mNil_elim {l : List Value} {K : Prop} (h : mNil l K) : l = [] ∧ K := by
  cases l with
  | nil => exact ⟨rfl, h⟩
  | cons x t => exact h.elim
theorem mPA_elim {v : Value} {K : Addr → Prop} (h : mPA v K) : ∃ a, v = .pointer (some a) ∧ K a := by
  cases v <;> first
    | exact h.elim
    | (rename_i p; cases p with
      | none => exact h.elim
      | some a => exact ⟨a, rfl, h⟩)
/- How the proof of a function's reading is put together. -/
def exitQ (i j : Nat) (A B : Prop) : Prop := match Nat.beq i j with | true => A | false => B
theorem exitQ_elim {i j : Nat} {A B : Prop} (h : exitQ i j A B) : (i = j ∧ A) ∨ (i ≠ j ∧ B) := by
  by_cases hij : i = j
  · subst hij
    unfold exitQ at h
    rw [Nat.beq_refl] at h
    exact .inl ⟨rfl, h⟩
  · have : Nat.beq i j = false := by rw [Bool.eq_false_iff]; exact fun hc => hij (Nat.eq_of_beq_eq_true hc)
    unfold exitQ at h
    rw [this] at h
    exact .inr ⟨hij, h⟩
section
variable {n : Nat} {r : Regs} {w : World} {Q : Exit → Regs → World → Prop} {σ : Type}
theorem Wp_seq_via (p : Point σ) (T : σ → World → Prop) {a b : Code} (hb : ∀ s r w, T s w → Wp P n b (regsOf (p.slots s) r) w Q)
    (ha : (∀ s r w, T s w → thenQ (fun r w => Wp P n b r w Q) Q .normal (regsOf (p.slots s) r) w) → Wp P n a r w (thenQ (fun r w => Wp P n b r w Q) Q)) :
    Wp P n (.seq a b) r w Q := Wp_seq (ha hb)
theorem Wp_block_via (p : Point σ) (T : σ → World → Prop) {id : Nat} {c : Code} (hN : ∀ s r w, T s w → Q .normal (regsOf (p.slots s) r) w)
    (h : (∀ s r w, T s w → blockQ id Q (.exit id) (regsOf (p.slots s) r) w) → Wp P n c r w (blockQ id Q)) : Wp P n (.block id c) r w Q :=
  Wp_block (h fun s r w ht => by
    show (if id = id then _ else _)
    rw [if_pos rfl]
    exact hN s r w ht)
theorem blockQ_other {id j : Nat} (hj : j ≠ id) (h : Q (.exit j) r w) : blockQ id Q (.exit j) r w := by
  show (if j = id then _ else _)
  rw [if_neg hj]
  exact h
def glue : List Code → Code → Code
  | [], c => c
  | x :: t, c => .seq x (glue t c)
def rwpL (P : Program) (n : Nat) : List Code → Kn → Regs → World → (Exit → Kn → Regs → World → Prop) → Prop
  | [], kn, r, w, Q => Q .normal kn r w
  | x :: t, kn, r, w, Q => rwp P n x kn r w fun e kn r w => (match e with
    | .normal => rwpL P n t kn r w Q
    | .exit i => Q (.exit i) kn r w
    | .goto i => Q (.goto i) kn r w
    | .ret => Q .ret kn r w
    | .panic c => Q (.panic c) kn r w
    | .outgrown => Q .outgrown kn r w)
theorem rwpL_sound {rest : Code} (l : List Code) : ∀ (kn : Kn) (r : Regs) (w : World) (Q0 : Exit → Kn → Regs → World → Prop),
    rwpL P n l kn r w Q0 → (∀ kn r w, Q0 .normal kn r w → Wp P n rest r w Q) → (∀ e kn r w, e ≠ .normal → Q0 e kn r w → Q e r w) → KnOk kn r → Wp P n (glue l rest) r w Q := by
  induction l with
  | nil => exact fun kn r w Q0 h hn _ _ => hn kn r w h
  | cons x t ih =>
    intro kn r w Q0 h hn he hkn a ha
    refine wp_seq (wp_mono (rwp_sound x _ _ _ _ h a ha hkn) ?_)
    rintro e a' w' ⟨kn', r', hr', hk', h'⟩
    cases e with
    | normal => exact ih _ _ _ _ h' hn he hk' a' hr'
    | _ => exact ⟨r', hr', he _ _ _ _ (fun hc => by cases hc) h'⟩
theorem Wp_glue (p : Point σ) (T : σ → World → Prop) (l : List Code) {rest : Code} {Q0 : Exit → Kn → Regs → World → Prop} {q : Prop} (h : q) (he : q = rwpL P n l [] r w Q0)
    (hb : ∀ s r w, T s w → Wp P n rest (regsOf (p.slots s) r) w Q) (hp : p.ok)
    (hn : ∀ kn r w, Q0 .normal kn r w → p.dec r fun s => T s w) (hq : ∀ e kn r w, e ≠ .normal → Q0 e kn r w → Q e r w) : Wp P n (glue l rest) r w Q := by
  subst he
  refine rwpL_sound l _ _ _ _ h (fun kn r w h => ?_) hq (fun i b hb => by cases hb)
  obtain ⟨s, hs, ht⟩ := hp _ _ (hn kn r w h)
  rw [← hs]
  exact hb s r w ht
theorem Wp_leaf_end {c : Code} {Q0 : Exit → Kn → Regs → World → Prop} {q : Prop} (h : q) (he : q = rwp P n c [] r w Q0)
    (hq : ∀ e kn r w, Q0 e kn r w → Q e r w) : Wp P n c r w Q := Wp_leaf h he hq
end

end Go.Sh
