/- The shallow reading is sound: any one operation. -/
import Derived.Test.YtnhjcjnjpciifaaDoorShCore4
namespace Go.Sh
variable {P : Program}

theorem callFunc_run {f : FuncId} (h : callable P f = true) (args : Array Value) (w : World) :
    (callFunc f args).run P w = .ok (.enter f args) w := by
  unfold callable at h
  split at h
  · rename_i fn hf
    simp only [Bool.and_eq_true, Bool.not_eq_true'] at h
    obtain ⟨h1, h2⟩ := h
    have h3 : fn.body.isNone = false := by cases hb : fn.body <;> simp_all
    simp only [callFunc, Sem.run_bind, run_program, Result.andThen_ok, hf, h1, h3, Bool.false_eq_true, if_false, Sem.run_pure]
  · cases h

section
variable {o : Oper} {a : Act} {w : World} {next : Act → World → Prop} {Q : Exit → Act → World → Prop} {K : Option Bool → Value → World → Prop}

theorem val_upon {s : Sem Value} {T : Value → (Value → Prop) → Prop} (hT : ∀ {v : Value} {K : Value → Prop}, T v K → K v)
    (h : rRun P s w fun v w' => T v fun v => K none v w') (hK : ∀ info v w', InfoOk info v → K info v w' → next (a.put o.dst v) w') :
    o.upon P a next Q ((do pure (.value (← s)) : Sem Next).run P w) := by
  obtain ⟨v, w', hr, hk⟩ := rRun_elim h
  simp only [Sem.run_bind, hr, Result.andThen_ok, Sem.run_pure, Oper.upon_value]
  exact hK none v w' (infoOk_none v) (hT (K := fun v => K none v w') hk)
theorem unit_upon {s : Sem Unit} (h : rRun P s w fun _ w' => K none undef w') (hK : ∀ info v w', InfoOk info v → K info v w' → next (a.put o.dst v) w') :
    o.upon P a next Q ((do s; pure .skip : Sem Next).run P w) := by
  obtain ⟨v, w', hr, hk⟩ := rRun_elim h
  simp only [Sem.run_bind, hr, Result.andThen_ok, Sem.run_pure, Oper.upon_skip]
  exact hK none undef w' (infoOk_none _) hk
theorem calls_upon {f : FuncId} {args : Array Value} {t : TypeId} (h : CallR P f args w fun v w' => tyR P t v fun v => K none v w')
    (hK : ∀ info v w', InfoOk info v → K info v w' → next (a.put o.dst v) w') :
    o.upon P a next Q (.ok (.enter f args) w) := by
  rw [Oper.upon_enter]
  refine Calls.mono h fun e w' he => ?_
  cases e with
  | returned v => exact hK none v w' (infoOk_none v) (tyR_elim (K := fun v => K none v w') he)
  | panicked c => exact he.elim
  | outgrown => exact he.elim
end

theorem arr_run {t : TypeId} {n sz : Nat} (h : arrSize P t = some (n, sz)) {a : Addr} {k : IntKind} {i : Int} (h0 : 0 ≤ i) (h1 : i < (n : Int)) (w : World) :
    (Instr.indexAt t (.pointer (some a)) (.int k i)).run P w = .ok (.pointer (some (a.add (i.toNat * sz)))) w := by
  unfold arrSize at h
  split at h
  · rename_i m e he
    simp only [Option.map_eq_some_iff, Prod.mk.injEq] at h
    obtain ⟨inf, hi, rfl, rfl⟩ := h
    have hs : (sizeOf e).run P w = .ok inf.size w := run_sizeOf' (by simp [hi]) w
    simp [Instr.indexAt, asIntOf, Instr.sureAddr, run_underlying' he, hs, h0, h1]
  · cases h
theorem slice_run {t : TypeId} {sz : Nat} (h : elemSize P t = some sz) {a : Addr} {len cap : Nat} {k : IntKind} {i : Int} (h0 : 0 ≤ i) (h1 : i < (len : Int)) (w : World) :
    (Instr.indexAt t (.slice (some a) len cap) (.int k i)).run P w = .ok (.pointer (some (a.add (i.toNat * sz)))) w := by
  unfold elemSize at h
  split at h
  · rename_i e he
    have hs : (sizeOf e).run P w = .ok sz w := run_sizeOf' h w
    simp [Instr.indexAt, asIntOf, run_underlying' he, hs, h0, h1]
  · cases h

theorem field_run {t : TypeId} {f off : Nat} (h : fieldOff P t f = some off) {a : Addr} (w : World) :
    (Instr.fieldAt t (.pointer (some a)) f).run P w = .ok (.pointer (some (a.add off))) w := by
  unfold fieldOff at h
  split at h
  · rename_i fs he
    split at h
    · rename_i fd hfd
      split at h
      · rename_i n hn
        cases h
        have hs : (sizeOf fd.type).run P w = .ok (n + 1) w := run_sizeOf' hn w
        simp [Instr.fieldAt, run_underlying' he, hfd, Instr.sureAddr, fieldPlace, hs]
      · cases h
    · cases h
  · cases h

set_option maxHeartbeats 1000000 in
theorem rOp_sound {o : Oper} {a : Act} {kn : Kn} {r : Regs} {w : World} {next : Act → World → Prop} {Q : Exit → Act → World → Prop}
    {K : Option Bool → Value → World → Prop} (ha : a.eval = rho r) (hkn : KnOk kn r) (h : rOp P o kn r w K)
    (hK : ∀ info v w', InfoOk info v → K info v w' → next (a.put o.dst v) w') : o.upon P a next Q ((execOp a.eval o).run P w) := by
  rw [ha]
  unfold rOp at h
  split at h
  · rename_i x hop
    simp only [execOp, hop, Sem.run_pure, Oper.upon_value]
    exact hK _ _ _ (knownOf_ok hkn x) h
  · rename_i x hop
    simp only [execOp, hop, Sem.run_pure, Oper.upon_value]
    exact hK _ _ _ (knownOf_ok hkn x) h
  · rename_i c x y hop
    split at h
    · rename_i hc
      obtain ⟨hb, h⟩ := onlyIf_elim h
      have hv := knownOf_ok hkn c _ hc
      simp only [execOp, hop, hv, asBool, Sem.run_bind, Sem.run_pure, Result.andThen_ok, if_true, Oper.upon_value]
      exact hK _ _ _ (knownOf_ok hkn x) h
    · rename_i hc
      obtain ⟨hb, h⟩ := onlyIf_elim h
      have hv := knownOf_ok hkn c _ hc
      simp only [execOp, hop, hv, asBool, Sem.run_bind, Sem.run_pure, Result.andThen_ok, Bool.false_eq_true, if_false, Oper.upon_value]
      exact hK _ _ _ (knownOf_ok hkn y) h
    · obtain ⟨b, hv, h⟩ := mBool_elim h
      cases b with
      | true =>
        simp only [execOp, hop, hv, asBool, Sem.run_bind, Sem.run_pure, Result.andThen_ok, if_true, Oper.upon_value]
        exact hK _ _ _ (knownOf_ok hkn x) (h.1 rfl)
      | false =>
        simp only [execOp, hop, hv, asBool, Sem.run_bind, Sem.run_pure, Result.andThen_ok, Bool.false_eq_true, if_false, Oper.upon_value]
        exact hK _ _ _ (knownOf_ok hkn y) (h.2 rfl)
  · rename_i t x hop
    split at h
    · rename_i ad hv
      obtain ⟨v, hr, hk⟩ := ldVar_elim h
      simp only [execOp, hop, hv, Sem.run_bind, hr, Result.andThen_ok, Sem.run_pure, Oper.upon_value]
      exact hK _ _ _ (infoOk_none v) hk
    · exact h.elim
  · rename_i t x y hop
    split at h
    · rename_i ad hv
      obtain ⟨w', hr, hk⟩ := stVar_elim h
      simp only [execOp, hop, hv, Sem.run_bind, hr, Result.andThen_ok, Sem.run_pure, Oper.upon_skip]
      exact hK _ _ _ (infoOk_none _) hk
    · exact h.elim
  · rename_i x hop
    split at h
    · rename_i p hv
      obtain ⟨ad, rfl, hk⟩ := NN_elim h
      simp only [execOp, hop, hv, Sem.run_pure, Oper.upon_value]
      exact hK _ _ _ (infoOk_none _) hk
    · rename_i g f1 f2 hv
      simp only [execOp, hop, hv, Sem.run_pure, Oper.upon_value]
      exact hK _ _ _ (infoOk_none _) h
    · exact h.elim
  · rename_i t x ix hop
    split at h
    · rename_i base len cap k i hx hi
      split at h
      · rename_i sz hs
        obtain ⟨ad, rfl, h0, h1, hk⟩ := h
        simp only [execOp, hop, hx, hi, Sem.run_bind, slice_run hs h0 h1, Result.andThen_ok, Sem.run_pure, Oper.upon_value]
        exact hK _ _ _ (infoOk_none _) hk
      · exact h.elim
    · rename_i ad k i hx hi
      split at h
      · rename_i n sz hs
        obtain ⟨⟨h0, h1⟩, hk⟩ := h
        simp only [execOp, hop, hx, hi, Sem.run_bind, arr_run hs h0 h1, Result.andThen_ok, Sem.run_pure, Oper.upon_value]
        exact hK _ _ _ (infoOk_none _) hk
      · exact h.elim
    · exact h.elim
  · rename_i t x ix hop
    split at h
    · rename_i s k i hx hi
      obtain ⟨ht, c, h0, hc, hk⟩ := onlyIf_elim h
      split at ht
      · rename_i he
        simp only [execOp, hop, hx, hi, Instr.index, asIntOf, Sem.run_bind, Sem.run_pure, Result.andThen_ok, run_underlying' he, if_pos h0, hc, Oper.upon_value]
        exact hK _ _ _ (infoOk_none _) hk
      · cases ht
    · simp only [execOp, hop]
      exact val_upon tyV_elim h hK
  · rename_i op t x y _ hop
    obtain ⟨v, w', hr, hk⟩ := rBin_elim h
    simp only [execOp, hop]
    simp only [Sem.run_bind] at hr ⊢
    rw [hr]
    simp only [Result.andThen_ok, Sem.run_pure, Oper.upon_value]
    exact hK _ _ _ (infoOk_none v) hk
  · rename_i x i hop
    obtain ⟨cs, hv, h⟩ := mTup_elim h
    obtain ⟨v, hn, hk⟩ := mNth_elim h
    simp only [execOp, hop, hv, Instr.extract, List.getElem?_toArray, hn, Sem.run_bind, Sem.run_pure, Result.andThen_ok, Oper.upon_value]
    exact hK _ _ _ (infoOk_none v) (tyV_elim (K := fun v => K none v w) hk)
  · rename_i f args ats hop
    unfold CallV at h
    split at h
    · rename_i g first captured hv
      obtain ⟨hc, h⟩ := onlyIf_elim h
      simp only [execOp, hop, resolve, hv, Deferred.ofValue, Sem.run_bind, Sem.run_pure, Result.andThen_ok, invoke, callFunc_run hc]
      have hargs : first ++ Array.map (rho r) args ++ captured = (first.toList ++ List.map (rho r) args.toList ++ captured.toList).toArray := by
        apply Array.ext'; simp
      rw [hargs]
      exact calls_upon h hK
    · exact h.elim
  · rename_i x name args ats hop
    obtain ⟨f, v, hc, hne, hm, h⟩ := h
    split at hm
    · rename_i t y hv
      have he : (#[Value.iface t y] ++ Array.map (rho r) args).extract 1 (#[Value.iface t y] ++ Array.map (rho r) args).size = Array.map (rho r) args := by
        apply Array.ext'; simp [List.take_of_length_le]
      have hargs : #[v] ++ Array.map (rho r) args = (v :: List.map (rho r) args.toList).toArray := by
        simp
      have h0 : (#[Value.iface t y] ++ Array.map (rho r) args)[0]? = some (Value.iface t y) := by
        rw [Array.getElem?_append_left (by simp)]; rfl
      simp only [execOp, hop, resolve, hv, Sem.run_bind, Sem.run_pure, Result.andThen_ok, invoke, h0, he, callMethod, run_program, hm]
      rw [hargs]
      simp only [callFunc_run hc]
      exact calls_upon h hK
    · exact hm.elim
  · rename_i b args ats hop
    have hargs : (List.map (rho r) args.toList).toArray = Array.map (rho r) args := by apply Array.ext'; simp
    rw [hargs] at h
    simp only [execOp, hop, resolve, Sem.run_bind, Sem.run_pure, Result.andThen_ok, invoke]
    unfold builtin
    cases b <;> first
      | exact val_upon tyR_elim h hK
      | (simp [bSem, rRun] at h; done)
  · rename_i t m k x hop
    have := unit_upon (a := a) (Q := Q) h hK
    simpa only [execOp, hop, opUnit] using this
  · rename_i t m k x hop
    have := unit_upon (a := a) (Q := Q) h hK
    simpa only [execOp, hop, opUnit] using this
  · rename_i t m k x hop
    have := unit_upon (a := a) (Q := Q) h hK
    simpa only [execOp, hop, opUnit] using this
  · rename_i t x f hop
    split at h
    · rename_i ad off hx hf
      simp only [execOp, hop, hx, Sem.run_bind, field_run hf, Result.andThen_ok, Sem.run_pure, Oper.upon_value]
      exact hK _ _ _ (infoOk_none _) h
    · exact h.elim
  · rename_i s x hop
    have := val_upon (a := a) (Q := Q) (T := fun v K => K v) (fun h => h) h hK
    simpa only [execOp, hop, opSem] using this
  · rename_i s hop
    have := val_upon (a := a) (Q := Q) (T := fun v K => K v) (fun h => h) h hK
    simpa only [execOp, hop, opSem] using this
  · rename_i s x hop
    have := val_upon (a := a) (Q := Q) (T := fun v K => K v) (fun h => h) h hK
    simpa only [execOp, hop, opSem] using this
  · rename_i s x f hop
    have := val_upon (a := a) (Q := Q) (T := fun v K => K v) (fun h => h) h hK
    simpa only [execOp, hop, opSem] using this
  · rename_i s hop
    have := val_upon (a := a) (Q := Q) (T := fun v K => K v) (fun h => h) h hK
    simpa only [execOp, hop, opSem] using this
  · rename_i s x hop
    have := val_upon (a := a) (Q := Q) (T := fun v K => K v) (fun h => h) h hK
    simpa only [execOp, hop, opSem] using this
  · have := val_upon (a := a) (Q := Q) tyR_elim h hK
    clear hK
    obtain ⟨dst, op, type, pos, after, guard⟩ := o
    cases op <;> first
      | exact this
      | (simp [opSem, rRun] at h; done)
      | (exfalso; simp_all; done)

end Go.Sh
