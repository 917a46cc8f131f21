/- A region that draws its order, whole; code without loops; calls. -/
import Derived.Test.YtnhjcjnjpciifaaDoorShCore9
namespace Go.Sh
variable {P : Program}

theorem wp_take_free {ops : Array Oper} {listed : Array Bool} {i : Nat} {oi : Oper} (hi : ops[i]? = some oi) (hf : Region.free .any ops listed i = true) :
    ∀ j oj, ops[j]? = some oj → j ≠ i → listed.getD j true = false → (∀ e ∈ oj.after, Region.binds .any e = true → e.on ≠ i) → oi.apart ops oj = true :=
  Region.free_spec hi hf

theorem rOp_load {o : Oper} {kn : Kn} {r : Regs} {w : World} {K : Option Bool → Value → World → Prop} {t : TypeId} {x : Operand} (hop : o.op = .load t x)
    (h : rOp P o kn r w K) : ∃ v, (execOp (rho r) o).run P w = .ok (.value v) w ∧ K none v w := by
  unfold rOp at h
  rw [hop] at h
  simp only at h
  split at h
  · rename_i ad hv
    obtain ⟨v, hr, hk⟩ := ldVar_elim h
    exact ⟨v, by simp only [execOp, hop, hv, Sem.run_bind, hr, Result.andThen_ok, Sem.run_pure], hk⟩
  · exact h.elim

theorem rAny_sound {n : Nat} {ops : Array Oper} {Q : Exit → Act → World → Prop} {K : Kn → Regs → World → Prop} (hs : Region.noSelect ops = true)
    (hQ : ∀ c a w, ¬ Q (.panic c) a w) (hK : ∀ kn r w a, Rel n a r → KnOk kn r → K kn r w → Q .normal a w) :
    ∀ (fuel : Nat) (listed : Array Bool) (pend : List (Nat × Value)) (kn : Kn) (r : Regs) (w : World) (a : Act), Rel n a r → KnOk kn r → Closed ops listed →
      (∀ q ∈ pend, YP P ops q.1 q.2 a w ∧ ∃ o, ops[q.1]? = some o ∧ valOp o = true) →
      rAny P n ops fuel listed pend kn r w K → wpAnyP P ops Q fuel listed pend a w := by
  intro fuel
  induction fuel with
  | zero =>
    intro listed pend kn r w a ha hkn hc hp h
    unfold rAny at h
    split at h
    · rename_i he; exact ⟨he, hK kn r w a ha hkn h⟩
    · exact h.elim
  | succ fuel ih =>
    intro listed pend kn r w a ha hkn hc hp h
    unfold rAny at h
    split at h
    · rename_i he
      exact ⟨fun _ => hK kn r w a ha hkn h, by rw [he]; intro i hi; cases hi⟩
    · rename_i i0 rs he
      split at h
      · -- taken first
        rename_i i hfq
        obtain ⟨hmem, hsel⟩ := firstQ_elim hfq
        rw [← he] at hmem
        split at h
        · exact h.elim
        · rename_i o ho
          unfold selectable at hsel
          simp only [ho, Bool.and_eq_true] at hsel
          obtain ⟨⟨⟨_, hfree⟩, hself⟩, hpall⟩ := hsel
          have hblind : ∀ q ∈ pend, blind ops o.dst q.1 = true := fun q hq => List.all_eq_true.1 hpall q hq
          have hp' : ∀ q ∈ pend, YP P ops q.1 q.2 a w ∧ blind ops o.dst q.1 = true := fun q hq => ⟨(hp q hq).1, hblind q hq⟩
          have hput : ∀ v, ∀ q ∈ pend, YP P ops q.1 q.2 (a.put o.dst v) w ∧ ∃ o, ops[q.1]? = some o ∧ valOp o = true := fun v q hq =>
            ⟨(YP.put hs (hblind q hq)).2 (hp q hq).1, (hp q hq).2⟩
          rcases rGuard_elim h ha hkn rfl with ⟨hw, kn, hkn, h⟩ | ⟨hw, kn, hkn, h⟩
          · have key : ∀ v, (execOp a.eval o).run P w = .ok (.value v) w → valOp o = true →
                (∀ kn r, Rel n (a.put o.dst v) r → KnOk kn r → True) →
                wpAnyP P ops Q fuel (listed.setIfInBounds i true) ((i, v) :: pend) (a.put o.dst v) w → wpAnyP P ops Q (fuel + 1) listed pend a w := by
              intro v hr hv _ H
              exact wpAnyP_take ho hs hQ hself fuel listed pend a w hc (wp_take_free ho hfree) hmem ⟨o, ho, hw, hr⟩ hp' H
            have hpi : ∀ v, (execOp a.eval o).run P w = .ok (.value v) w → valOp o = true →
                ∀ q ∈ (i, v) :: pend, YP P ops q.1 q.2 (a.put o.dst v) w ∧ ∃ o, ops[q.1]? = some o ∧ valOp o = true := by
              intro v hr hv q hq
              rcases List.mem_cons.1 hq with rfl | hq
              · exact ⟨(YP.put hs hself).2 ⟨o, ho, hw, hr⟩, o, ho, hv⟩
              · exact hput v q hq
            split at h
            · rename_i hqk
              obtain ⟨info, v, hi, hr, h⟩ := rOp_pure hkn hqk h
              obtain ⟨kn', r', ha', hkn', h⟩ := setDst_elim h ha hkn hi
              refine wpAnyP_take0 ho hs hQ fuel listed pend a w (wp_take_free ho hfree) hmem (.inl ⟨hw, fun u => ?_⟩) hp' (ih _ _ kn' r' w _ ha' hkn' (hc.set hmem) (hput v) h)
              rw [ha.eval]; exact hr u
            · rename_i hqk
              have hv : valOp o = true := valOp_of (r := r) (by rw [hqk])
              have hop : ∃ t x, o.op = .load t x := by
                unfold qkind at hqk
                split at hqk <;> first
                  | exact ⟨_, _, by assumption⟩
                  | (simp at hqk; done)
                  | (rw [binQ_old] at hqk; unfold binQO at hqk; split at hqk <;> simp at hqk; done)
                  | (split at hqk <;> simp at hqk; done)
              obtain ⟨t, x, hop⟩ := hop
              obtain ⟨v, hr, h⟩ := rOp_load hop h
              rw [← ha.eval] at hr
              obtain ⟨kn', r', ha', hkn', h⟩ := setDst_elim h ha hkn (infoOk_none v)
              exact key v hr hv (fun _ _ _ _ => trivial) (ih _ _ kn' r' _ _ ha' hkn' (hc.set hmem) (hpi v hr hv) h)
            · rename_i hqk
              have hv : valOp o = true := valOp_of (r := r) (by rw [hqk])
              obtain ⟨info, v, w', hi, hr, rfl, h⟩ := rOp_val hv h
              rw [← ha.eval] at hr
              obtain ⟨kn', r', ha', hkn', h⟩ := setDst_elim h ha hkn hi
              exact key v hr hv (fun _ _ _ _ => trivial) (ih _ _ kn' r' _ _ ha' hkn' (hc.set hmem) (hpi v hr hv) h)
            · exact h.elim
          · obtain ⟨kn', r', ha', hkn', h⟩ := setDst_elim h ha hkn (infoOk_none _)
            exact wpAnyP_take0 ho hs hQ fuel listed pend a w (wp_take_free ho hfree) hmem (.inr ⟨hw, rfl⟩) hp' (ih _ _ kn' r' w _ ha' hkn' (hc.set hmem) (hput undef) h)
      · -- whichever comes up
        rw [← he] at h
        refine ⟨fun h0 => (by rw [he] at h0; cases h0), fun i hi => ?_⟩
        have h := rAll_elim h i hi
        split at h
        · exact h.elim
        · rename_i o ho
          obtain ⟨hb, h⟩ := onlyIf_elim h
          have hblind : ∀ q ∈ pend, anc ops ops.size i q.1 = false → blind ops o.dst q.1 = true := fun q hq hn => by
            have := List.all_eq_true.1 hb q hq
            simpa [hn] using this
          have hfilt : ∀ q ∈ pend.filter (fun q => !anc ops ops.size i q.1), q ∈ pend ∧ anc ops ops.size i q.1 = false := fun q hq => by
            rw [List.mem_filter] at hq; simpa using hq
          rcases rGuard_elim h ha hkn rfl with ⟨hw, kn, hkn, h⟩ | ⟨hw, kn, hkn, h⟩
          · simp only [wpOp, ho, hw, if_true]
            refine .inl ?_
            unfold Oper.wp
            refine rOp_sound ha.eval hkn h fun info v w' hi' hk => ?_
            obtain ⟨kn', r', ha', hkn', hk⟩ := setDst_elim hk ha hkn hi'
            obtain ⟨hk, hst⟩ := rStab_elim hk
            have hyp : ∀ q ∈ pend, anc ops ops.size i q.1 = false → YP P ops q.1 q.2 (a.put o.dst v) w' := fun q hq hn => by
              obtain ⟨⟨oq, hoq, hwq, _⟩, oq', hoq', hvq⟩ := hp q hq
              obtain ⟨oq2, hoq2, hrun⟩ := hst q (List.mem_filter.2 ⟨hq, by simp [hn]⟩)
              rw [hoq] at hoq' hoq2
              cases hoq'; cases hoq2
              have hbl := hblind q hq hn
              have hd : ∀ e, o.dst = some e → e ∉ oq.looksAt ops := by
                intro e he'
                rw [he'] at hbl
                simpa [blind, hoq] using hbl
              refine ⟨oq, hoq, ?_, ?_⟩
              · rw [wanted_put oq a o.dst v hd]; exact hwq
              · rw [ha'.eval]; exact hrun hvq
            refine ⟨hyp, ih _ _ kn' r' w' _ ha' hkn' (hc.set hi) (fun q hq => ?_) hk⟩
            obtain ⟨h1, h2⟩ := hfilt q hq
            exact ⟨hyp q h1 h2, (hp q h1).2⟩
          · simp only [wpOp, ho, hw, Bool.false_eq_true, if_false]
            obtain ⟨kn', r', ha', hkn', h⟩ := setDst_elim h ha hkn (infoOk_none _)
            have hyp : ∀ q ∈ pend, anc ops ops.size i q.1 = false → YP P ops q.1 q.2 (a.put o.dst undef) w := fun q hq hn =>
              (YP.put hs (hblind q hq hn)).2 (hp q hq).1
            refine ⟨hyp, ih _ _ kn' r' w _ ha' hkn' (hc.set hi) (fun q hq => ?_) h⟩
            obtain ⟨h1, h2⟩ := hfilt q hq
            exact ⟨hyp q h1 h2, (hp q h1).2⟩

end Go.Sh
