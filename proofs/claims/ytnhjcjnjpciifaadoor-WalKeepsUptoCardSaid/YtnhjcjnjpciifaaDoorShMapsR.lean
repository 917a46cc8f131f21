/- A key taken out of a map that is gone over. -/
import Derived.Test.YtnhjcjnjpciifaaDoorShSortsK
namespace Go.Sh
variable {P : Program} {κ : Type} [DecidableEq κ]

theorem kv_erase_filter (p : κ × Value × Nat → Bool) {es : List (κ × Value × Nat)} : ∀ {n : Nat} {e : κ × Value × Nat}, es[n]? = some e → (es.map (·.1)).Nodup → ((es.eraseIdx n).filter p).map kv = adel ((es.filter p).map kv) e.1 := by
  induction es with
  | nil => intro n e h; simp at h
  | cons x t ih =>
    intro n e h hn
    rw [List.map_cons, List.nodup_cons] at hn
    have hno : ∀ y ∈ (t.filter p).map kv, y.1 ≠ x.1 := by
      intro y hy hc
      obtain ⟨z, hz, rfl⟩ := List.mem_map.1 hy
      exact hn.1 (List.mem_map.2 ⟨z, (List.mem_filter.1 hz).1, hc⟩)
    cases n with
    | zero =>
      simp at h
      subst h
      rw [List.eraseIdx_cons_zero, List.filter_cons]
      split
      · simp [adel, kv]
      · rw [adel_none (aget_none.2 hno)]
    | succ n =>
      simp only [List.getElem?_cons_succ] at h
      have hne : e.1 ≠ x.1 := fun hc => hn.1 (List.mem_map.2 ⟨e, List.mem_of_getElem? h, hc⟩)
      rw [List.eraseIdx_cons_succ, List.filter_cons, List.filter_cons]
      split
      · simp only [List.map_cons, adel, kv, hne, if_false]
        rw [ih h hn.2]
      · exact ih h hn.2

theorem aget_adel_other {β : Type} {l : List (κ × β)} {k j : κ} (h : j ≠ k) : aget (adel l k) j = aget l j := by
  induction l with
  | nil => rfl
  | cons e t ih =>
    obtain ⟨a, y⟩ := e
    simp only [adel]
    split
    · rename_i hk; subst hk; simp only [aget, h, if_false]
    · simp only [aget, ih]
theorem adel_sublist {β : Type} (l : List (κ × β)) (k : κ) : (adel l k).Sublist l := by
  induction l with
  | nil => exact .slnil
  | cons e t ih =>
    obtain ⟨a, y⟩ := e
    simp only [adel]
    split
    · exact .cons _ (.refl _)
    · exact .cons_cons _ ih
theorem adel_keys_nodup {β : Type} {l : List (κ × β)} (k : κ) (h : (l.map (·.1)).Nodup) : ((adel l k).map (·.1)).Nodup := ((adel_sublist l k).map _).nodup h
theorem mem_adel_ne {β : Type} {l : List (κ × β)} {k : κ} {e : κ × β} (h : (l.map (·.1)).Nodup) (he : e ∈ adel l k) : e ∈ l ∧ e.1 ≠ k := by
  refine ⟨(adel_sublist l k).subset he, fun hc => ?_⟩
  have := aget_none.1 (aget_adel_self (k := k) h) e he
  exact this hc
theorem adel_filter_key {β : Type} {l : List (κ × β)} {p : κ → Bool} {k : κ} (hk : p k = false) : (adel l k).filter (fun e => p e.1) = l.filter fun e => p e.1 := by
  induction l with
  | nil => rfl
  | cons e t ih =>
    obtain ⟨a, u⟩ := e
    simp only [adel]
    split
    · rename_i h
      subst h
      rw [List.filter_cons_of_neg (by simp [hk])]
    · rw [List.filter_cons, List.filter_cons, ih]

section
variable {enc : κ → Value} {w0 w : World} {F : List Nat} {L : List Own} {t : TypeId}
theorem delete_range (ht : MapTy P t enc) {kt ty i b r : Nat} {l rest : List (κ × Value)} (H : St w0 F w L) (hi : L[i]? = some (rangeO enc b r l rest)) (k : κ) {K : Value → World → Prop}
    (hK : ∀ w', St w0 F w' (L.set i (rangeO enc b r (adel l k) (adel rest k))) → Fr [b, r] w w' → K (.tuple #[]) w') : rRun P (Builtin.delete_ #[t, kt] ty #[.map (some b), enc k]) w K := by
  obtain ⟨Kt, E, z, inf, hu, hk, hinf, hz⟩ := ht.under
  obtain ⟨es, clock, seen, hb, hl, he, hr, hrest, hbr⟩ := (H.get hi : RangeAt enc w b r l rest)
  have hf := findKey_run hk k es w
  have hg := fidx_get k es 0
  have hout : ∀ es' : List (κ × Value × Nat), es'.map kv = adel l k → Ents es' clock → (es'.filter fun e => !seen.contains e.2.2).map kv = adel rest k →
      St w0 F (Sh.setBlk w b (.map (es'.map (ment enc)).toArray clock)) (L.set i (rangeO enc b r (adel l k) (adel rest k))) := by
    intro es' h1 h2 h3
    have hlt := blk_lt hb
    have hltr := blk_lt hr
    refine St.perm ?_ (perm_set _ hi)
    refine St.step (A := [rangeO enc b r l rest]) (A' := [rangeO enc b r (adel l k) (adel rest k)]) (H.perm (perm_front hi)) ((Fr.setBlk w b _).mono (fun c hc => by simp [rangeO] at hc ⊢; exact .inl hc)) ?_ (fun c hc => .inl (by simpa [rangeO] using hc))
    refine .cons ⟨es', clock, seen, heap_setBlk_same hlt, h1, h2, (heap_setBlk_ne (Ne.symm hbr)).trans hr, h3, hbr⟩ (by simp [rangeO]; exact hbr) ?_ (by simp) (.nil _)
    intro c hc
    simp only [rangeO, List.mem_cons, List.not_mem_nil, or_false] at hc
    rcases hc with rfl | rfl
    · simpa [Sh.setBlk] using hlt
    · simpa [Sh.setBlk] using hltr
  have hfr : ∀ o, Fr [b, r] w (Sh.setBlk w b o) := fun o => (Fr.setBlk w b o).mono fun c hc => by simp at hc ⊢; exact .inl hc
  cases hx : fidx k es 0 with
  | none =>
    rw [hx] at hf hg
    simp only [Option.map_none] at hg
    have hno := fidx_none hx
    refine rRun_intro (w' := Sh.setBlk w b (.map (es.map (ment enc)).toArray clock)) (v := .tuple #[]) ?_ (hK _ (hout es ?_ he ?_) (hfr _))
    · simp [Builtin.delete_, run_underlying' hu, getObj, setObj, Sem.run, hb, hk.check, hf, Sh.setBlk]
    · rw [adel_none (by rw [← hl]; exact hg.symm), hl]
    · rw [hrest, adel_none]
      rw [aget_none, ← hrest]
      intro y hy hc
      obtain ⟨z, hz, rfl⟩ := List.mem_map.1 hy
      exact hno z (List.mem_filter.1 hz).1 hc
  | some x =>
    obtain ⟨j, u⟩ := x
    obtain ⟨n, e, hj, hn, hek, hev⟩ := fidx_some hx
    have hj' : j = n := by omega
    subst hj'
    rw [hx] at hf
    refine rRun_intro (w' := Sh.setBlk w b (.map ((es.eraseIdx j).map (ment enc)).toArray clock)) (v := .tuple #[]) ?_ (hK _ (hout (es.eraseIdx j) ?_ (he.erase j) ?_) (hfr _))
    · have hlt := (List.getElem?_eq_some_iff.1 hn).1
      have her : (es.map (ment enc)).toArray.eraseIdxIfInBounds j = ((es.eraseIdx j).map (ment enc)).toArray := by
        rw [Array.eraseIdxIfInBounds_eq]
        rw [dif_pos (by simpa using hlt)]
        apply Array.ext'
        simp [map_eraseIdx']
      simp only [Builtin.delete_, List.getElem?_toArray, List.getElem?_cons_zero, List.getElem?_cons_succ, Sem.run_bind, run_underlying' hu, Result.andThen_ok, getObj, Sem.run, hb, hk.check, hf, setObj, her, Sem.run_pure]
      rfl
    · rw [kv_erase hn he.keys, hl, hek]
    · rw [kv_erase_filter _ hn he.keys, hrest, hek]
end
end Go.Sh
