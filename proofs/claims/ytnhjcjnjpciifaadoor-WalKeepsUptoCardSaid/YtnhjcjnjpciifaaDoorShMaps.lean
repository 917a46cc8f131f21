/- Maps that a call owns: looking up, storing, taking out, going over. -/
import Derived.Test.YtnhjcjnjpciifaaDoorShSlices
namespace Go.Sh
variable {P : Program} {κ : Type} [DecidableEq κ]

/-- A kind of keys: how they stand in memory, and that the model holds them equal just when they are. -/
structure KeyTy (P : Program) (K : TypeId) (enc : κ → Value) : Prop where
  under : ∃ d, P.underlying K = some d ∧ ((∀ a b, Instr.sameNow d (enc a) (enc b) = some (decide (a = b))) ∨ (∀ a b, Instr.sameNow d (enc a) (enc b) = none))
  eq : ∀ a b w, (Op.equal K (enc a) (enc b)).run P w = .ok (decide (a = b)) w
  check : ∀ e a w, (Instr.checkKey e 10000 K (enc a)).run P w = .ok () w
  same : ∀ a, Instr.sameBits 10000 (enc a) (enc a) = true
  inj : ∀ a b, enc a = enc b → a = b

def ment (enc : κ → Value) (e : κ × Value × Nat) : MapEntry := ⟨enc e.1, e.2.1, e.2.2⟩
def fidx (k : κ) : List (κ × Value × Nat) → Nat → Option (Nat × Value)
  | [], _ => none
  | e :: t, i => if k = e.1 then some (i, e.2.1) else fidx k t (i + 1)
theorem findNow_eq {enc : κ → Value} {d : TypeDesc} (h : ∀ a b, Instr.sameNow d (enc a) (enc b) = some (decide (a = b))) (k : κ) (l : List (κ × Value × Nat)) :
    ∀ i, Instr.findNow d (enc k) (l.map (ment enc)) i = some (fidx k l i) := by
  induction l with
  | nil => intro i; rfl
  | cons e t ih =>
    intro i
    simp only [List.map_cons, Instr.findNow, ment, h, fidx]
    by_cases hk : k = e.1
    · simp [hk]
    · simp only [hk, decide_false, if_false]; exact ih (i + 1)
omit [DecidableEq κ] in
theorem findNow_none {enc : κ → Value} {d : TypeDesc} (h : ∀ a b, Instr.sameNow d (enc a) (enc b) = none) (k : κ) (e : κ × Value × Nat) (l : List (κ × Value × Nat)) (i : Nat) :
    Instr.findNow d (enc k) ((e :: l).map (ment enc)) i = none := by
  simp only [List.map_cons, Instr.findNow, ment, h]
theorem findAsking_run {K : TypeId} {enc : κ → Value} (hk : KeyTy P K enc) (k : κ) (l : List (κ × Value × Nat)) (w : World) :
    ∀ i, (Instr.findAsking K (enc k) (l.map (ment enc)) i).run P w = .ok (fidx k l i) w := by
  induction l with
  | nil => intro i; rfl
  | cons e t ih =>
    intro i
    simp only [List.map_cons, Instr.findAsking, Sem.run_bind, fidx]
    have := hk.eq k e.1 w
    simp only [ment, this, Result.andThen_ok]
    by_cases he : k = e.1
    · simp [he]
    · simp only [he, decide_false, Bool.false_eq_true, if_false]; exact ih (i + 1)
theorem findKey_run {K : TypeId} {enc : κ → Value} (hk : KeyTy P K enc) (k : κ) (l : List (κ × Value × Nat)) (w : World) :
    (Instr.findKey K (enc k) (l.map (ment enc))).run P w = .ok (fidx k l 0) w := by
  obtain ⟨d, hd, hn⟩ := hk.under
  simp only [Instr.findKey, Sem.run_bind, run_underlying' hd, Result.andThen_ok]
  rcases hn with hn | hn
  · rw [findNow_eq hn]; rfl
  · cases l with
    | nil => rfl
    | cons e t => rw [findNow_none hn]; exact findAsking_run hk k (e :: t) w 0

/- What a map holds, as a list of keys with their values. -/
def aget {β : Type} (l : List (κ × β)) (k : κ) : Option β := match l with | [] => none | (a, v) :: t => if k = a then some v else aget t k
def aput {β : Type} (l : List (κ × β)) (k : κ) (v : β) : List (κ × β) := match l with | [] => [(k, v)] | (a, u) :: t => if k = a then (a, v) :: t else (a, u) :: aput t k v
def adel {β : Type} (l : List (κ × β)) (k : κ) : List (κ × β) := match l with | [] => [] | (a, u) :: t => if k = a then t else (a, u) :: adel t k
def kv (e : κ × Value × Nat) : κ × Value := (e.1, e.2.1)
structure Ents (es : List (κ × Value × Nat)) (clock : Nat) : Prop where
  keys : (es.map (·.1)).Nodup
  borns : (es.map (·.2.2)).Nodup
  lt : ∀ e ∈ es, e.2.2 < clock
def MapAt (enc : κ → Value) (w : World) (b : Nat) (l : List (κ × Value)) : Prop :=
  ∃ es clock, w.heap[b]? = some (.map (es.map (ment enc)).toArray clock) ∧ es.map kv = l ∧ Ents es clock
def mapO (enc : κ → Value) (b : Nat) (l : List (κ × Value)) : Own where
  fp := [b]
  holds w := MapAt enc w b l
  loc := by
    rintro w w' h ⟨es, clock, hb, h2⟩
    exact ⟨es, clock, (h b (by simp)).trans hb, h2⟩
omit [DecidableEq κ] in
theorem MapAt.lt {enc : κ → Value} {w : World} {b : Nat} {l : List (κ × Value)} (h : MapAt enc w b l) : b < w.heap.size := by
  obtain ⟨es, clock, hb, _⟩ := h; exact blk_lt hb
omit [DecidableEq κ] in
theorem mapAt_new {enc : κ → Value} {w : World} {b : Nat} (h : w.heap[b]? = some (.map #[] 0)) : MapAt enc w b ([] : List (κ × Value)) :=
  ⟨[], 0, by simpa using h, rfl, by simp, by simp, by simp⟩

theorem map_eraseIdx' {α β : Type} (f : α → β) : ∀ (l : List α) (i : Nat), (l.map f).eraseIdx i = (l.eraseIdx i).map f
  | [], _ => rfl
  | _ :: _, 0 => rfl
  | x :: t, i + 1 => by simp [List.eraseIdx_cons_succ, map_eraseIdx' f t i]
theorem fidx_get (k : κ) : ∀ (es : List (κ × Value × Nat)) (i : Nat), (fidx k es i).map (·.2) = aget (es.map kv) k
  | [], _ => rfl
  | e :: t, i => by
    simp only [fidx, List.map_cons, kv, aget]
    split
    · rfl
    · exact fidx_get k t (i + 1)
theorem fidx_some {k : κ} : ∀ {es : List (κ × Value × Nat)} {i j : Nat} {v : Value}, fidx k es i = some (j, v) → ∃ n e, j = i + n ∧ es[n]? = some e ∧ e.1 = k ∧ e.2.1 = v
  | [], _, _, _, h => by cases h
  | e :: t, i, j, v, h => by
    simp only [fidx] at h
    split at h
    · rename_i hk
      simp only [Option.some.injEq, Prod.mk.injEq] at h
      exact ⟨0, e, by omega, rfl, hk.symm, h.2⟩
    · obtain ⟨n, e', hj, he, h1, h2⟩ := fidx_some h
      exact ⟨n + 1, e', by omega, by simpa using he, h1, h2⟩
theorem fidx_none {k : κ} : ∀ {es : List (κ × Value × Nat)} {i : Nat}, fidx k es i = none → ∀ e ∈ es, e.1 ≠ k
  | [], _, _, _, he => by cases he
  | e :: t, i, h, x, hx => by
    simp only [fidx] at h
    split at h
    · cases h
    · rename_i hk
      rcases List.mem_cons.1 hx with rfl | hx
      · exact fun hc => hk hc.symm
      · exact fidx_none h x hx
theorem fidx_base {k : κ} : ∀ (es : List (κ × Value × Nat)) (i : Nat), fidx k es i = (fidx k es 0).map fun x => (x.1 + i, x.2)
  | [], _ => rfl
  | e :: t, i => by
    simp only [fidx]
    split
    · simp
    · rw [fidx_base t (i + 1), fidx_base t (0 + 1)]
      cases fidx k t 0 <;> simp
      omega
theorem aget_none {β : Type} {l : List (κ × β)} {k : κ} : aget l k = none ↔ ∀ e ∈ l, e.1 ≠ k := by
  induction l with
  | nil => simp [aget]
  | cons e t ih =>
    obtain ⟨a, v⟩ := e
    simp only [aget]
    by_cases h : k = a
    · simp [h]
    · simp only [h, if_false, ih, List.forall_mem_cons, ne_eq]
      exact ⟨fun hh => ⟨fun hc => h hc.symm, hh⟩, fun hh => hh.2⟩
theorem aput_none {β : Type} {l : List (κ × β)} {k : κ} (v : β) (h : aget l k = none) : aput l k v = l ++ [(k, v)] := by
  induction l with
  | nil => rfl
  | cons e t ih =>
    obtain ⟨a, u⟩ := e
    simp only [aget] at h
    split at h
    · cases h
    · rename_i hk; simp only [aput, hk, if_false, List.cons_append, ih h]
theorem adel_none {β : Type} {l : List (κ × β)} {k : κ} (h : aget l k = none) : adel l k = l := by
  induction l with
  | nil => rfl
  | cons e t ih =>
    obtain ⟨a, u⟩ := e
    simp only [aget] at h
    split at h
    · cases h
    · rename_i hk; simp only [adel, hk, if_false, ih h]

def zeroOf (P : Program) (t : TypeId) : Value := match P.underlying t with | some (.map _ e) => ((P.info? e).bind (·.zero)).getD undef | _ => undef
structure MapTy (P : Program) (t : TypeId) (enc : κ → Value) : Prop where
  under : ∃ K E z i, P.underlying t = some (.map K E) ∧ KeyTy P K enc ∧ P.info? E = some i ∧ i.zero = some z
section
variable {enc : κ → Value} {w0 w : World} {F : List Nat} {L : List Own} {t : TypeId}
theorem lookup_run (ht : MapTy P t enc) {b : Nat} {l : List (κ × Value)} (h : MapAt enc w b l) (k : κ) (ok : Bool) :
    (Instr.lookup t (.map (some b)) (enc k) ok).run P w =
      .ok (if ok then .tuple #[(aget l k).getD (zeroOf P t), .bool (aget l k).isSome] else (aget l k).getD (zeroOf P t)) w := by
  obtain ⟨K, E, z, i, hu, hk, hi, hz⟩ := ht.under
  obtain ⟨es, clock, hb, rfl, he⟩ := h
  have hf := findKey_run hk k es w
  have hzo : zeroOf P t = z := by simp [zeroOf, hu, hi, hz]
  have hg := fidx_get k es 0
  simp only [Instr.lookup, Sem.run_bind, run_underlying' hu, Result.andThen_ok, getObj, Sem.run, hb, Sem.run_pure, hk.check, hf]
  cases hx : fidx k es 0 with
  | none =>
    rw [hx] at hg
    simp only [Option.map_none] at hg
    simp [zeroValue, typeInfo, hi, hz, ← hg, hzo]
  | some x =>
    obtain ⟨j, v⟩ := x
    rw [hx] at hg
    simp only [Option.map_some] at hg
    simp [← hg]
theorem lookup_nil_run (ht : MapTy P t enc) (k : κ) (ok : Bool) :
    (Instr.lookup t (.map none) (enc k) ok).run P w = .ok (if ok then .tuple #[zeroOf P t, .bool false] else zeroOf P t) w := by
  obtain ⟨K, E, z, i, hu, hk, hi, hz⟩ := ht.under
  have hf := findKey_run (P := P) hk k [] w
  have hzo : zeroOf P t = z := by simp [zeroOf, hu, hi, hz]
  simp only [List.map_nil] at hf
  simp only [Instr.lookup, Sem.run_bind, run_underlying' hu, Result.andThen_ok, Sem.run_pure, hk.check, hf, fidx]
  simp [zeroValue, typeInfo, hi, hz, hzo]
omit [DecidableEq κ] in
theorem maplen_run {K E ty : TypeId} (hu : P.underlying t = some (.map K E)) {b : Nat} {l : List (κ × Value)} (h : MapAt enc w b l) :
    (Builtin.len_ #[t] ty #[.map (some b)]).run P w = .ok (.int .i64 l.length) w := by
  obtain ⟨es, clock, hb, rfl, he⟩ := h
  simp [Builtin.len_, run_underlying' hu, getObj, Sem.run, hb, goInt]

omit [DecidableEq κ] in
theorem Ents.set {es : List (κ × Value × Nat)} {clock : Nat} (h : Ents es clock) {n : Nat} {e : κ × Value × Nat} (he : es[n]? = some e) (v : Value) : Ents (es.set n (e.1, v, e.2.2)) clock := by
  have hm : ∀ {β : Type} (f : κ × Value × Nat → β), f (e.1, v, e.2.2) = f e → (es.set n (e.1, v, e.2.2)).map f = es.map f := by
    intro β f hf
    rw [List.map_set, hf]
    apply List.ext_getElem?
    intro j
    rw [List.getElem?_set]
    split
    · rename_i hj; subst hj; split <;> simp_all
    · rfl
  refine ⟨by rw [hm _ rfl]; exact h.keys, by rw [hm _ rfl]; exact h.borns, fun x hx => ?_⟩
  rcases List.mem_or_eq_of_mem_set hx with hx | rfl
  · exact h.lt x hx
  · exact h.lt e (List.mem_of_getElem? he)
theorem kv_set {es : List (κ × Value × Nat)} : ∀ {n : Nat} {e : κ × Value × Nat}, es[n]? = some e → (es.map (·.1)).Nodup → ∀ v, (es.set n (e.1, v, e.2.2)).map kv = aput (es.map kv) e.1 v := by
  induction es with
  | nil => intro n e h; simp at h
  | cons x t ih =>
    intro n e h hn v
    cases n with
    | zero =>
      simp at h; subst h
      simp [kv, aput]
    | succ n =>
      simp only [List.getElem?_cons_succ] at h
      simp only [List.map_cons, List.nodup_cons] at hn
      have hne : e.1 ≠ x.1 := fun hc => hn.1 (hc ▸ List.mem_map.2 ⟨e, List.mem_of_getElem? h, rfl⟩)
      simp only [List.set_cons_succ, List.map_cons, aput, kv]
      rw [if_neg hne]
      congr 1
      exact ih h hn.2 v
theorem kv_erase {es : List (κ × Value × Nat)} : ∀ {n : Nat} {e : κ × Value × Nat}, es[n]? = some e → (es.map (·.1)).Nodup → (es.eraseIdx n).map kv = adel (es.map kv) e.1 := by
  induction es with
  | nil => intro n e h; simp at h
  | cons x t ih =>
    intro n e h hn
    cases n with
    | zero =>
      simp at h; subst h
      simp [kv, adel]
    | succ n =>
      simp only [List.getElem?_cons_succ] at h
      simp only [List.map_cons, List.nodup_cons] at hn
      have hne : e.1 ≠ x.1 := fun hc => hn.1 (hc ▸ List.mem_map.2 ⟨e, List.mem_of_getElem? h, rfl⟩)
      simp only [List.eraseIdx_cons_succ, List.map_cons, adel, kv]
      rw [if_neg hne]
      congr 1
      exact ih h hn.2
omit [DecidableEq κ] in
theorem Ents.erase {es : List (κ × Value × Nat)} {clock : Nat} (h : Ents es clock) (n : Nat) : Ents (es.eraseIdx n) clock :=
  ⟨(List.eraseIdx_sublist es n).map _ |>.nodup h.keys, (List.eraseIdx_sublist es n).map _ |>.nodup h.borns, fun e he => h.lt e ((List.eraseIdx_sublist es n).subset he)⟩
omit [DecidableEq κ] in
theorem Ents.push {es : List (κ × Value × Nat)} {clock : Nat} (h : Ents es clock) {k : κ} (hk : ∀ e ∈ es, e.1 ≠ k) (v : Value) : Ents (es ++ [(k, v, clock)]) (clock + 1) := by
  refine ⟨?_, ?_, fun e he => ?_⟩
  · rw [List.map_append, List.nodup_append]
    refine ⟨h.keys, by simp, fun a ha b hb => ?_⟩
    obtain ⟨e, he, rfl⟩ := List.mem_map.1 ha
    simp at hb
    subst hb
    exact hk e he
  · rw [List.map_append, List.nodup_append]
    refine ⟨h.borns, by simp, fun a ha b hb => ?_⟩
    obtain ⟨e, he, rfl⟩ := List.mem_map.1 ha
    simp at hb
    subst hb
    exact Nat.ne_of_lt (h.lt e he)
  · rcases List.mem_append.1 he with he | he
    · exact Nat.lt_succ_of_lt (h.lt e he)
    · simp at he; subst he; exact Nat.lt_succ_self _
omit [DecidableEq κ] in
theorem mem_map_set {es : List (κ × Value × Nat)} (n : Nat) (e : κ × Value × Nat) (he : es[n]? = some e) (v : Value) :
    (es.map (ment enc)).toArray.modify n (fun x => { x with key := enc e.1, val := v }) = ((es.set n (e.1, v, e.2.2)).map (ment enc)).toArray := by
  apply Array.ext_getElem?
  intro j
  rw [Array.getElem?_modify]
  simp only [List.getElem?_toArray, List.getElem?_map, List.getElem?_set]
  by_cases hj : n = j
  · subst hj
    obtain ⟨hlt, heq⟩ := List.getElem?_eq_some_iff.1 he
    simp [hlt, ment, heq]
  · simp [hj]

omit [DecidableEq κ] in
/-- The map's block turned to hold something else. -/
theorem St.setMap {i b : Nat} {l l' : List (κ × Value)} {es : List (κ × Value × Nat)} {clock : Nat} (H : St w0 F w L) (hi : L[i]? = some (mapO enc b l)) (hl : es.map kv = l') (he : Ents es clock) :
    St w0 F (Sh.setBlk w b (.map (es.map (ment enc)).toArray clock)) (L.set i (mapO enc b l')) := by
  have hb := (H.get hi : MapAt enc w b l).lt
  refine St.perm ?_ (perm_set _ hi)
  refine St.step (A := [mapO enc b l]) (A' := [mapO enc b l']) (H.perm (perm_front hi)) (by simpa [mapO] using Fr.setBlk w b _) ?_ (fun c hc => .inl (by simpa [mapO] using hc))
  refine .cons (⟨es, clock, heap_setBlk_same hb, hl, he⟩ : MapAt enc _ b l') (by simp [mapO]) ?_ (by simp) (.nil _)
  intro c hc
  simp only [mapO, List.mem_singleton] at hc
  subst hc
  simpa [Sh.setBlk] using hb
theorem mapUpdate_own (ht : MapTy P t enc) {i b : Nat} {l : List (κ × Value)} (H : St w0 F w L) (hi : L[i]? = some (mapO enc b l)) (k : κ) (v : Value) {K : Unit → World → Prop}
    (hK : ∀ w', St w0 F w' (L.set i (mapO enc b (aput l k v))) → Fr [b] w w' → K () w') : rRun P (Instr.mapUpdate t (.map (some b)) (enc k) v) w K := by
  obtain ⟨Kt, E, z, inf, hu, hk, hinf, hz⟩ := ht.under
  have hM : MapAt enc w b l := H.get hi
  obtain ⟨es, clock, hb, hl, he⟩ := hM
  have hf := findKey_run hk k es w
  have hg := fidx_get k es 0
  cases hx : fidx k es 0 with
  | none =>
    rw [hx] at hf hg
    simp only [Option.map_none] at hg
    have hnone := fidx_none hx
    refine rRun_intro (w' := Sh.setBlk w b (.map ((es ++ [(k, v, clock)]).map (ment enc)).toArray (clock + 1))) (v := ()) ?_ (hK _ ?_ (Fr.setBlk w b _))
    · simp [Instr.mapUpdate, run_underlying' hu, getObj, setObj, Sem.run, hb, hk.check, hf, Sh.setBlk, ment]
    · refine St.setMap H hi ?_ (he.push hnone v)
      rw [List.map_append, hl, aput_none v (by rw [← hl]; exact hg.symm)]
      rfl
  | some x =>
    obtain ⟨j, u⟩ := x
    obtain ⟨n, e, hj, hn, hek, hev⟩ := fidx_some hx
    have hj' : j = n := by omega
    subst hj'
    rw [hx] at hf
    refine rRun_intro (w' := Sh.setBlk w b (.map ((es.set j (e.1, v, e.2.2)).map (ment enc)).toArray clock)) (v := ()) ?_ (hK _ ?_ (Fr.setBlk w b _))
    · have hkey : (((es.map (ment enc)).toArray[j]?).map (·.key)).getD (enc k) = enc k := by simp [hn, ment, hek]
      have hkeep : (Instr.keyThatStays (enc k) (enc k)).run P w = .ok (enc k) w := by simp [Instr.keyThatStays, hk.same]
      have hset := mem_map_set (enc := enc) j e hn v
      rw [hek] at hset
      simp only [Instr.mapUpdate, Sem.run_bind, run_underlying' hu, Result.andThen_ok, getObj, Sem.run, hb, hk.check, hf, hkey, hkeep, setObj]
      rw [hset, hek]
      rfl
    · refine St.setMap H hi ?_ (he.set hn v)
      rw [kv_set hn he.keys v, hl, hek]
theorem delete_own (ht : MapTy P t enc) {kt ty i b : Nat} {l : List (κ × Value)} (H : St w0 F w L) (hi : L[i]? = some (mapO enc b l)) (k : κ) {K : Value → World → Prop}
    (hK : ∀ w', St w0 F w' (L.set i (mapO enc b (adel l k))) → Fr [b] w w' → K (.tuple #[]) w') : rRun P (Builtin.delete_ #[t, kt] ty #[.map (some b), enc k]) w K := by
  obtain ⟨Kt, E, z, inf, hu, hk, hinf, hz⟩ := ht.under
  have hM : MapAt enc w b l := H.get hi
  obtain ⟨es, clock, hb, hl, he⟩ := hM
  have hf := findKey_run hk k es w
  have hg := fidx_get k es 0
  cases hx : fidx k es 0 with
  | none =>
    rw [hx] at hf hg
    simp only [Option.map_none] at hg
    refine rRun_intro (w' := Sh.setBlk w b (.map (es.map (ment enc)).toArray clock)) (v := .tuple #[]) ?_ (hK _ ?_ (Fr.setBlk w b _))
    · simp [Builtin.delete_, run_underlying' hu, getObj, setObj, Sem.run, hb, hk.check, hf, Sh.setBlk]
    · refine St.setMap H hi ?_ he
      rw [adel_none (by rw [← hl]; exact hg.symm), hl]
  | some x =>
    obtain ⟨j, u⟩ := x
    obtain ⟨n, e, hj, hn, hek, hev⟩ := fidx_some hx
    have hj' : j = n := by omega
    subst hj'
    rw [hx] at hf
    refine rRun_intro (w' := Sh.setBlk w b (.map ((es.eraseIdx j).map (ment enc)).toArray clock)) (v := .tuple #[]) ?_ (hK _ ?_ (Fr.setBlk w b _))
    · have hlt := (List.getElem?_eq_some_iff.1 hn).1
      have her : (es.map (ment enc)).toArray.eraseIdxIfInBounds j = ((es.eraseIdx j).map (ment enc)).toArray := by
        rw [Array.eraseIdxIfInBounds_eq]
        rw [dif_pos (by simpa using hlt)]
        apply Array.ext'
        simp [map_eraseIdx']
      simp only [Builtin.delete_, List.getElem?_toArray, List.getElem?_cons_zero, List.getElem?_cons_succ, Sem.run_bind, run_underlying' hu, Result.andThen_ok, getObj, Sem.run, hb, hk.check, hf, setObj, her, Sem.run_pure]
      rfl
    · refine St.setMap H hi ?_ (he.erase j)
      rw [kv_erase hn he.keys, hl, hek]
/- An entry that is looked up to be stored anew. -/
def StampAt (enc : κ → Value) (w : World) (b : Nat) (l : List (κ × Value)) (k : κ) (s : Nat) : Prop :=
  ∃ es clock, w.heap[b]? = some (.map (es.map (ment enc)).toArray clock) ∧ es.map kv = l ∧ Ents es clock ∧ ∃ v, (k, v, s) ∈ es
omit [DecidableEq κ] in
theorem StampAt.of {w w' : World} {b s : Nat} {l : List (κ × Value)} {k : κ} (h : StampAt enc w b l k s) (hb : w'.heap[b]? = w.heap[b]?) : StampAt enc w' b l k s := by
  obtain ⟨es, clock, h1, h2⟩ := h
  exact ⟨es, clock, hb.trans h1, h2⟩
theorem aput_aput {β : Type} (l : List (κ × β)) (k : κ) (u v : β) : aput (aput l k u) k v = aput l k v := by
  induction l with
  | nil => simp [aput]
  | cons e t ih =>
    obtain ⟨a, x⟩ := e
    simp only [aput]
    split
    · rename_i h; simp only [aput, h, if_true]
    · rename_i h; simp only [aput, h, if_false, ih]
theorem aput_self {β : Type} {l : List (κ × β)} {k : κ} {u : β} (h : aget l k = some u) : aput l k u = l := by
  induction l with
  | nil => cases h
  | cons e t ih =>
    obtain ⟨a, x⟩ := e
    simp only [aget] at h
    simp only [aput]
    split at h
    · rename_i hk; cases h; rw [if_pos hk]
    · rename_i hk; rw [if_neg hk, ih h]
/-- 'm[k]', about to be stored: its value (zero, if there is none); an entry is there from now on. -/
theorem mapEntry_own (ht : MapTy P t enc) {i b : Nat} {l : List (κ × Value)} (H : St w0 F w L) (hi : L[i]? = some (mapO enc b l)) (k : κ) {K : Value → World → Prop}
    (hK : ∀ w' (s : Nat), St w0 F w' (L.set i (mapO enc b (aput l k ((aget l k).getD (zeroOf P t))))) → Fr [b] w w' → StampAt enc w' b (aput l k ((aget l k).getD (zeroOf P t))) k s →
      K (.tuple #[(aget l k).getD (zeroOf P t), .int .i64 s]) w') : rRun P (Instr.mapEntry t (.map (some b)) (enc k)) w K := by
  obtain ⟨Kt, E, z, inf, hu, hk, hinf, hz⟩ := ht.under
  have hM : MapAt enc w b l := H.get hi
  obtain ⟨es, clock, hb, hl, he⟩ := hM
  have hf := findKey_run hk k es w
  have hg := fidx_get k es 0
  have hzo : zeroOf P t = z := by simp [zeroOf, hu, hinf, hz]
  cases hx : fidx k es 0 with
  | none =>
    rw [hx] at hf hg
    simp only [Option.map_none] at hg
    rw [hl] at hg
    have hnone := fidx_none hx
    have hkv : (es ++ [(k, z, clock)]).map kv = aput l k ((aget l k).getD (zeroOf P t)) := by
      rw [List.map_append, hl, ← hg, aput_none _ hg.symm, hzo]; rfl
    refine rRun_intro (w' := Sh.setBlk w b (.map ((es ++ [(k, z, clock)]).map (ment enc)).toArray (clock + 1))) (v := .tuple #[(aget l k).getD (zeroOf P t), .int .i64 clock]) ?_
      (hK _ clock (St.setMap H hi hkv (he.push hnone z)) (Fr.setBlk w b _) ⟨_, _, heap_setBlk_same (blk_lt hb), hkv, he.push hnone z, z, by simp⟩)
    simp [Instr.mapEntry, run_underlying' hu, getObj, setObj, Sem.run, hb, hk.check, hf, Sh.setBlk, ment, zeroValue, typeInfo, hinf, hz, goInt, ← hg, hzo]
  | some x =>
    obtain ⟨j, u⟩ := x
    obtain ⟨n, e, hj, hn, hek, hev⟩ := fidx_some hx
    have hj' : j = n := by omega
    subst hj'
    rw [hx] at hf hg
    simp only [Option.map_some] at hg
    rw [hl] at hg
    have hself : es.set j (e.1, e.2.1, e.2.2) = es := by
      apply List.ext_getElem?
      intro q
      rw [List.getElem?_set]
      split
      · rename_i hq; subst hq; rw [hn]; have := (List.getElem?_eq_some_iff.1 hn).1; simp [this]
      · rfl
    have hkv : es.map kv = aput l k ((aget l k).getD (zeroOf P t)) := by rw [← hg, Option.getD_some, aput_self hg.symm, hl]
    refine rRun_intro (w' := Sh.setBlk w b (.map (es.map (ment enc)).toArray clock)) (v := .tuple #[(aget l k).getD (zeroOf P t), .int .i64 e.2.2]) ?_
      (hK _ e.2.2 (St.setMap H hi hkv he) (Fr.setBlk w b _) ⟨_, _, heap_setBlk_same (blk_lt hb), hkv, he, e.2.1, by rw [← hek]; exact List.mem_of_getElem? hn⟩)
    have hkey : (((es.map (ment enc)).toArray[j]?).map (·.key)).getD (enc k) = enc k := by simp [hn, ment, hek]
    have hborn : (((es.map (ment enc)).toArray[j]?).map (fun x => (x.born : Int))).getD 0 = (e.2.2 : Int) := by simp [hn, ment]
    have hkeep : (Instr.keyThatStays (enc k) (enc k)).run P w = .ok (enc k) w := by simp [Instr.keyThatStays, hk.same]
    have hset : (es.map (ment enc)).toArray.modify j (fun x => { x with key := enc k }) = (es.map (ment enc)).toArray := by
      apply Array.ext_getElem?
      intro q
      rw [Array.getElem?_modify]
      split
      · rename_i hq; subst hq; simp [hn, ment, hek]
      · rfl
    simp only [Instr.mapEntry, Sem.run_bind, run_underlying' hu, Result.andThen_ok, getObj, Sem.run, hb, hk.check, hf, hkey, hborn, hkeep, setObj, hset, Sem.run_pure, goInt, ← hg, Option.getD_some]
    rfl
theorem entryStore_own {i b s : Nat} {l : List (κ × Value)} (H : St w0 F w L) (hi : L[i]? = some (mapO enc b l)) {k : κ} (hs : StampAt enc w b l k s) (v : Value) {K : Unit → World → Prop}
    (hK : ∀ w', St w0 F w' (L.set i (mapO enc b (aput l k v))) → Fr [b] w w' → K () w') : rRun P (Instr.entryStore t (.map (some b)) (.int .i64 s) v) w K := by
  obtain ⟨es, clock, hb, hl, he, u, hm⟩ := hs
  obtain ⟨n, hn⟩ := List.getElem?_of_mem hm
  have hlt := (List.getElem?_eq_some_iff.1 hn).1
  have hfi : (es.map (ment enc)).toArray.findIdx? (fun e => (e.born : Int) == (s : Int)) = some n := by
    rw [List.findIdx?_toArray, List.findIdx?_eq_some_iff_getElem]
    refine ⟨by simpa using hlt, ?_, fun j hj => ?_⟩
    · have h2 := (List.getElem?_eq_some_iff.1 hn).2
      simp [ment, h2]
    · have hjl : j < es.length := by omega
      simp only [List.getElem_map, ment]
      intro hc
      have hc' : es[j].2.2 = s := Int.natCast_inj.1 (by simpa using hc)
      have h2 := (List.getElem?_eq_some_iff.1 hn).2
      have hnd := he.borns
      have h3 : (es.map (·.2.2))[j]'(by simpa using hjl) = (es.map (·.2.2))[n]'(by simpa using hlt) := by simp [hc', h2]
      exact absurd ((List.getElem_inj hnd).1 h3) (by omega)
  refine rRun_intro (w' := Sh.setBlk w b (.map ((es.set n (k, v, s)).map (ment enc)).toArray clock)) (v := ()) ?_ (hK _ ?_ (Fr.setBlk w b _))
  · have hset : (es.map (ment enc)).toArray.modify n (fun e => { e with val := v }) = ((es.set n (k, v, s)).map (ment enc)).toArray := by
      apply Array.ext_getElem?
      intro q
      rw [Array.getElem?_modify]
      simp only [List.getElem?_toArray, List.getElem?_map, List.getElem?_set]
      split
      · rename_i hq; subst hq
        have h2 := (List.getElem?_eq_some_iff.1 hn).2
        simp [hlt, ment, h2]
      · rfl
    simp only [Instr.entryStore, Sem.run_bind, Result.andThen_ok, getObj, Sem.run, hb, asInt, asIntOf, Sem.run_pure, hfi, setObj, hset]
    rfl
  · have h2 := he.set hn v
    have h3 := kv_set hn he.keys v
    simp only at h2 h3
    refine St.setMap H hi ?_ h2
    rw [h3, hl]

theorem aget_map {α β : Type} (f : α → β) (l : List (κ × α)) (k : κ) : aget (l.map fun e => (e.1, f e.2)) k = (aget l k).map f := by
  induction l with
  | nil => rfl
  | cons e t ih => simp only [List.map_cons, aget]; split <;> simp_all
theorem aput_map {α β : Type} (f : α → β) (l : List (κ × α)) (k : κ) (x : α) : aput (l.map fun e => (e.1, f e.2)) k (f x) = (aput l k x).map fun e => (e.1, f e.2) := by
  induction l with
  | nil => rfl
  | cons e t ih => simp only [List.map_cons, aput]; split <;> simp_all
theorem adel_map {α β : Type} (f : α → β) (l : List (κ × α)) (k : κ) : adel (l.map fun e => (e.1, f e.2)) k = (adel l k).map fun e => (e.1, f e.2) := by
  induction l with
  | nil => rfl
  | cons e t ih => simp only [List.map_cons, adel]; split <;> simp_all
theorem perm_aget {α β : Type} (g : κ × α → β) {l : List (κ × α)} {k : κ} {x : α} (h : aget l k = some x) : (l.map g).Perm (g (k, x) :: (adel l k).map g) := by
  induction l with
  | nil => cases h
  | cons e t ih =>
    obtain ⟨a, y⟩ := e
    simp only [aget] at h
    simp only [adel]
    split at h
    · rename_i hk; cases h; subst hk; rw [if_pos rfl]; exact .refl _
    · rename_i hk; rw [if_neg hk]
      simp only [List.map_cons]
      exact ((ih h).cons _).trans (.swap _ _ _)
theorem perm_aput {α β : Type} (g : κ × α → β) (l : List (κ × α)) (k : κ) (x : α) : ((aput l k x).map g).Perm (g (k, x) :: (adel l k).map g) := by
  induction l with
  | nil => exact .refl _
  | cons e t ih =>
    obtain ⟨a, y⟩ := e
    simp only [aput, adel]
    split
    · rename_i hk; subst hk; exact .refl _
    · simp only [List.map_cons]
      exact (ih.cons _).trans (.swap _ _ _)
theorem adel_aput {β : Type} (l : List (κ × β)) (k : κ) (v : β) : adel (aput l k v) k = adel l k := by
  induction l with
  | nil => simp [aput, adel]
  | cons e t ih =>
    obtain ⟨a, y⟩ := e
    simp only [aput, adel]
    split
    · rename_i hk; simp [adel, hk]
    · rename_i hk; simp [adel, hk, ih]
theorem aget_aput {β : Type} (l : List (κ × β)) (k : κ) (v : β) : aget (aput l k v) k = some v := by
  induction l with
  | nil => simp [aput, aget]
  | cons e t ih =>
    obtain ⟨a, y⟩ := e
    simp only [aput]
    split
    · rename_i hk; simp [aget, hk]
    · rename_i hk; simp [aget, hk, ih]
theorem aget_aput_ne {β : Type} (l : List (κ × β)) {k j : κ} (v : β) (h : j ≠ k) : aget (aput l k v) j = aget l j := by
  induction l with
  | nil => simp [aput, aget, h]
  | cons e t ih =>
    obtain ⟨a, y⟩ := e
    simp only [aput]
    split
    · rename_i hk; subst hk; simp [aget, h]
    · simp only [aget, ih]

/- Going over a map. -/
/-- A map b and an iterator r over it: rest is yet to come. -/
def RangeAt (enc : κ → Value) (w : World) (b r : Nat) (l rest : List (κ × Value)) : Prop :=
  ∃ es clock seen, w.heap[b]? = some (.map (es.map (ment enc)).toArray clock) ∧ es.map kv = l ∧ Ents es clock ∧ w.heap[r]? = some (.mapIter (some b) clock seen clock) ∧
    (es.filter fun e => !seen.contains e.2.2).map kv = rest ∧ b ≠ r
def rangeO (enc : κ → Value) (b r : Nat) (l rest : List (κ × Value)) : Own where
  fp := [b, r]
  holds w := RangeAt enc w b r l rest
  loc := by
    rintro w w' h ⟨es, clock, seen, h1, h2, h3, h4, h5⟩
    exact ⟨es, clock, seen, (h b (by simp)).trans h1, h2, h3, (h r (by simp)).trans h4, h5⟩
theorem range_own (ht : MapTy P t enc) {i b : Nat} {l : List (κ × Value)} (H : St w0 F w L) (hi : L[i]? = some (mapO enc b l)) {K : Value → World → Prop}
    (hK : ∀ w' r, St w0 F w' (L.set i (rangeO enc b r l l)) → Fr [] w w' → K (.pointer (some ⟨r, 0, none⟩)) w') : rRun P (Instr.range t (.map (some b))) w K := by
  obtain ⟨Kt, E, z, inf, hu, hk, hinf, hz⟩ := ht.under
  obtain ⟨es, clock, hb, hl, he⟩ := (H.get hi : MapAt enc w b l)
  have hbl := blk_lt hb
  refine rRun_intro (w' := w.alloc (.mapIter (some b) clock #[] clock)) (v := .pointer (some ⟨w.heap.size, 0, none⟩)) ?_ (hK _ _ ?_ (Fr.alloc [] w _))
  · simp only [Instr.range, Sem.run_bind, run_underlying' hu, Result.andThen_ok, getObj, Sem.run, hb, Sem.run_pure, newObj]
    rfl
  · refine St.perm ?_ (perm_set _ hi)
    refine St.step (A := [mapO enc b l]) (A' := [rangeO enc b w.heap.size l l]) (H.perm (perm_front hi)) (Fr.alloc _ w _) ?_ (fun c hc => ?_)
    · refine .cons ⟨es, clock, #[], ?_, hl, he, heap_alloc_new w _, ?_, by omega⟩ (by simp [rangeO]; omega) ?_ (by simp) (.nil _)
      · rw [RowKit.Below.heap_alloc w _ b hbl, hb]
      · rw [← hl]
        congr 1
        exact List.filter_eq_self.2 (fun _ _ => by simp)
      · intro c hc
        simp only [rangeO, List.mem_cons, List.not_mem_nil, or_false] at hc
        rcases hc with rfl | rfl <;> simp
        omega
    · simp only [rangeO, fps_cons, fps_nil, List.append_nil, List.mem_cons, List.not_mem_nil, or_false] at hc
      rcases hc with rfl | rfl
      · exact .inl (by simp [mapO])
      · exact .inr (Nat.le_refl _)
omit [DecidableEq κ] in
/-- Behind the loop the map is the map again. -/
theorem range_done {i b r : Nat} {l rest : List (κ × Value)} (H : St w0 F w L) (hi : L[i]? = some (rangeO enc b r l rest)) : St w0 F w (L.set i (mapO enc b l)) := by
  refine St.perm ?_ (perm_set _ hi)
  refine St.step (A := [rangeO enc b r l rest]) (A' := [mapO enc b l]) (H.perm (perm_front hi)) (.refl _ w) ?_ (fun c hc => ?_)
  · obtain ⟨es, clock, seen, h1, h2, h3, _⟩ := (H.get hi : RangeAt enc w b r l rest)
    refine .cons (⟨es, clock, h1, h2, h3⟩ : MapAt enc w b l) (by simp [mapO]) ?_ (by simp) (.nil _)
    intro c hc
    simp only [mapO, List.mem_singleton] at hc
    subst hc; exact blk_lt h1
  · simp only [mapO, fps_cons, fps_nil, List.append_nil, List.mem_singleton] at hc
    subst hc
    exact .inl (by simp [rangeO])
theorem adel_filter {es : List (κ × Value × Nat)} (hk : (es.map (·.1)).Nodup) (hb : (es.map (·.2.2)).Nodup) {e : κ × Value × Nat} (he : e ∈ es) :
    (es.filter fun x => !(x.2.2 == e.2.2)).map kv = adel (es.map kv) e.1 := by
  induction es with
  | nil => cases he
  | cons x t ih =>
    simp only [List.map_cons, List.nodup_cons] at hk hb
    rcases List.mem_cons.1 he with rfl | he'
    · have hall : ∀ y ∈ t, (!(y.2.2 == e.2.2)) = true := fun y hy => by
        simp only [Bool.not_eq_true', beq_eq_false_iff_ne, ne_eq]
        exact fun hc => hb.1 (hc ▸ List.mem_map.2 ⟨y, hy, rfl⟩)
      rw [List.filter_cons, if_neg (by simp), List.filter_eq_self.2 hall]
      simp [adel, kv]
    · have h1 : x.2.2 ≠ e.2.2 := fun hc => hb.1 (hc ▸ List.mem_map.2 ⟨e, he', rfl⟩)
      have h2 : e.1 ≠ x.1 := fun hc => hk.1 (hc ▸ List.mem_map.2 ⟨e, he', rfl⟩)
      rw [List.filter_cons, if_pos (by simpa using h1)]
      simp only [List.map_cons, kv, adel]
      rw [if_neg h2]
      congr 1
      exact ih hk.2 hb.2 he'
omit [DecidableEq κ] in
theorem find_born {es : List (κ × Value × Nat)} {e : κ × Value × Nat} (hes : e ∈ es) (hnd : (es.map (·.2.2)).Nodup) :
    (es.map (ment enc)).toArray.find? (fun x => x.born == e.2.2) = some (ment enc e) := by
  rw [List.find?_toArray]
  induction es with
  | nil => cases hes
  | cons x t ih =>
    simp only [List.map_cons, List.nodup_cons] at hnd
    simp only [List.map_cons, List.find?_cons]
    rcases List.mem_cons.1 hes with rfl | h
    · simp [ment]
    · have h1 : x.2.2 ≠ e.2.2 := fun hc => hnd.1 (hc ▸ List.mem_map.2 ⟨e, h, rfl⟩)
      have h2 : ((ment enc x).born == e.2.2) = false := by simpa [ment] using h1
      rw [h2]
      exact ih h hnd.2
theorem aget_mem {es : List (κ × Value × Nat)} (hnd : (es.map (·.1)).Nodup) {e : κ × Value × Nat} (he : e ∈ es) : aget (es.map kv) e.1 = some e.2.1 := by
  induction es with
  | nil => cases he
  | cons x t ih =>
    simp only [List.map_cons, List.nodup_cons] at hnd
    simp only [List.map_cons, kv, aget]
    rcases List.mem_cons.1 he with rfl | h
    · simp
    · have h1 : e.1 ≠ x.1 := fun hc => hnd.1 (hc ▸ List.mem_map.2 ⟨e, h, rfl⟩)
      rw [if_neg h1]
      exact ih hnd.2 h
/-- The next round, or the end. -/
theorem next_own {i b r ty : Nat} {l rest : List (κ × Value)} (H : St w0 F w L) (hi : L[i]? = some (rangeO enc b r l rest)) {K : Value → World → Prop}
    (hend : rest = [] → ∀ w', St w0 F w' (L.set i (rangeO enc b r l rest)) → Fr [b, r] w w' → K (.tuple #[.bool false]) w')
    (hK : ∀ k v, aget rest k = some v → aget l k = some v → ∀ w', St w0 F w' (L.set i (rangeO enc b r l (adel rest k))) → Fr [b, r] w w' →
      (Instr.entry (.pointer (some ⟨r, 0, none⟩))).run P w' = .ok (.tuple #[enc k, v]) w' → K (.tuple #[.bool true, enc k, v]) w') :
    rRun P (Instr.next (.pointer (some ⟨r, 0, none⟩)) false ty) w K := by
  obtain ⟨es, clock, seen, hb, hl, he, hr, hrest, hbr⟩ := (H.get hi : RangeAt enc w b r l rest)
  have hout : ∀ w' rest', Fr [b, r] w w' → RangeAt enc w' b r l rest' → St w0 F w' (L.set i (rangeO enc b r l rest')) := by
    intro w' rest' hf hR
    refine St.perm ?_ (perm_set _ hi)
    refine St.step (A := [rangeO enc b r l rest]) (A' := [rangeO enc b r l rest']) (H.perm (perm_front hi)) (by simpa [rangeO] using hf) ?_ (fun c hc => .inl (by simpa [rangeO] using hc))
    refine .cons hR (by simp [rangeO]; exact hbr) ?_ (by simp) (.nil _)
    intro c hc
    obtain ⟨_, _, _, h1, _, _, h4, _⟩ := hR
    simp only [rangeO, List.mem_cons, List.not_mem_nil, or_false] at hc
    rcases hc with rfl | rfl
    · exact blk_lt h1
    · exact blk_lt h4
  have hguard : (!seen.isEmpty && !(es.map (ment enc)).toArray.isEmpty && (es.map (ment enc)).toArray.all (fun e => decide (e.born ≥ clock))) = false := by
    cases es with
    | nil => simp
    | cons e t =>
      have := he.lt e (by simp)
      simp [ment]
      intro _ hc
      omega
  have hfil : ∀ (p : MapEntry → Bool), (es.map (ment enc)).toArray.filter p = ((es.filter fun e => p (ment enc e)).map (ment enc)).toArray := by
    intro p
    apply Array.ext'
    simp [List.filter_map, Function.comp_def]
  let left := es.filter fun e => !seen.contains e.2.2
  have hleft : ((es.map (ment enc)).toArray.filter fun e => !seen.contains e.born) = (left.map (ment enc)).toArray := hfil _
  have hltl : ∀ e ∈ left, e.2.2 < clock := fun e h => he.lt e (List.mem_filter.1 h).1
  have hold : ((left.map (ment enc)).toArray.filter fun e => decide (e.born < clock)) = (left.map (ment enc)).toArray := by
    apply Array.ext'
    simp only [Array.toList_filter, List.filter_map]
    congr 1
    exact List.filter_eq_self.2 (fun e h => decide_eq_true (hltl e h))
  have hnew : ((left.map (ment enc)).toArray.filter fun e => decide (e.born ≥ clock)) = #[] := by
    apply Array.ext'
    simp only [Array.toList_filter, List.filter_map]
    rw [List.filter_eq_nil_iff.2 (fun e h => by
      have h1 := hltl e h
      show ¬ (decide (e.2.2 ≥ clock) = true)
      rw [decide_eq_true_eq]; omega)]
    rfl
  cases hlc : left with
  | nil =>
    have hrest0 : rest = [] := by rw [← hrest]; show left.map kv = []; rw [hlc]; rfl
    refine rRun_intro (w' := w) (v := .tuple #[.bool false]) ?_ (hend hrest0 w (hout w rest (.refl _ w) ⟨es, clock, seen, hb, hl, he, hr, hrest, hbr⟩) (.refl _ w))
    simp only [Instr.next, Sem.run_bind, getObj, Sem.run, hr, hb, Result.andThen_ok, hguard, Bool.false_eq_true, if_false, hleft, hold, hnew]
    rw [hlc]
    simp [choose, Sem.run, Question.forced]
  | cons e0 et =>
    have hne : left ≠ [] := by rw [hlc]; simp
    have hpos : 0 < left.length := by rw [hlc]; simp
    have key : ∀ e ∈ left, ∀ (dw : World), dw.heap = w.heap → Fr [b, r] w (Sh.setBlk dw r (.mapIter (some b) clock (seen.push e.2.2) clock)) →
        K (.tuple #[.bool true, enc e.1, e.2.1]) (Sh.setBlk dw r (.mapIter (some b) clock (seen.push e.2.2) clock)) := by
      intro e hel dw hdw hfr
      have hes : e ∈ es := (List.mem_filter.1 hel).1
      have hbw : (Sh.setBlk dw r (.mapIter (some b) clock (seen.push e.2.2) clock)).heap[b]? = some (.map (es.map (ment enc)).toArray clock) := by
        rw [heap_setBlk_ne hbr, hdw, hb]
      have hrw : (Sh.setBlk dw r (.mapIter (some b) clock (seen.push e.2.2) clock)).heap[r]? = some (.mapIter (some b) clock (seen.push e.2.2) clock) :=
        heap_setBlk_same (by rw [hdw]; exact blk_lt hr)
      have hrest' : (es.filter fun x => !(seen.push e.2.2).contains x.2.2).map kv = adel rest e.1 := by
        rw [← hrest]
        have h1 : (es.filter fun x => !(seen.push e.2.2).contains x.2.2) = left.filter fun x => !(x.2.2 == e.2.2) := by
          show _ = (es.filter _).filter _
          rw [List.filter_filter]
          congr 1
          funext x
          by_cases hx : x.2.2 = e.2.2 <;> by_cases hy : x.2.2 ∈ seen <;> simp [hx, hy]
        rw [h1]
        have hsub : left.Sublist es := List.filter_sublist
        exact adel_filter ((hsub.map _).nodup he.keys) ((hsub.map _).nodup he.borns) hel
      refine hK e.1 e.2.1 ?_ ?_ _ (hout _ _ hfr ⟨es, clock, seen.push e.2.2, hbw, hl, he, hrw, hrest', hbr⟩) hfr ?_
      · rw [← hrest]
        have hsub : left.Sublist es := List.filter_sublist
        exact aget_mem ((hsub.map _).nodup he.keys) hel
      · rw [← hl]; exact aget_mem he.keys hes
      · have hfind := find_born (enc := enc) hes he.borns
        simp only [Instr.entry, Sem.run_bind, getObj, Sem.run, hrw, hbw, Result.andThen_ok, Array.back?_push, bne_self_eq_false, Bool.false_eq_true, if_false, hfind, Sem.run_pure]
        simp [ment]
    unfold rRun
    simp only [Instr.next, Sem.run_bind, getObj, Sem.run, hr, hb, Result.andThen_ok, hguard, Bool.false_eq_true, if_false, hleft, hold, hnew]
    have hcand : ((if (left.map (ment enc)).toArray.isEmpty = true then #[none] else #[]) ++ ((left.map (ment enc)).toArray ++ #[]).map some : Array (Option MapEntry)) = (left.map fun e => some (ment enc e)).toArray := by
      rw [if_neg (by simp [hne])]
      apply Array.ext'
      simp
    rw [hcand]
    simp only [List.size_toArray, List.length_map, choose, Sem.run]
    have hg : ∀ (j : Nat) (hj : j < left.length), (left.map fun e => some (ment enc e)).toArray[j]? = some (some (ment enc left[j])) := fun j hj => by simp [hj]
    have hfr : ∀ (e : κ × Value × Nat) (dw : World), Fr [b, r] w dw → Fr [b, r] w (Sh.setBlk dw r (.mapIter (some b) clock (seen.push e.2.2) clock)) := fun e dw hfd =>
      hfd.trans ((Fr.setBlk dw r _).mono (fun x hx => by simp at hx; simp [hx]))
    by_cases hfz : Question.forced (.mapNext left.length) = true
    · rw [if_pos hfz]
      simp only [Result.andThen_ok, hg 0 hpos, Sem.run_bind, setObj, Sem.run, hr, Sem.run_pure]
      exact key left[0] (List.getElem_mem hpos) w rfl (hfr _ w (.refl _ w))
    · rw [if_neg hfz]
      have hj : (Question.mapNext left.length).cut (w.tape w.drawn (Question.mapNext left.length)) < left.length := Nat.mod_lt _ hpos
      simp only [Result.andThen_ok, hg _ hj, Sem.run_bind, setObj, Sem.run, hr, Sem.run_pure]
      exact key _ (List.getElem_mem hj) w.drew rfl (hfr _ w.drew (Fr.drew [b, r] w))
end

/- Kinds of keys. -/
theorem bytes_beq (a b : ByteArray) : (a == b) = decide (a = b) := by
  by_cases h : a = b
  · subst h
    simp only [decide_true]
    show (a.data == a.data) = true
    simp
  · simp only [h, decide_false]
    show (a.data == b.data) = false
    rw [beq_eq_false_iff_ne]
    intro hc
    exact h (by cases a; cases b; simp_all)
theorem keyTy_string {K : TypeId} (h : P.underlying K = some .string) : KeyTy P K (fun s : ByteArray => Value.string s) where
  under := ⟨_, h, .inl fun a b => by simp only [Instr.sameNow, bytes_beq]⟩
  eq a b w := by
    have : ∀ d, (Op.equalIn (d + 1) K (.string a) (.string b)).run P w = .ok (a == b) w := fun d => by simp [Op.equalIn, run_underlying' h]
    have h2 : (Op.equal K (.string a) (.string b)).run P w = .ok (a == b) w := this 9999
    rw [h2, bytes_beq]
  check e a w := by
    have : ∀ d, (Instr.checkKey e (d + 1) K (.string a)).run P w = .ok () w := fun d => by simp [Instr.checkKey, run_underlying' h]
    exact this 9999
  same a := by simp [Instr.sameBits, bytes_beq]
  inj a b h := by cases h; rfl
theorem keyTy_int {K : TypeId} {k : IntKind} (h : P.underlying K = some (.int k)) : KeyTy P K (fun s : Int => Value.int k s) where
  under := ⟨_, h, .inl fun a b => by
    simp only [Instr.sameNow, if_true]
    congr 1⟩
  eq a b w := by
    have : ∀ d, (Op.equalIn (d + 1) K (.int k a) (.int k b)).run P w = .ok (a == b) w := fun d => by simp [Op.equalIn, run_underlying' h]
    have h2 : (Op.equal K (.int k a) (.int k b)).run P w = .ok (a == b) w := this 9999
    rw [h2]; rfl
  check e a w := by
    have : ∀ d, (Instr.checkKey e (d + 1) K (.int k a)).run P w = .ok () w := fun d => by simp [Instr.checkKey, run_underlying' h]
    exact this 9999
  same a := by simp [Instr.sameBits]
  inj a b h := by cases h; rfl
end Go.Sh
