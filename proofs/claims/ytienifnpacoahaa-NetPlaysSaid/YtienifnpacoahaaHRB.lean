/- links: what Links tells is what the reference counts. -/
import Derived.Test.YtienifnpacoahaaHRA
import Derived.Laws.StructEq
namespace Go.Proofs.Ytienifnpacoahaa
open Go.Sh

theorem mem_aget' {β : Type} {l : List ((Int × Int) × β)} (hn : (l.map (·.1)).Nodup) {e : (Int × Int) × β} (he : e ∈ l) : aget l e.1 = some e.2 := by
  induction l with
  | nil => cases he
  | cons y t ih =>
    obtain ⟨a, u⟩ := y
    rw [List.map_cons, List.nodup_cons] at hn
    rcases List.mem_cons.1 he with rfl | he
    · simp [aget]
    · have hne : e.1 ≠ a := fun hc => hn.1 (List.mem_map.2 ⟨e, he, hc⟩)
      simp only [aget, hne, if_false]
      exact ih hn.2 he
theorem mem_of_aget {β : Type} {l : List ((Int × Int) × β)} {k : Int × Int} {x : β} (h : aget l k = some x) : (k, x) ∈ l := by
  induction l with
  | nil => cases h
  | cons y t ih =>
    obtain ⟨a, u⟩ := y
    simp only [aget] at h
    split at h
    · rename_i hk; cases h; subst hk; exact List.mem_cons_self ..
    · exact List.mem_cons_of_mem _ (ih h)
def ltP (x : LinkR) (f t : Int) : Prop := x.1 < f ∨ (x.1 = f ∧ x.2.1 < t)
/-- What is known of the links that are told. -/
structure Told (nd : Int) (rl : List RMsg) (d : List LinkR) : Prop where
  sorted : d.Pairwise fun x y => ¬ ltL y x
  keys : (d.map fun x => (x.1, x.2.1)).Nodup
  cnt : ∀ x ∈ d, x.2.2 = (cnt rl x.1 x.2.1 : Int) ∧ x.2.2 ≠ 0 ∧ (0 ≤ x.1 ∧ x.1 < nd) ∧ 0 ≤ x.2.1 ∧ x.2.1 < nd
  all : ∀ f t, Proofs.Ytienifnpacoahaa.cnt rl f t ≠ 0 → (f, t, (Proofs.Ytienifnpacoahaa.cnt rl f t : Int)) ∈ d
theorem Same.told {nd bd : Int} {l : Bags} {rl : List RMsg} {d : List LinkR} (h : Same nd bd l rl) (hn : (l.map (·.1)).Nodup) (hd : srtL (l.map linkOf) d) : Told nd rl d := by
  have hrow : ∀ e ∈ l, e.2.2.length = Proofs.Ytienifnpacoahaa.cnt rl e.1.1 e.1.2 := fun e he => by
    rw [← h.len]
    unfold row
    rw [show (e.1.1, e.1.2) = e.1 from rfl, mem_aget' hn he]
    rfl
  have hin : ∀ f t, Proofs.Ytienifnpacoahaa.cnt rl f t ≠ 0 → (0 ≤ f ∧ f < nd) ∧ 0 ≤ t ∧ t < nd := fun f t hc => by
    have hpos : 0 < (rl.filter (isK f t)).length := Nat.pos_of_ne_zero hc
    obtain ⟨m, hm⟩ := List.exists_mem_of_length_pos hpos
    obtain ⟨hm1, hm2⟩ := List.mem_filter.1 hm
    obtain ⟨h1, h2⟩ := isK_iff.1 hm2
    have := h.ref.inn m hm1
    rw [h1, h2] at this
    exact this
  refine ⟨hd.2, ?_, fun x hx => ?_, fun f t hc => ?_⟩
  · have h1 : (d.map fun x => (x.1, x.2.1)).Perm ((l.map linkOf).map fun x => (x.1, x.2.1)) := hd.1.map _
    rw [h1.nodup_iff, List.map_map]
    exact hn
  · obtain ⟨e, he, rfl⟩ := List.mem_map.1 (hd.1.mem_iff.1 hx)
    have h1 := hrow e he
    have h2 : e.2.2.length ≠ 0 := fun hc => h.rows e he (List.eq_nil_of_length_eq_zero hc)
    have h3 := hin e.1.1 e.1.2 (by omega)
    refine ⟨?_, ?_, h3⟩
    · show (e.2.2.length : Int) = _
      rw [h1]; rfl
    · show (e.2.2.length : Int) ≠ 0
      omega
  · refine hd.1.mem_iff.2 (List.mem_map.2 ?_)
    have hl := h.len f t
    cases hg : aget l (f, t) with
    | none => unfold row at hl; rw [hg] at hl; exact absurd hl.symm hc
    | some x =>
      refine ⟨((f, t), x), mem_of_aget hg, ?_⟩
      unfold row at hl
      rw [hg] at hl
      show (f, t, (x.2.length : Int)) = _
      rw [← hl]; rfl
structure At (d : List LinkR) (f t : Int) (k : Nat) : Prop where
  le : k ≤ d.length
  before : ∀ x ∈ d.take k, ltP x f t
  behind : ∀ x ∈ d.drop k, ¬ ltP x f t
theorem At.skip {nd : Int} {rl : List RMsg} {d : List LinkR} {f t : Int} {k : Nat} (h : At d f t k) (hd : Told nd rl d) (hc : cnt rl f t = 0) : At d f (t + 1) k := by
  refine ⟨h.le, fun x hx => ?_, fun x hx hl => ?_⟩
  · have := h.before x hx
    unfold ltP at this ⊢
    omega
  · have h1 := h.behind x hx
    obtain ⟨h2, h3, _⟩ := hd.cnt x (List.mem_of_mem_drop hx)
    unfold ltP at h1 hl
    have e1 : x.1 = f := by omega
    have e2 : x.2.1 = t := by omega
    rw [e1, e2, hc] at h2
    exact h3 h2
theorem At.next {nd : Int} {rl : List RMsg} {d : List LinkR} {f t : Int} {k : Nat} (h : At d f t k) (hd : Told nd rl d) (hc : cnt rl f t ≠ 0) : k < d.length ∧ d[k]? = some (f, t, (cnt rl f t : Int)) ∧ At d f (t + 1) (k + 1) := by
  have hx := hd.all f t hc
  have hxd : (f, t, (cnt rl f t : Int)) ∈ d.drop k := by
    rw [← List.take_append_drop k d] at hx
    rcases List.mem_append.1 hx with h1 | h1
    · have := h.before _ h1
      unfold ltP at this
      simp at this
    · exact h1
  have hk : k < d.length := by
    rcases Nat.lt_or_ge k d.length with h1 | h1
    · exact h1
    · rw [List.drop_of_length_le h1] at hxd; cases hxd
  have hdr := List.drop_eq_getElem_cons hk
  have hsort : (d.drop k).Pairwise fun x y => ¬ ltL y x := hd.sorted.sublist (List.drop_sublist k d)
  have hkeys : ((d.drop k).map fun x => (x.1, x.2.1)).Nodup := ((List.drop_sublist k d).map _).nodup hd.keys
  rw [hdr] at hxd hsort hkeys
  rw [List.pairwise_cons] at hsort
  rw [List.map_cons, List.nodup_cons] at hkeys
  have hkm : d[k] ∈ d.drop k := by rw [hdr]; exact List.mem_cons_self ..
  have hb := h.behind _ hkm
  have heq : d[k] = (f, t, (cnt rl f t : Int)) := by
    rcases List.mem_cons.1 hxd with h1 | h1
    · exact h1.symm
    · exfalso
      have h2 := hsort.1 _ h1
      unfold ltL at h2
      unfold ltP at hb
      have e1 : (d[k]).1 = f := by simp at h2; omega
      have e2 : (d[k]).2.1 = t := by simp at h2; omega
      exact hkeys.1 (List.mem_map.2 ⟨_, h1, by simp [e1, e2]⟩)
  refine ⟨hk, by rw [List.getElem?_eq_getElem hk, heq], ⟨hk, fun x hx => ?_, fun x hx hl => ?_⟩⟩
  · rw [List.take_succ_eq_append_getElem hk, List.mem_append, List.mem_singleton] at hx
    rcases hx with hx | rfl
    · have := h.before x hx
      unfold ltP at this ⊢
      omega
    · rw [heq]
      unfold ltP
      simp
      omega
  · have h1 : ¬ ltP x f t := h.behind x (by rw [hdr]; exact List.mem_cons_of_mem _ hx)
    unfold ltP at h1 hl
    have e1 : x.1 = f := by omega
    have e2 : x.2.1 = t := by omega
    refine hkeys.1 (List.mem_map.2 ⟨x, hx, ?_⟩)
    rw [heq, e1, e2]
theorem At.row {nd : Int} {rl : List RMsg} {d : List LinkR} {f : Int} {k : Nat} (h : At d f nd k) (hd : Told nd rl d) : At d (f + 1) 0 k := by
  refine ⟨h.le, fun x hx => ?_, fun x hx hl => ?_⟩
  · have := h.before x hx
    unfold ltP at this ⊢
    omega
  · have h1 := h.behind x hx
    obtain ⟨_, _, _, h2⟩ := hd.cnt x (List.mem_of_mem_drop hx)
    unfold ltP at h1 hl
    omega
theorem At.done {nd : Int} {rl : List RMsg} {d : List LinkR} {k : Nat} (h : At d nd 0 k) (hd : Told nd rl d) : k = d.length := by
  rcases Nat.lt_or_ge k d.length with h1 | h1
  · have hm : d[k] ∈ d.drop k := by rw [List.drop_eq_getElem_cons h1]; exact List.mem_cons_self ..
    have h2 := h.behind _ hm
    obtain ⟨_, _, h3, _⟩ := hd.cnt _ (List.getElem_mem h1)
    unfold ltP at h2
    omega
  · have := h.le
    omega
theorem At.start {nd : Int} {rl : List RMsg} {d : List LinkR} (hd : Told nd rl d) : At d 0 0 0 := by
  refine ⟨Nat.zero_le _, fun x hx => by simp at hx, fun x hx hl => ?_⟩
  obtain ⟨_, _, h1, h2⟩ := hd.cnt x (List.mem_of_mem_drop hx)
  unfold ltP at hl
  omega

theorem neq_link (a b c x y z : Int) (w : World) : (do eqGuard .neq 69 (.tmp 42) (.tmp 46) (.agg #[.int .i64 a, .int .i64 b, .int .i64 c]) (.agg #[.int .i64 x, .int .i64 y, .int .i64 z]); binOp .neq 69 (.agg #[.int .i64 a, .int .i64 b, .int .i64 c]) (.agg #[.int .i64 x, .int .i64 y, .int .i64 z]) : Sem Value).run Try.prog w = .ok (.bool (!(a == x && b == y && c == z))) w := by
  have u3 := Try.underlying3
  have a3 := Try.isAgg3
  have z3 := Try.sizeOf3
  have hS : Try.prog.underlying 69 = some (.struct (Try.prog.fieldsOf 69)) := by kernel_rfl
  have hp : Try.prog.stoodInHeld 69 = false := by kernel_rfl
  have he : (Op.equalIn 10000 69 (.agg #[.int .i64 a, .int .i64 b, .int .i64 c]) (.agg #[.int .i64 x, .int .i64 y, .int .i64 z])).run Try.prog w = .ok (a == x && b == y && c == z) w := by
    rw [show (10000 : Nat) = 9999 + 1 from rfl, run_equalIn_agg w 9999 69 _ _ hS hp]
    simp only [Program.fieldsOf, Try.underlying69]
    go_simp
    by_cases h1 : a = x <;> by_cases h2 : b = y <;> by_cases h3 : c = z <;> simp [h1, h2, h3]
  have hg := run_eqGuard_agg (P := Try.prog) w .neq 69 (.tmp 42) (.tmp 46) #[.int .i64 a, .int .i64 b, .int .i64 c] #[.int .i64 x, .int .i64 y, .int .i64 z] (by kernel_rfl)
  rw [Sem.run_bind, hg, Result.andThen_ok, run_neq_struct, he]
  rfl
end Go.Proofs.Ytienifnpacoahaa
