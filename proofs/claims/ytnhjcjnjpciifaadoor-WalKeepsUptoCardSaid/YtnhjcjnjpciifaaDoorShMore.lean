/- More words: what the caller's memory shows. -/
import Derived.Test.YtnhjcjnjpciifaaDoorShLift
namespace Go.Sh
def ints (l : List Int) : List Value := l.map (Value.int .i64)
/-- What the caller showed, beside what a call within hands over. -/
theorem St.extC {w w' : World} {A B : List Own} {sz : Nat} {v : Value} {cs : List Value} (H : St w [] w' (A ++ B)) (hsz : 0 < sz) (hr : Reads w sz v cs) : Ext w' A sz v cs :=
  ⟨hr.of fun b hb => H.fr.block b (hr.lt hsz b hb) (by simp), fun b hb ha => by
    rcases H.own b (by rw [fps_append]; exact List.mem_append_left _ ha) with h | h
    · cases h
    · have := hr.lt hsz b hb
      omega⟩
theorem St.readC {w w' : World} {L : List Own} {sz : Nat} {v : Value} {cs : List Value} (H : St w [] w' L) (hsz : 0 < sz) (hr : Reads w sz v cs) : Reads w' sz v cs :=
  hr.of fun b hb => H.fr.block b (hr.lt hsz b hb) (by simp)
theorem Reads.len {w : World} {a : Option Addr} {n c : Nat} {cs : List Value} (h : Reads w 1 (.slice a n c) cs) : n = cs.length := by
  obtain ⟨_, _, _, he, h1, _⟩ := h
  cases he
  simpa using h1
theorem SliceAt.len {w : World} {E n c : Nat} {a : Option Addr} {cs : List Value} (h : SliceAt w E 1 (.slice a n c) cs) : n = cs.length := h.reads.len
theorem aget_adel_self {κ β : Type} [DecidableEq κ] {l : List (κ × β)} {k : κ} (h : (l.map (·.1)).Nodup) : aget (adel l k) k = none := by
  induction l with
  | nil => rfl
  | cons e t ih =>
    obtain ⟨a, u⟩ := e
    rw [List.map_cons, List.nodup_cons] at h
    simp only [adel]
    split
    · rename_i hk
      subst hk
      rw [aget_none]
      intro x hx he
      exact h.1 (List.mem_map.2 ⟨x, hx, he⟩)
    · rename_i hk
      simp only [aget, hk, if_false]
      exact ih h.2
section
variable {w0 w : World} {F : List Nat} {L R : List Own}
theorem St.cut {E n cap k : Nat} {x : Option Addr} {cs : List Value} (H : St w0 F w (sliceO E 1 (.slice x n cap) cs :: L)) (hk : k ≤ n) : St w0 F w (sliceO E 1 (.slice x k k) (cs.take k) :: L) := by
  have hat : SliceAt w E 1 (.slice x n cap) cs := H.has.all _ (List.mem_cons_self ..)
  obtain ⟨_, _, _, he, h1, h2, h3⟩ := hat
  cases he
  have hnew : SliceAt w E 1 (.slice x k k) (cs.take k) := by
    refine ⟨_, _, _, rfl, by rw [List.length_take]; omega, Nat.le_refl _, ?_⟩
    rcases h3 with h3 | ⟨b, cc, fz, rfl, hblk, hcs, hcells, hfz⟩
    · exact .inl (by omega)
    · refine .inr ⟨b, cc, fz, rfl, hblk, by omega, fun i hi => ?_, ?_⟩
      · rw [List.length_take] at hi
        rw [List.getElem?_take_of_lt (by omega)]
        exact hcells i (by omega)
      · rcases hfz with h | h
        · exact .inl h
        · exact .inr (by omega)
  have hsub : ∀ b ∈ sfp (.slice x k k), b ∈ sfp (.slice x n cap) := by
    intro b hb
    cases x with
    | none => simp [sfp] at hb
    | some a =>
      cases k with
      | zero => simp [sfp] at hb
      | succ k =>
        obtain ⟨q, rfl⟩ : ∃ q, cap = q + 1 := ⟨cap - 1, by omega⟩
        simpa [sfp] using hb
  refine St.step (A := [sliceO E 1 (.slice x n cap) cs]) (A' := [sliceO E 1 (.slice x k k) (cs.take k)]) H (.refl _ _) ?_ (fun b hb => .inl (by simpa [sliceO] using hsub b (by simpa [sliceO] using hb)))
  exact Has.cons (o := sliceO E 1 (.slice x k k) (cs.take k)) hnew (sfp_nodup (.slice x k k)) hnew.lt (by simp) (.nil _)
end
end Go.Sh
