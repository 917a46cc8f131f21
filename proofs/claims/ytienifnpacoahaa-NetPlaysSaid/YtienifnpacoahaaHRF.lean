/- Acts as an argument hands them in, opened. -/
import Derived.Test.YtienifnpacoahaaHL
import Derived.Test.YtienifnpacoahaaShLift
namespace Go.Proofs.Ytienifnpacoahaa
open Go.ChangeShapes Go.WideShapes Go.ChangeAt Go.RowKit Go.Sh

theorem cellsA3 : Try.prog.cellsOf 3 = 1 := by kernel_rfl
theorem cellsA5 : Try.prog.cellsOf 5 = 1 := by kernel_rfl
theorem cellsA22 : Try.prog.cellsOf 22 = 1 := by kernel_rfl
theorem cellsA37 : Try.prog.cellsOf 37 = 1 := by kernel_rfl
theorem cellsA39 : Try.prog.cellsOf 39 = 6 := by kernel_rfl
section
variable {H : Type} {enc : TypeId × Value → H} {w : World} {base : Nat} {sp : Nat → Bool} {held : Bool}
/-- One act. -/
theorem act_open {fuel : Nat} {cs : List Value} {x : DataW H × List MemPlace} (hsp : ∀ b, sp b = true) (h : DataW.trod enc Try.prog w base sp held fuel 39 cs = some x) :
    ∃ a : ActR, cs = a.cells ∧ a.ok w := by
  obtain ⟨xs, n, rfl, _, hlen, hxs, hf⟩ := DataW.trod_struct Try.underlying39 h
  rw [cellsA39] at hlen
  match cs, hlen with
  | [c0, c1, c2, c3, c4, c5], _ =>
    have h0 : DataW.trod enc Try.prog w base sp held n 3 (([c0, c1, c2, c3, c4, c5].drop 0).take (Try.prog.cellsOf 3)) = xs[0]? := hf 0 _ rfl
    rw [cellsA3] at h0
    have h1 : DataW.trod enc Try.prog w base sp held n 3 (([c0, c1, c2, c3, c4, c5].drop 1).take (Try.prog.cellsOf 3)) = xs[1]? := hf 1 _ rfl
    rw [cellsA3] at h1
    have h2 : DataW.trod enc Try.prog w base sp held n 3 (([c0, c1, c2, c3, c4, c5].drop 2).take (Try.prog.cellsOf 3)) = xs[2]? := hf 2 _ rfl
    rw [cellsA3] at h2
    have h3 : DataW.trod enc Try.prog w base sp held n 3 (([c0, c1, c2, c3, c4, c5].drop 3).take (Try.prog.cellsOf 3)) = xs[3]? := hf 3 _ rfl
    rw [cellsA3] at h3
    have h4 : DataW.trod enc Try.prog w base sp held n 37 (([c0, c1, c2, c3, c4, c5].drop 4).take (Try.prog.cellsOf 37)) = xs[4]? := hf 4 _ rfl
    rw [cellsA37] at h4
    have h5 : DataW.trod enc Try.prog w base sp held n 22 (([c0, c1, c2, c3, c4, c5].drop 5).take (Try.prog.cellsOf 22)) = xs[5]? := hf 5 _ rfl
    rw [cellsA22] at h5
    have hl : xs.length = 6 := hxs
    obtain ⟨x0, e0⟩ : ∃ y, xs[0]? = some y := ⟨_, List.getElem?_eq_getElem (by omega)⟩
    obtain ⟨x1, e1⟩ : ∃ y, xs[1]? = some y := ⟨_, List.getElem?_eq_getElem (by omega)⟩
    obtain ⟨x2, e2⟩ : ∃ y, xs[2]? = some y := ⟨_, List.getElem?_eq_getElem (by omega)⟩
    obtain ⟨x3, e3⟩ : ∃ y, xs[3]? = some y := ⟨_, List.getElem?_eq_getElem (by omega)⟩
    obtain ⟨x4, e4⟩ : ∃ y, xs[4]? = some y := ⟨_, List.getElem?_eq_getElem (by omega)⟩
    obtain ⟨x5, e5⟩ : ∃ y, xs[5]? = some y := ⟨_, List.getElem?_eq_getElem (by omega)⟩
    rw [e0] at h0
    rw [e1] at h1
    rw [e2] at h2
    rw [e3] at h3
    rw [e4] at h4
    rw [e5] at h5
    obtain ⟨z0, g0, _⟩ := DataW.trod_int Try.underlying3 h0
    obtain ⟨z1, g1, _⟩ := DataW.trod_int Try.underlying3 h1
    obtain ⟨z2, g2, _⟩ := DataW.trod_int Try.underlying3 h2
    obtain ⟨z3, g3, _⟩ := DataW.trod_int Try.underlying3 h3
    obtain ⟨ta, tn, tc, tos, g4, r4, _, _⟩ := reads_ints Try.underlying37 Try.underlying3 cellsA3 hsp h4
    obtain ⟨ba, bn, bc, bs, g5, r5, _⟩ := reads_bytes Try.underlying22 Try.underlying5 cellsA5 hsp h5
    refine ⟨⟨z0, z1, z2, z3, ta, tn, tc, tos, ba, bn, bc, bs⟩, ?_, r4, r5⟩
    simp at g0 g1 g2 g3 g4 g5
    simp [ActR.cells, g0, g1, g2, g3, g4, g5]
/-- All acts of an argument. -/
theorem acts_open {fuel : Nat} {cs : List Value} {x : DataW H × List MemPlace} (hsp : ∀ b, sp b = true) (h : DataW.trod enc Try.prog w base sp held fuel 35 cs = some x) :
    ∃ (a : Option Addr) (n c : Nat) (l : List ActR), cs = [.slice a n c] ∧ ActsAt w (.slice a n c) l ∧ l.length ≤ maxLen := by
  rcases DataW.trod_slice Try.underlying35 h with ⟨hcs, _⟩ | ⟨a, len, cap, elems, rest, n, _, hcs, _, _, hl, hm, hlen, hel, _, _⟩
  · exact ⟨none, 0, 0, [], hcs, ⟨⟨none, 0, 0, rfl, rfl, .inl rfl⟩, fun x hx => by cases hx⟩, Nat.zero_le _⟩
  · have each : ∀ i, i < len → ∃ act : ActR, (∀ j c, act.cells[j]? = some c → w.cell? ((a.add (i * 6)).add j) = some c) ∧ act.ok w := by
      intro i hi
      have h1 := hel i hi
      rw [List.getElem?_eq_getElem (by omega), Option.bind_eq_some_iff, cellsA39] at h1
      obtain ⟨cs', hcs', ht⟩ := h1
      obtain ⟨act, rfl, hok⟩ := act_open hsp ht
      refine ⟨act, fun j c hj => ?_, hok⟩
      have h2 := (World.cells?_some hcs').2.2 j (by
        have := (List.getElem?_eq_some_iff.1 hj).1
        simpa [ActR.cells] using this)
      rw [h2, hj]
    let f : (i : Nat) → i < len → ActR := fun i hi => Classical.choose (each i hi)
    have hf : ∀ i (hi : i < len), (∀ j c, (f i hi).cells[j]? = some c → w.cell? ((a.add (i * 6)).add j) = some c) ∧ (f i hi).ok w := fun i hi => Classical.choose_spec (each i hi)
    let l : List ActR := List.ofFn fun i : Fin len => f i.1 i.2
    refine ⟨some a, len, cap, l, hcs, ⟨⟨_, _, _, rfl, by simp [l], .inr ⟨a, rfl, fun i x hi => ?_⟩⟩, fun x hx => ?_⟩, by simp [l]; omega⟩
    · obtain ⟨hi1, rfl⟩ := List.getElem?_eq_some_iff.1 hi
      have hi2 : i < len := by simpa [l] using hi1
      have := (hf i hi2).1
      simpa [l] using this
    · obtain ⟨i, rfl⟩ := List.mem_ofFn.1 hx
      exact (hf i.1 i.2).2
end
end Go.Proofs.Ytienifnpacoahaa
