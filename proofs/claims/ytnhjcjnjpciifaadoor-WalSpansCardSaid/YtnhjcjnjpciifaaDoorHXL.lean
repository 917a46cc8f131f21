/- A row of truth values as an argument, opened. -/
import Derived.Test.YtnhjcjnjpciifaaDoorHXC
import Derived.Test.YtnhjcjnjpciifaaDoorHWL
namespace Go.Proofs.YtnhjcjnjpciifaaDoor
open Go.ChangeShapes Go.WideShapes Go.ChangeAt Go.RowKit Go.Sh
theorem cellsB4 : Tryd.prog.cellsOf 4 = 1 := by kernel_rfl
section
variable {H : Type} {enc : TypeId × Value → H} {w : World} {base : Nat} {sp : Nat → Bool} {held : Bool}
theorem bools_open {fuel : Nat} {cs : List Value} {x : DataW H × List MemPlace} (_ : ∀ b, sp b = true) (h : DataW.trod enc Tryd.prog w base sp held fuel 61 cs = some x) :
    ∃ (a : Option Addr) (n c : Nat) (l : List Bool), cs = [.slice a n c] ∧ Reads w 1 (.slice a n c) (bools l) ∧ l.length ≤ maxLen := by
  obtain ⟨a, n, c, l, hcs, hel, hl, _⟩ := open_elems (cells := fun b : Bool => [.bool b]) (ok := fun _ _ => True) (W := fun _ _ => True) Tryd.underlying61 cellsB4
    (fun f cs x hx => by
      obtain ⟨b, hb⟩ : ∃ b, cs = [.bool b] := by
        cases f with
        | zero => simp [DataW.trod] at hx
        | succ f =>
          simp only [DataW.trod, Tryd.underlying4] at hx
          split at hx <;> first | (cases hx; done) | skip
          all_goals first | exact ⟨_, rfl⟩ | (cases hx; done) | skip
          all_goals simp_all
      exact ⟨b, hb, trivial, trivial⟩) h
  subst hcs
  have hc := slice_cap Tryd.underlying61 h
  refine ⟨a, n, c, l, rfl, ?_, hl⟩
  obtain ⟨_, _, _, he, hn, h3⟩ := hel.shows
  cases he
  refine ⟨a, n, c, rfl, by simp [hn, bools], hc, ?_⟩
  rcases h3 with h3 | ⟨ad, rfl, h4⟩
  · exact .inl h3
  · refine .inr ⟨ad, rfl, fun j hj => ?_⟩
    have hj2 : j < l.length := by simpa [bools] using hj
    obtain ⟨q, hq⟩ : ∃ q, l[j]? = some q := ⟨_, List.getElem?_eq_getElem hj2⟩
    have h5 := h4 j q hq 0 (.bool q) rfl
    rw [addr_add_add, Nat.mul_one, Nat.add_zero] at h5
    rw [h5, bools, List.getElem?_map, hq]; rfl
end
end Go.Proofs.YtnhjcjnjpciifaaDoor
