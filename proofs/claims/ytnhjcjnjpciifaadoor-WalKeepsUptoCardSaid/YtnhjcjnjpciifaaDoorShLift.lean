/- Arguments as they are handed in, opened; a law's walk as the statement wants it. -/
import Derived.Test.YtnhjcjnjpciifaaDoorShSorts
import Derived.ProofKit
namespace Go.Sh
open Go.ChangeShapes Go.WideShapes Go.ChangeAt Go.RowKit
variable {P : Program}

section
variable {H : Type} {enc : TypeId × Value → H} {w : World} {base : Nat} {sp : Nat → Bool} {held : Bool}
theorem reads_ints {fuel : Nat} {cs : List Value} {x : DataW H × List MemPlace} {t e : TypeId} {k : IntKind} (ht : P.underlying t = some (.slice e)) (he : P.underlying e = some (.int k)) (hc : P.cellsOf e = 1)
    (hsp : ∀ b, sp b = true) (h : DataW.trod enc P w base sp held fuel t cs = some x) :
    ∃ (a : Option Addr) (n m : Nat) (zs : List Int), cs = [.slice a n m] ∧ Sh.Reads w 1 (.slice a n m) (zs.map (Value.int k)) ∧ (∀ z ∈ zs, (Lit.int k z).wf = true) ∧ zs.length ≤ maxLen := by
  rcases open_ints ht he hc h with ⟨hcs, _⟩ | ⟨a, len, cap, zs, hcs, _, hl, hm, hz, _, hcell, hwz⟩
  · exact ⟨none, 0, 0, [], hcs, ⟨none, 0, 0, rfl, rfl, Nat.le_refl _, .inl rfl⟩, (fun z hz => by cases hz), Nat.zero_le _⟩
  · rw [hsp, if_pos rfl] at hz
    refine ⟨some a, len, cap, zs.take len, hcs, ⟨_, _, _, rfl, by simp; omega, hl, .inr ⟨a, rfl, fun j hj => ?_⟩⟩, fun z hzm => hwz z (List.mem_of_mem_take hzm), by rw [List.length_take]; omega⟩
    have hj1 : j < min len zs.length := by simpa using hj
    have hj2 : j < len := by omega
    rw [hcell j (by omega)]
    simp [hj2, List.getElem?_eq_getElem (show j < zs.length by omega)]
theorem reads_bytes {fuel : Nat} {cs : List Value} {x : DataW H × List MemPlace} {t e : TypeId} (ht : P.underlying t = some (.slice e)) (he : P.underlying e = some (.int .u8)) (hc : P.cellsOf e = 1)
    (hsp : ∀ b, sp b = true) (h : DataW.trod enc P w base sp held fuel t cs = some x) :
    ∃ (a : Option Addr) (n m : Nat) (bs : List UInt8), cs = [.slice a n m] ∧ Sh.Reads w 1 (.slice a n m) (Sh.bvals bs) ∧ bs.length ≤ maxLen := by
  obtain ⟨a, n, m, zs, hcs, hr, hw, hl⟩ := reads_ints ht he hc hsp h
  refine ⟨a, n, m, zs.map fun z => UInt8.ofNat z.toNat, hcs, ?_, by simpa using hl⟩
  have hbv : Sh.bvals (zs.map fun z => UInt8.ofNat z.toNat) = zs.map (Value.int .u8) := by
    unfold Sh.bvals
    rw [List.map_map]
    apply List.map_congr_left
    intro z hzm
    have hx : 0 ≤ z ∧ z ≤ 255 := by simpa [Lit.wf, IntKind.min, IntKind.max, IntKind.signed, IntKind.bits] using hw z hzm
    simp only [Function.comp_apply, Sh.bval, UInt8.toNat_ofNat']
    congr 1
    omega
  rw [hbv]
  exact hr
theorem reads_strs {fuel : Nat} {cs : List Value} {x : DataW H × List MemPlace} {t e : TypeId} (ht : P.underlying t = some (.slice e)) (he : P.underlying e = some .string) (hc : P.cellsOf e = 1)
    (hsp : ∀ b, sp b = true) (h : DataW.trod enc P w base sp held fuel t cs = some x) :
    ∃ (a : Option Addr) (n m : Nat) (ss : List ByteArray), cs = [.slice a n m] ∧ Sh.Reads w 1 (.slice a n m) (ss.map Value.string) ∧ (∀ s ∈ ss, s.size ≤ maxLen) ∧ ss.length ≤ maxLen := by
  rcases open_strings ht he hc h with ⟨hcs, _⟩ | ⟨a, len, cap, zs, hcs, _, hl, hm, hz, _, hcell, hwz⟩
  · exact ⟨none, 0, 0, [], hcs, ⟨none, 0, 0, rfl, rfl, Nat.le_refl _, .inl rfl⟩, (fun z hz => by cases hz), Nat.zero_le _⟩
  · rw [hsp, if_pos rfl] at hz
    refine ⟨some a, len, cap, zs.take len, hcs, ⟨_, _, _, rfl, by simp; omega, hl, .inr ⟨a, rfl, fun j hj => ?_⟩⟩, fun z hzm => hwz z (List.mem_of_mem_take hzm), by rw [List.length_take]; omega⟩
    have hj1 : j < min len zs.length := by simpa using hj
    have hj2 : j < len := by omega
    rw [hcell j (by omega)]
    simp [hj2, List.getElem?_eq_getElem (show j < zs.length by omega)]
end
theorem i64_range {z : Int} (h : (Lit.int .i64 z).wf = true) : -9223372036854775808 ≤ z ∧ z < 9223372036854775808 := by
  have h' : -9223372036854775808 ≤ z ∧ z ≤ 9223372036854775807 := by simpa [Lit.wf, IntKind.min, IntKind.max, IntKind.signed, IntKind.bits] using h
  omega
theorem calls_true {f : FuncId} {args : Array Value} {w : World} (h : CallS P f args w [] fun r _ A => r = .bool true ∧ A = []) :
    Calls P f args w fun e w' => e = .returned (.bool true) ∧ Below w.heap.size w w' := by
  have h : Calls P f args w fun e w' => match e with
    | .returned v => ∃ A', (v = .bool true ∧ A' = []) ∧ Sh.Has w' A' ∧ Sh.Fr (Sh.fps []) w w' ∧ ∀ b ∈ Sh.fps A', b ∈ Sh.fps [] ∨ w.heap.size ≤ b
    | _ => False := h
  refine h.mono fun e w' h => ?_
  cases e with
  | returned v =>
    obtain ⟨A', ⟨rfl, _⟩, _, hf, _⟩ := h
    exact ⟨rfl, Sh.Fr.below hf⟩
  | _ => exact h.elim
end Go.Sh
