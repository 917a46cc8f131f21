/- Slices of structs that an argument shows: read, and opened. -/
import Derived.Test.YtnhjcjnjpciifaaDoorShElems
namespace Go.Sh
open Go.ChangeShapes Go.WideShapes Go.ChangeAt Go.RowKit
variable {P : Program} {α : Type}

structure ElemsAt (w : World) (sz : Nat) (cells : α → List Value) (ok : World → α → Prop) (v : Value) (l : List α) : Prop where
  shows : ∃ a len cap, v = .slice a len cap ∧ len = l.length ∧ (len = 0 ∨ ∃ ad, a = some ad ∧ ∀ (i : Nat) x, l[i]? = some x → ∀ (j : Nat) c, (cells x)[j]? = some c → w.cell? ((ad.add (i * sz)).add j) = some c)
  oks : ∀ x ∈ l, ok w x
theorem Fr.cell1 {w w' : World} (h : Fr [] w w') {a : Addr} {v : Value} (hc : w.cell? a = some v) : w'.cell? a = some v := by
  rw [← hc]
  exact h.cell (World.block_lt_of_cell? w a hc) (by simp)
theorem Reads.keep {w w' : World} {sz : Nat} {v : Value} {cs : List Value} (hsz : 0 < sz) (h : Reads w sz v cs) (hf : Fr [] w w') : Reads w' sz v cs :=
  h.of fun b hb => hf.block b (h.lt hsz b hb) (by simp)
theorem ElemsAt.keep {w w' : World} {sz : Nat} {cells : α → List Value} {ok : World → α → Prop} {v : Value} {l : List α} (h : ElemsAt w sz cells ok v l) (hok : ∀ x, ok w x → ok w' x) (hf : Fr [] w w') : ElemsAt w' sz cells ok v l := by
  obtain ⟨a, len, cap, hv, hl, h3⟩ := h.shows
  refine ⟨⟨a, len, cap, hv, hl, ?_⟩, fun x hm => hok x (h.oks x hm)⟩
  rcases h3 with h3 | ⟨ad, ha, h4⟩
  · exact .inl h3
  · exact .inr ⟨ad, ha, fun i x hi j c hj => hf.cell1 (h4 i x hi j c hj)⟩
theorem ElemsAt.len {w : World} {sz n c : Nat} {cells : α → List Value} {ok : World → α → Prop} {a : Option Addr} {l : List α} (h : ElemsAt w sz cells ok (.slice a n c) l) : n = l.length := by
  obtain ⟨_, _, _, he, h1, _⟩ := h.shows
  cases he
  exact h1
theorem wIXel {w : World} {sz n c i : Nat} {cells : α → List Value} {ok : World → α → Prop} {a : Option Addr} {v : Int} {l : List α} {x : α} {K : Addr → Prop} (h : ElemsAt w sz cells ok (.slice a n c) l) (hi : l[i]? = some x) (hv : v = (i : Int))
    (hK : ∀ ad : Addr, (∀ j c, (cells x)[j]? = some c → w.cell? (ad.add j) = some c) → K ad) : IX a n v sz K := by
  obtain ⟨_, _, _, he, hl, h3⟩ := h.shows
  cases he
  have hlt := (List.getElem?_eq_some_iff.1 hi).1
  rcases h3 with h3 | ⟨ad, rfl, h4⟩
  · omega
  · have h5 := hK (ad.add (i * sz)) (fun j c hj => h4 i x hi j c hj)
    have e : v.toNat * sz = i * sz := by rw [hv]; rfl
    unfold IX
    exact ⟨ad, rfl, by omega, by omega, by rw [e]; exact h5⟩

section
variable {H : Type} {enc : TypeId × Value → H} {w : World} {base : Nat} {sp : Nat → Bool} {held : Bool}
/-- All elements of an argument, with what is known of their readings. -/
theorem open_elems {t e sz fuel : Nat} {cells : α → List Value} {ok : World → α → Prop} {W : DataW H → α → Prop} {cs : List Value} {x : DataW H × List MemPlace} (ht : P.underlying t = some (.slice e)) (hc : P.cellsOf e = sz)
    (h1 : ∀ (f : Nat) cs x, DataW.trod enc P w base sp held f e cs = some x → ∃ a : α, cs = cells a ∧ ok w a ∧ W x.1 a)
    (h : DataW.trod enc P w base sp held fuel t cs = some x) :
    ∃ (a : Option Addr) (n c : Nat) (l : List α), cs = [.slice a n c] ∧ ElemsAt w sz cells ok (.slice a n c) l ∧ l.length ≤ maxLen ∧
      (x.1 = .nil ∧ l = [] ∨ ∃ ds rest : List (DataW H), x.1 = .slice ds rest ∧ ds.length = l.length ∧ ∀ (i : Nat) d y, ds[i]? = some d → l[i]? = some y → W d y) := by
  rcases DataW.trod_slice ht h with ⟨hcs, hx⟩ | ⟨a, len, cap, elems, rest, n, _, hcs, hx, _, hl, hm, hlen, hel, _, _⟩
  · exact ⟨none, 0, 0, [], hcs, ⟨⟨none, 0, 0, rfl, rfl, .inl rfl⟩, fun x hx => by cases hx⟩, Nat.zero_le _, .inl ⟨by rw [hx], rfl⟩⟩
  · have each : ∀ i, (hi : i < len) → ∃ act : α, (∀ j c, (cells act)[j]? = some c → w.cell? ((a.add (i * sz)).add j) = some c) ∧ ok w act ∧ ∀ d, elems[i]? = some d → W d.1 act := by
      intro i hi
      have h2 := hel i hi
      rw [List.getElem?_eq_getElem (by omega), Option.bind_eq_some_iff, hc] at h2
      obtain ⟨cs', hcs', ht'⟩ := h2
      obtain ⟨act, rfl, hok, hw⟩ := h1 _ _ _ ht'
      refine ⟨act, fun j c hj => ?_, hok, fun d hd => ?_⟩
      · have h3 := (World.cells?_some hcs').2.2 j (by
          have := (List.getElem?_eq_some_iff.1 hj).1
          have h4 := (World.cells?_some hcs').2.1
          omega)
        rw [h3, hj]
      · rw [List.getElem?_eq_getElem (by omega)] at hd
        rw [← Option.some.inj hd]
        exact hw
    let f : (i : Nat) → i < len → α := fun i hi => Classical.choose (each i hi)
    have hf : ∀ i (hi : i < len), (∀ j c, (cells (f i hi))[j]? = some c → w.cell? ((a.add (i * sz)).add j) = some c) ∧ ok w (f i hi) ∧ ∀ d, elems[i]? = some d → W d.1 (f i hi) := fun i hi => Classical.choose_spec (each i hi)
    let l : List α := List.ofFn fun i : Fin len => f i.1 i.2
    refine ⟨some a, len, cap, l, hcs, ⟨⟨_, _, _, rfl, by simp [l], .inr ⟨a, rfl, fun i x hi => ?_⟩⟩, fun x hx => ?_⟩, by simp [l]; omega, .inr ⟨elems.map (·.1), rest.map (·.1), by rw [hx], by simp [l, hlen], fun i d y hd hy => ?_⟩⟩
    · obtain ⟨hi1, rfl⟩ := List.getElem?_eq_some_iff.1 hi
      have hi2 : i < len := by simpa [l] using hi1
      have := (hf i hi2).1
      simpa [l] using this
    · obtain ⟨i, rfl⟩ := List.mem_ofFn.1 hx
      exact (hf i.1 i.2).2.1
    · obtain ⟨hi1, rfl⟩ := List.getElem?_eq_some_iff.1 hy
      have hi2 : i < len := by simpa [l] using hi1
      rw [List.getElem?_map] at hd
      obtain ⟨d0, hd0, rfl⟩ := Option.map_eq_some_iff.1 hd
      have := (hf i hi2).2.2 d0 hd0
      simpa [l] using this
end
end Go.Sh
