/- NetOften: the statement, from the walk. -/
import Derived.Test.YtienifnpacoahaaHM
import Derived.Test.YtienifnpacoahaaRows
import Derived.ProofKit
namespace Go.Proofs.Ytienifnpacoahaa
open Go.ChangeShapes Go.WideShapes Go.ChangeAt Go.RowKit

theorem knobN : ownKnob Try.prog.godebug = none := by kernel_rfl
theorem laidN : laidOutB Try.prog = true := by kernel_rfl
theorem cellsN3 : Try.prog.cellsOf 3 = 1 := by kernel_rfl
theorem cellsN5 : Try.prog.cellsOf 5 = 1 := by kernel_rfl
theorem cellsN22 : Try.prog.cellsOf 22 = 1 := by kernel_rfl
theorem cellsN37 : Try.prog.cellsOf 37 = 1 := by kernel_rfl
theorem cellsN39 : Try.prog.cellsOf 39 = 6 := by kernel_rfl

section
variable {H : Type} {enc : TypeId × Value → H} {w : World} {base : Nat} {sp : Nat → Bool} {held : Bool}
theorem reads_ints {fuel : Nat} {cs : List Value} {x : DataW H × List MemPlace} {t e : TypeId} {k : IntKind} (ht : Try.prog.underlying t = some (.slice e)) (he : Try.prog.underlying e = some (.int k)) (hc : Try.prog.cellsOf e = 1)
    (hsp : ∀ b, sp b = true) (h : DataW.trod enc Try.prog w base sp held fuel t cs = some x) :
    ∃ (a : Option Addr) (n m : Nat) (zs : List Int), cs = [.slice a n m] ∧ Sh.Reads w 1 (.slice a n m) (zs.map (Value.int k)) ∧ ∀ z ∈ zs, (Lit.int k z).wf = true := by
  rcases open_ints ht he hc h with ⟨hcs, _⟩ | ⟨a, len, cap, zs, hcs, _, hl, hm, hz, _, hcell, hwz⟩
  · exact ⟨none, 0, 0, [], hcs, ⟨none, 0, 0, rfl, rfl, Nat.le_refl _, .inl rfl⟩, fun z hz => by cases hz⟩
  · rw [hsp, if_pos rfl] at hz
    refine ⟨some a, len, cap, zs.take len, hcs, ⟨_, _, _, rfl, by simp; omega, hl, .inr ⟨a, rfl, fun j hj => ?_⟩⟩, fun z hzm => hwz z (List.mem_of_mem_take hzm)⟩
    have hj1 : j < min len zs.length := by simpa using hj
    have hj2 : j < len := by omega
    rw [hcell j (by omega)]
    simp [hj2, List.getElem?_eq_getElem (show j < zs.length by omega)]
theorem reads_bytes {fuel : Nat} {cs : List Value} {x : DataW H × List MemPlace} (hsp : ∀ b, sp b = true) (h : DataW.trod enc Try.prog w base sp held fuel 22 cs = some x) :
    ∃ (a : Option Addr) (n m : Nat) (bs : List UInt8), cs = [.slice a n m] ∧ Sh.Reads w 1 (.slice a n m) (Sh.bvals bs) := by
  obtain ⟨a, n, m, zs, hcs, hr, hw⟩ := reads_ints Try.underlying22 Try.underlying5 cellsN5 hsp h
  refine ⟨a, n, m, zs.map fun z => UInt8.ofNat z.toNat, hcs, ?_⟩
  have hbv : Sh.bvals (zs.map fun z => UInt8.ofNat z.toNat) = zs.map (Value.int .u8) := by
    unfold Sh.bvals
    rw [List.map_map]
    apply List.map_congr_left
    intro z hzm
    have hx : 0 ≤ z ∧ z ≤ 255 := by simpa [Lit.wf, IntKind.min, IntKind.max, IntKind.signed, IntKind.bits] using hw z hzm
    simp only [Function.comp_apply, Sh.bval, UInt8.toNat_ofNat']
    congr 1
    omega
  rw [hbv]
  exact hr
/-- One act. -/
theorem act_open {fuel : Nat} {cs : List Value} {x : DataW H × List MemPlace} (hsp : ∀ b, sp b = true) (h : DataW.trod enc Try.prog w base sp held fuel 39 cs = some x) :
    ∃ a : ActR, cs = a.cells ∧ a.ok w := by
  obtain ⟨xs, n, rfl, _, hlen, hxs, hf⟩ := DataW.trod_struct Try.underlying39 h
  rw [cellsN39] at hlen
  match cs, hlen with
  | [c0, c1, c2, c3, c4, c5], _ =>
    have h0 : DataW.trod enc Try.prog w base sp held n 3 (([c0, c1, c2, c3, c4, c5].drop 0).take (Try.prog.cellsOf 3)) = xs[0]? := hf 0 _ rfl
    rw [cellsN3] at h0
    have h1 : DataW.trod enc Try.prog w base sp held n 3 (([c0, c1, c2, c3, c4, c5].drop 1).take (Try.prog.cellsOf 3)) = xs[1]? := hf 1 _ rfl
    rw [cellsN3] at h1
    have h2 : DataW.trod enc Try.prog w base sp held n 3 (([c0, c1, c2, c3, c4, c5].drop 2).take (Try.prog.cellsOf 3)) = xs[2]? := hf 2 _ rfl
    rw [cellsN3] at h2
    have h3 : DataW.trod enc Try.prog w base sp held n 3 (([c0, c1, c2, c3, c4, c5].drop 3).take (Try.prog.cellsOf 3)) = xs[3]? := hf 3 _ rfl
    rw [cellsN3] at h3
    have h4 : DataW.trod enc Try.prog w base sp held n 37 (([c0, c1, c2, c3, c4, c5].drop 4).take (Try.prog.cellsOf 37)) = xs[4]? := hf 4 _ rfl
    rw [cellsN37] at h4
    have h5 : DataW.trod enc Try.prog w base sp held n 22 (([c0, c1, c2, c3, c4, c5].drop 5).take (Try.prog.cellsOf 22)) = xs[5]? := hf 5 _ rfl
    rw [cellsN22] at h5
    have hl : xs.length = 6 := hxs
    obtain ⟨x0, e0⟩ : ∃ y, xs[0]? = some y := ⟨_, List.getElem?_eq_getElem (by omega)⟩
    obtain ⟨x1, e1⟩ : ∃ y, xs[1]? = some y := ⟨_, List.getElem?_eq_getElem (by omega)⟩
    obtain ⟨x2, e2⟩ : ∃ y, xs[2]? = some y := ⟨_, List.getElem?_eq_getElem (by omega)⟩
    obtain ⟨x3, e3⟩ : ∃ y, xs[3]? = some y := ⟨_, List.getElem?_eq_getElem (by omega)⟩
    obtain ⟨x4, e4⟩ : ∃ y, xs[4]? = some y := ⟨_, List.getElem?_eq_getElem (by omega)⟩
    obtain ⟨x5, e5⟩ : ∃ y, xs[5]? = some y := ⟨_, List.getElem?_eq_getElem (by omega)⟩
    rw [e0] at h0
    rw [e1] at h1
    rw [e2] at h2
    rw [e3] at h3
    rw [e4] at h4
    rw [e5] at h5
    obtain ⟨z0, g0, _⟩ := DataW.trod_int Try.underlying3 h0
    obtain ⟨z1, g1, _⟩ := DataW.trod_int Try.underlying3 h1
    obtain ⟨z2, g2, _⟩ := DataW.trod_int Try.underlying3 h2
    obtain ⟨z3, g3, _⟩ := DataW.trod_int Try.underlying3 h3
    obtain ⟨ta, tn, tc, tos, g4, r4, _⟩ := reads_ints Try.underlying37 Try.underlying3 cellsN3 hsp h4
    obtain ⟨ba, bn, bc, bs, g5, r5⟩ := reads_bytes hsp h5
    refine ⟨⟨z0, z1, z2, z3, ta, tn, tc, tos, ba, bn, bc, bs⟩, ?_, r4, r5⟩
    simp at g0 g1 g2 g3 g4 g5
    simp [ActR.cells, g0, g1, g2, g3, g4, g5]
/-- All acts of an argument. -/
theorem acts_open {fuel : Nat} {cs : List Value} {x : DataW H × List MemPlace} (hsp : ∀ b, sp b = true) (h : DataW.trod enc Try.prog w base sp held fuel 35 cs = some x) :
    ∃ (a : Option Addr) (n c : Nat) (l : List ActR), cs = [.slice a n c] ∧ ActsAt w (.slice a n c) l ∧ l.length ≤ maxLen := by
  rcases DataW.trod_slice Try.underlying35 h with ⟨hcs, _⟩ | ⟨a, len, cap, elems, rest, n, _, hcs, _, _, hl, hm, hlen, hel, _, _⟩
  · exact ⟨none, 0, 0, [], hcs, ⟨⟨none, 0, 0, rfl, rfl, .inl rfl⟩, fun x hx => by cases hx⟩, Nat.zero_le _⟩
  · have each : ∀ i, i < len → ∃ act : ActR, (∀ j c, act.cells[j]? = some c → w.cell? ((a.add (i * 6)).add j) = some c) ∧ act.ok w := by
      intro i hi
      have h1 := hel i hi
      rw [List.getElem?_eq_getElem (by omega), Option.bind_eq_some_iff, cellsN39] at h1
      obtain ⟨cs', hcs', ht⟩ := h1
      obtain ⟨act, rfl, hok⟩ := act_open hsp ht
      refine ⟨act, fun j c hj => ?_, hok⟩
      have h2 := (World.cells?_some hcs').2.2 j (by
        have := (List.getElem?_eq_some_iff.1 hj).1
        simpa [ActR.cells] using this)
      rw [h2, hj]
    let f : (i : Nat) → i < len → ActR := fun i hi => Classical.choose (each i hi)
    have hf : ∀ i (hi : i < len), (∀ j c, (f i hi).cells[j]? = some c → w.cell? ((a.add (i * 6)).add j) = some c) ∧ (f i hi).ok w := fun i hi => Classical.choose_spec (each i hi)
    let l : List ActR := List.ofFn fun i : Fin len => f i.1 i.2
    refine ⟨some a, len, cap, l, hcs, ⟨⟨_, _, _, rfl, by simp [l], .inr ⟨a, rfl, fun i x hi => ?_⟩⟩, fun x hx => ?_⟩, by simp [l]; omega⟩
    · obtain ⟨hi1, rfl⟩ := List.getElem?_eq_some_iff.1 hi
      have hi2 : i < len := by simpa [l] using hi1
      have := (hf i hi2).1
      simpa [l] using this
    · obtain ⟨i, rfl⟩ := List.mem_ofFn.1 hx
      exact (hf i.1 i.2).2
end

theorem netOften_walk {b : Option Addr} {n c : Nat} {l : List ActR} {w : World} (hb : ActsAt w (.slice b n c) l) (hl : l.length ≤ 9223372036854775807) :
    Calls Try.prog 4 #[.slice b n c] w fun e w' => e = .returned (.bool true) ∧ Below w.heap.size w w' := by
  have h : Calls Try.prog 4 #[.slice b n c] w fun e w' => match e with
    | .returned v => ∃ A', (v = .bool true ∧ A' = []) ∧ Sh.Has w' A' ∧ Sh.Fr (Sh.fps []) w w' ∧ ∀ b ∈ Sh.fps A', b ∈ Sh.fps [] ∨ w.heap.size ≤ b
    | _ => False := NetOften_spec hb hl
  refine h.mono fun e w' h => ?_
  cases e with
  | returned v =>
    obtain ⟨A', ⟨rfl, _⟩, _, hf, _⟩ := h
    exact ⟨rfl, Sh.Fr.below hf⟩
  | _ => exact h.elim

set_option maxRecDepth 100000 in
theorem netOften_lifted (os : Os) (started : os.Started) (H : Type) (enc : TypeId × Value → H) :
    ReturnsInHanded {} Try.checked os 4 .any (Rows.netOftenSpec.pre6 enc Try.prog Try.f4 Rows.netOftenRow.domain false) (Rows.netOftenSpec.post enc Try.prog Try.f4 false true false false) := by
  refine returnsInHanded_of_change (C := Try.checked) knobN started (by kernel_rfl) Try.func4
    (ChangeSpec.witness6 (enc := enc) (C := Try.checked) false ⟨#[], #[.slice none 0 0], []⟩ 8 (by kernel_rfl) (by kernel_rfl) (by kernel_rfl) (by kernel_rfl)) ?_
  intro W base args ds gs before hval0 hW _ _
  have hval : ∀ (j : Nat) t v, Try.f4.params[j]? = some t → args[j]? = some v → Value.okWide Try.prog W .any base t v := hval0
  have hW' := hW
  obtain ⟨p, q, hA0, hV, rfl, _, _⟩ := hW
  have hA : DataW.TrodAll enc Try.prog W 0 (fun _ => true) true Try.f4.params.toList args.toList ds p := hA0
  rw [Try.params4] at hA hval
  obtain ⟨v0, d0, rfl, rfl, h0⟩ := trodAll_one hA
  obtain ⟨rfl, rfl⟩ := trodVars_none hV
  have h0k := h0
  obtain ⟨fuel, hf⟩ := h0
  clear hA0 hval0
  simp only [List.append_nil] at hW'
  have hlt : ∀ x ∈ p, x.block < W.heap.size := fun x hx => by simpa using hW'.lt x hx
  have hargs : ∀ (W' : World), Below W.heap.size W W' → DataW.Trod enc Try.prog W' 0 (fun b => decide (b < W.heap.size)) true 35 v0 d0 p :=
    fun W' hn => Below.trod laidN (by kernel_rfl) (of_decide_eq_true (by kernel_rfl)) h0k hn hlt
  obtain ⟨a0, len, cap, rfl⟩ := okWide_slice Try.underlying35 (hval 0 35 v0 rfl rfl)
  obtain ⟨a, n, c, l, hcs, hacts, hl⟩ := acts_open (fun _ => rfl) hf
  simp [Value.cells] at hcs
  obtain ⟨rfl, rfl, rfl⟩ := hcs
  refine (netOften_walk hacts (Nat.le_trans hl (by decide))).mono fun e W' ⟨he, hw⟩ => ?_
  subst he
  exact ⟨_, rfl, ⟨_, _, _, [], _, [], hW', trodAll_mk1 (shut_bool Try.underlying4 _), trodAll_mk1 (hargs _ hw), rfl, hw.frame _, fun h => by cases h⟩⟩

theorem netOften_holds : Rows.NetOftenSaid :=
  OpenClaim.holds_of_wide 4 Try.f4 rfl rfl rfl rfl rfl rfl rfl ⟨rfl, rfl, rfl, rfl, rfl⟩ rfl rfl rfl rfl rfl (by kernel_rfl) Try.func4 (by kernel_rfl)
    (of_decide_eq_true (by kernel_rfl)) (by unfold Func.isWrapper; first | (rw [if_pos (by decide +kernel)]; kernel_rfl) | (rw [if_neg (by decide +kernel)]; exact ⟨rfl, rfl⟩))
    (fun os started H enc _ => netOften_lifted os started H enc)
end Go.Proofs.Ytienifnpacoahaa
