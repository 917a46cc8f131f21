/- NetOwn: the statement, from the walk. -/
import Derived.Test.YtienifnpacoahaaHJ
import Derived.Test.YtienifnpacoahaaRows
import Derived.ProofKit
namespace Go.Proofs.Ytienifnpacoahaa
open Go.ChangeShapes Go.WideShapes Go.ChangeAt Go.RowKit

theorem knob : ownKnob Try.prog.godebug = none := by kernel_rfl
theorem laid : laidOutB Try.prog = true := by kernel_rfl
theorem cells5 : Try.prog.cellsOf 5 = 1 := by kernel_rfl

theorem netOwn_walk {b : Option Addr} {n c : Nat} {bs : List UInt8} {w : World} (hb : Sh.Reads w 1 (.slice b n c) (Sh.bvals bs)) :
    Calls Try.prog 3 #[.slice b n c] w fun e w' => e = .returned (.bool true) ∧ Below w.heap.size w w' := by
  have h : Calls Try.prog 3 #[.slice b n c] w fun e w' => match e with
    | .returned v => ∃ A', (v = .bool true ∧ A' = []) ∧ Sh.Has w' A' ∧ Sh.Fr (Sh.fps []) w w' ∧ ∀ b ∈ Sh.fps A', b ∈ Sh.fps [] ∨ w.heap.size ≤ b
    | _ => False := NetOwn_spec hb
  refine h.mono fun e w' h => ?_
  cases e with
  | returned v =>
    obtain ⟨A', ⟨rfl, _⟩, _, hf, _⟩ := h
    exact ⟨rfl, Sh.Fr.below hf⟩
  | _ => exact h.elim

set_option maxRecDepth 100000 in
theorem netOwn_lifted (os : Os) (started : os.Started) (H : Type) (enc : TypeId × Value → H) :
    ReturnsInHanded {} Try.checked os 3 .any (Rows.netOwnSpec.pre6 enc Try.prog Try.f3 Rows.netOwnRow.domain false) (Rows.netOwnSpec.post enc Try.prog Try.f3 false true false false) := by
  refine returnsInHanded_of_change (C := Try.checked) knob started (by kernel_rfl) Try.func3
    (ChangeSpec.witness6 (enc := enc) (C := Try.checked) false ⟨#[.cells #[.int .u8 0, .int .u8 0] 5], #[.slice (some ⟨(World.settled Try.prog os).heap.size, 0, none⟩) 2 2], []⟩ 8 (by kernel_rfl) (by kernel_rfl) (by kernel_rfl) (by kernel_rfl)) ?_
  intro W base args ds gs before hval0 hW _ _
  have hval : ∀ (j : Nat) t v, Try.f3.params[j]? = some t → args[j]? = some v → Value.okWide Try.prog W .any base t v := hval0
  have hW' := hW
  obtain ⟨p, q, hA0, hV, rfl, _, _⟩ := hW
  have hA : DataW.TrodAll enc Try.prog W 0 (fun _ => true) true Try.f3.params.toList args.toList ds p := hA0
  rw [Try.params3] at hA hval
  obtain ⟨v0, d0, rfl, rfl, h0⟩ := trodAll_one hA
  obtain ⟨rfl, rfl⟩ := trodVars_none hV
  have h0k := h0
  obtain ⟨fuel, hf⟩ := h0
  clear hA0 hval0
  simp only [List.append_nil] at hW'
  have hlt : ∀ x ∈ p, x.block < W.heap.size := fun x hx => by simpa using hW'.lt x hx
  have hargs : ∀ (W' : World), Below W.heap.size W W' → DataW.Trod enc Try.prog W' 0 (fun b => decide (b < W.heap.size)) true 22 v0 d0 p :=
    fun W' hn => Below.trod laid (by kernel_rfl) (of_decide_eq_true (by kernel_rfl)) h0k hn hlt
  obtain ⟨a0, len, cap, rfl⟩ := okWide_slice Try.underlying22 (hval 0 22 v0 rfl rfl)
  obtain ⟨bs, hbs⟩ : ∃ bs, Sh.Reads W 1 (.slice a0 len cap) (Sh.bvals bs) := by
    rcases open_ints Try.underlying22 Try.underlying5 cells5 hf with ⟨hcs, hx⟩ | ⟨a, len', cap', zs, hcs, _, hl, hm, hz, hx, hcell, hwz⟩
    · simp [Value.cells] at hcs
      obtain ⟨rfl, rfl, rfl⟩ := hcs
      exact ⟨[], none, 0, 0, rfl, rfl, Nat.le_refl _, .inl rfl⟩
    · simp [Value.cells] at hcs
      obtain ⟨rfl, rfl, rfl⟩ := hcs
      simp only [if_true] at hz
      have hbv : Sh.bvals ((zs.take len).map fun z => UInt8.ofNat z.toNat) = (zs.take len).map (Value.int .u8) := by
        unfold Sh.bvals
        rw [List.map_map]
        apply List.map_congr_left
        intro z hzm
        have hw := hwz z (List.mem_of_mem_take hzm)
        have hx : 0 ≤ z ∧ z ≤ 255 := by simpa [Lit.wf, IntKind.min, IntKind.max, IntKind.signed, IntKind.bits] using hw
        simp only [Function.comp_apply, Sh.bval, UInt8.toNat_ofNat']
        congr 1
        omega
      refine ⟨_, some a, len, cap, rfl, by rw [hbv]; simp; omega, hl, .inr ⟨a, rfl, fun j hj => ?_⟩⟩
      rw [hbv] at hj ⊢
      have hj1 : j < min len zs.length := by simpa using hj
      have hj2 : j < len := by omega
      rw [hcell j (by omega)]
      simp [hj2, List.getElem?_eq_getElem (show j < zs.length by omega)]
  refine (netOwn_walk hbs).mono fun e W' ⟨he, hw⟩ => ?_
  subst he
  exact ⟨_, rfl, ⟨_, _, _, [], _, [], hW', trodAll_mk1 (shut_bool Try.underlying4 _), trodAll_mk1 (hargs _ hw), rfl, hw.frame _, fun h => by cases h⟩⟩

theorem netOwn_holds : Rows.NetOwnSaid :=
  OpenClaim.holds_of_wide 3 Try.f3 rfl rfl rfl rfl rfl rfl rfl ⟨rfl, rfl, rfl, rfl, rfl⟩ rfl rfl rfl rfl rfl (by kernel_rfl) Try.func3 (by kernel_rfl)
    (of_decide_eq_true (by kernel_rfl)) (by unfold Func.isWrapper; first | (rw [if_pos (by decide +kernel)]; kernel_rfl) | (rw [if_neg (by decide +kernel)]; exact ⟨rfl, rfl⟩))
    (fun os started H enc _ => netOwn_lifted os started H enc)
end Go.Proofs.Ytienifnpacoahaa
