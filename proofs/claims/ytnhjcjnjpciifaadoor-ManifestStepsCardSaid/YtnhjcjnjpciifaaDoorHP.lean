/- ManifestSteps: the statement, from the walk; the card. -/
import Derived.Test.YtnhjcjnjpciifaaDoorHO
import Derived.Test.YtnhjcjnjpciifaaDoorShLift
import Derived.Test.YtnhjcjnjpciifaaDoorCards
import Derived.Test.YtnhjcjnjpciifaaDoorTie
import Derived.WalkKit
import Derived.ProofKit
import Derived.OpenShut
import Derived.Deep.DeepHandedRow
import Derived.Lib.LaidTab
namespace Go.Proofs.YtnhjcjnjpciifaaDoor
open Go.ChangeShapes Go.WideShapes Go.ChangeAt Go.RowKit Go.Sh

theorem cellsA3 : Tryd.prog.cellsOf 3 = 1 := by kernel_rfl
theorem cellsA9 : Tryd.prog.cellsOf 9 = 1 := by kernel_rfl
theorem cellsA24 : Tryd.prog.cellsOf 24 = 1 := by kernel_rfl
theorem cellsA25 : Tryd.prog.cellsOf 25 = 1 := by kernel_rfl
theorem cellsA29 : Tryd.prog.cellsOf 29 = 1 := by kernel_rfl
theorem cellsA31 : Tryd.prog.cellsOf 31 = 5 := by kernel_rfl
theorem cellsA38 : Tryd.prog.cellsOf 38 = 5 := by kernel_rfl
section
variable {H : Type} {enc : TypeId × Value → H} {w : World} {base : Nat} {sp : Nat → Bool} {held : Bool}
set_option maxRecDepth 100000 in
theorem tab_open {fuel : Nat} {cs : List Value} {x : DataW H × List MemPlace} (h : DataW.trod enc Tryd.prog w base sp held fuel 38 cs = some x) : ∃ t : Tab, cs = t.cells := by
  obtain ⟨xs, n, rfl, hx, hlen, hxs, hf⟩ := DataW.trod_struct Tryd.underlying38 h
  rw [cellsA38] at hlen
  match cs, hlen with
  | [c0, c1, c2, c3, c4], _ =>
    have h0 : DataW.trod enc Tryd.prog w base sp held n 3 (([c0, c1, c2, c3, c4].drop 0).take (Tryd.prog.cellsOf 3)) = xs[0]? := hf 0 _ rfl
    rw [cellsA3] at h0
    have h1 : DataW.trod enc Tryd.prog w base sp held n 3 (([c0, c1, c2, c3, c4].drop 1).take (Tryd.prog.cellsOf 3)) = xs[1]? := hf 1 _ rfl
    rw [cellsA3] at h1
    have h2 : DataW.trod enc Tryd.prog w base sp held n 9 (([c0, c1, c2, c3, c4].drop 2).take (Tryd.prog.cellsOf 9)) = xs[2]? := hf 2 _ rfl
    rw [cellsA9] at h2
    have h3 : DataW.trod enc Tryd.prog w base sp held n 9 (([c0, c1, c2, c3, c4].drop 3).take (Tryd.prog.cellsOf 9)) = xs[3]? := hf 3 _ rfl
    rw [cellsA9] at h3
    have h4 : DataW.trod enc Tryd.prog w base sp held n 3 (([c0, c1, c2, c3, c4].drop 4).take (Tryd.prog.cellsOf 3)) = xs[4]? := hf 4 _ rfl
    rw [cellsA3] at h4
    have hl : xs.length = 5 := hxs
    rw [List.getElem?_eq_getElem (by omega)] at h0 h1 h2 h3 h4
    obtain ⟨z0, g0, _⟩ := DataW.trod_int Tryd.underlying3 h0
    obtain ⟨z1, g1, _⟩ := DataW.trod_int Tryd.underlying3 h1
    obtain ⟨s2, g2, _⟩ := DataW.trod_string Tryd.underlying9 h2
    obtain ⟨s3, g3, _⟩ := DataW.trod_string Tryd.underlying9 h3
    obtain ⟨z4, g4, _⟩ := DataW.trod_int Tryd.underlying3 h4
    refine ⟨⟨z0, z1, s2, s3, z4⟩, ?_⟩
    simp at g0 g1 g2 g3 g4
    simp [Tab.cells, g0, g1, g2, g3, g4]
theorem tabs_reads {a : Option Addr} {n c : Nat} {l : List Tab} (h : ElemsAt w 5 Tab.cells (fun _ _ => True) (.slice a n c) l) (hc : n ≤ c) : Reads w 5 (.slice a n c) (l.flatMap Tab.cells) := by
  obtain ⟨_, _, _, he, hl, h3⟩ := h.shows
  cases he
  refine ⟨a, n, c, rfl, by rw [flat_length tcells_len, hl], hc, ?_⟩
  rcases h3 with h3 | ⟨ad, rfl, h4⟩
  · exact .inl h3
  · refine .inr ⟨ad, rfl, fun j hj => ?_⟩
    rw [flat_length tcells_len] at hj
    have hq : j / 5 < l.length := by omega
    have hm : j % 5 < 5 := Nat.mod_lt _ (by decide)
    have hd : j = j / 5 * 5 + j % 5 := (Nat.div_add_mod' j 5).symm
    have hx := List.getElem?_eq_getElem hq
    have h5 : (l.flatMap Tab.cells)[j]? = (l[j / 5].cells)[j % 5]? := by
      have := flat_get tcells_len l (j / 5) (j % 5) hm
      rw [← hd, hx] at this
      exact this
    have h6 : (l[j / 5].cells)[j % 5]? = some ((l[j / 5].cells)[j % 5]'(by rw [tcells_len]; exact hm)) := List.getElem?_eq_getElem _
    have h7 := h4 (j / 5) _ hx (j % 5) _ h6
    rw [addr_add_add, ← hd] at h7
    rw [h5, h6, h7]
theorem tabs_open {fuel : Nat} {cs : List Value} {x : DataW H × List MemPlace} (h : DataW.trod enc Tryd.prog w base sp held fuel 24 cs = some x) :
    ∃ (a : Option Addr) (n c : Nat) (l : List Tab), cs = [.slice a n c] ∧ Reads w 5 (.slice a n c) (l.flatMap Tab.cells) ∧ l.length ≤ maxLen := by
  obtain ⟨a, n, c, l, hcs, hel, hl, _⟩ := open_elems (cells := Tab.cells) (ok := fun _ _ => True) (W := fun _ _ => True) Tryd.underlying24 cellsA38 (fun f cs x hx => by obtain ⟨t, ht⟩ := tab_open hx; exact ⟨t, ht, trivial, trivial⟩) h
  refine ⟨a, n, c, l, hcs, tabs_reads hel ?_, hl⟩
  rcases DataW.trod_slice Tryd.underlying24 h with ⟨hc2, _⟩ | ⟨a', len, cap, elems, rest, m, _, hc2, _, _, hlc, _⟩
  · rw [hcs] at hc2; cases hc2; exact Nat.le_refl _
  · rw [hcs] at hc2; cases hc2; exact hlc
set_option maxRecDepth 100000 in
theorem edit_open {fuel : Nat} {cs : List Value} {x : DataW H × List MemPlace} (hsp : ∀ b, sp b = true) (h : DataW.trod enc Tryd.prog w base sp held fuel 31 cs = some x) : ∃ r : EditR, cs = r.cells ∧ r.ok w ∧ r.e.add.length ≤ maxLen := by
  obtain ⟨xs, n, rfl, hx, hlen, hxs, hf⟩ := DataW.trod_struct Tryd.underlying31 h
  rw [cellsA31] at hlen
  match cs, hlen with
  | [c0, c1, c2, c3, c4], _ =>
    have h0 : DataW.trod enc Tryd.prog w base sp held n 24 (([c0, c1, c2, c3, c4].drop 0).take (Tryd.prog.cellsOf 24)) = xs[0]? := hf 0 _ rfl
    rw [cellsA24] at h0
    have h1 : DataW.trod enc Tryd.prog w base sp held n 29 (([c0, c1, c2, c3, c4].drop 1).take (Tryd.prog.cellsOf 29)) = xs[1]? := hf 1 _ rfl
    rw [cellsA29] at h1
    have h2 : DataW.trod enc Tryd.prog w base sp held n 25 (([c0, c1, c2, c3, c4].drop 2).take (Tryd.prog.cellsOf 25)) = xs[2]? := hf 2 _ rfl
    rw [cellsA25] at h2
    have h3 : DataW.trod enc Tryd.prog w base sp held n 3 (([c0, c1, c2, c3, c4].drop 3).take (Tryd.prog.cellsOf 3)) = xs[3]? := hf 3 _ rfl
    rw [cellsA3] at h3
    have h4 : DataW.trod enc Tryd.prog w base sp held n 3 (([c0, c1, c2, c3, c4].drop 4).take (Tryd.prog.cellsOf 3)) = xs[4]? := hf 4 _ rfl
    rw [cellsA3] at h4
    have hl : xs.length = 5 := hxs
    rw [List.getElem?_eq_getElem (by omega)] at h0 h1 h2 h3 h4
    obtain ⟨ea, en, ec, ts, g0, r0, l0⟩ := tabs_open h0
    obtain ⟨da, dn, dc, ds, g1, r1, _, _⟩ := reads_ints Tryd.underlying29 Tryd.underlying3 cellsA3 hsp h1
    obtain ⟨z2, g2, _⟩ := DataW.trod_int Tryd.underlying25 h2
    obtain ⟨z3, g3, _⟩ := DataW.trod_int Tryd.underlying3 h3
    obtain ⟨z4, g4, _⟩ := DataW.trod_int Tryd.underlying3 h4
    refine ⟨⟨ea, en, ec, da, dn, dc, ⟨ts, ds, z2, z3, z4⟩⟩, ?_, ⟨r0, r1⟩, l0⟩
    simp at g0 g1 g2 g3 g4
    simp [EditR.cells, g0, g1, g2, g3, g4]
theorem edits_open {fuel : Nat} {cs : List Value} {x : DataW H × List MemPlace} (hsp : ∀ b, sp b = true) (h : DataW.trod enc Tryd.prog w base sp held fuel 22 cs = some x) :
    ∃ (a : Option Addr) (n c : Nat) (l : List EditR), cs = [.slice a n c] ∧ EditsAt w (.slice a n c) l ∧ ∀ y ∈ l, y.e.add.length ≤ maxLen := by
  obtain ⟨a, n, c, l, hcs, hel, _, _⟩ := open_elems (cells := EditR.cells) (ok := fun w r => EditR.ok w r ∧ r.e.add.length ≤ maxLen) (W := fun _ _ => True) Tryd.underlying22 cellsA31 (fun f cs x hx => by obtain ⟨r, h1, h2, h3⟩ := edit_open hsp hx; exact ⟨r, h1, ⟨h2, h3⟩, trivial⟩) h
  exact ⟨a, n, c, l, hcs, ⟨hel.shows, fun x hx => (hel.oks x hx).1⟩, fun y hy => (hel.oks y hy).2⟩
end

def setG (cs : Array Value) : Obj → Obj
  | .cells _ t frozen => .cells cs t frozen
  | o => o
/-- A world for the witness: the listed variables hold what their initialisers lay. -/
noncomputable def laidWorld (os : Os) : World :=
  { World.holding Tryd.prog os ⟨#[], #[], []⟩ with heap := (((World.holding Tryd.prog os ⟨#[], #[], []⟩).heap.modify 2 (setG #[.int .u64 1, .int .u64 10, .int .u64 100, .int .u64 1000, .int .u64 10000, .int .u64 100000, .int .u64 1000000, .int .u64 10000000, .int .u64 100000000, .int .u64 1000000000, .int .u64 10000000000, .int .u64 100000000000, .int .u64 1000000000000, .int .u64 10000000000000, .int .u64 100000000000000, .int .u64 1000000000000000, .int .u64 10000000000000000, .int .u64 100000000000000000, .int .u64 1000000000000000000, .int .u64 10000000000000000000])).modify 3 (setG #[.int .u8 0, .int .u8 1, .int .u8 28, .int .u8 2, .int .u8 29, .int .u8 14, .int .u8 24, .int .u8 3, .int .u8 30, .int .u8 22, .int .u8 20, .int .u8 15, .int .u8 25, .int .u8 17, .int .u8 4, .int .u8 8, .int .u8 31, .int .u8 27, .int .u8 13, .int .u8 23, .int .u8 21, .int .u8 19, .int .u8 16, .int .u8 7, .int .u8 26, .int .u8 12, .int .u8 18, .int .u8 6, .int .u8 11, .int .u8 5, .int .u8 10, .int .u8 9])).modify 4 (setG #[.int .u8 0, .int .u8 1, .int .u8 56, .int .u8 2, .int .u8 57, .int .u8 49, .int .u8 28, .int .u8 3, .int .u8 61, .int .u8 58, .int .u8 42, .int .u8 50, .int .u8 38, .int .u8 29, .int .u8 17, .int .u8 4, .int .u8 62, .int .u8 47, .int .u8 59, .int .u8 36, .int .u8 45, .int .u8 43, .int .u8 51, .int .u8 22, .int .u8 53, .int .u8 39, .int .u8 33, .int .u8 30, .int .u8 24, .int .u8 18, .int .u8 12, .int .u8 5, .int .u8 63, .int .u8 55, .int .u8 48, .int .u8 27, .int .u8 60, .int .u8 41, .int .u8 37, .int .u8 16, .int .u8 46, .int .u8 35, .int .u8 44, .int .u8 21, .int .u8 52, .int .u8 32, .int .u8 23, .int .u8 11, .int .u8 54, .int .u8 26, .int .u8 40, .int .u8 15, .int .u8 34, .int .u8 20, .int .u8 31, .int .u8 10, .int .u8 25, .int .u8 14, .int .u8 19, .int .u8 9, .int .u8 13, .int .u8 8, .int .u8 7, .int .u8 6]) }
set_option maxRecDepth 100000 in
theorem laid_met (os : Os) : laidMet Tryd.prog Rows.manifestStepsRow.laid ((laidWorld os).forCall (fun _ _ => 0) ⟨#[], #[.slice none 0 0], []⟩).memory :=
  laidMet_of_run' 8 (by kernel_rfl) (by kernel_rfl)
set_option maxRecDepth 100000 in
theorem steps_reads (os : Os) {H : Type} (enc : TypeId × Value → H) : ∃ places, DataW.whole enc Tryd.prog ((laidWorld os).forCall (fun _ _ => 0) ⟨#[], #[.slice none 0 0], []⟩).memory Tryd.f3.params.toList Rows.manifestStepsSpec.vars false #[Value.slice none 0 0].toList 8 = some ([.nil], [], places) :=
  ⟨[], by kernel_rfl⟩

set_option maxRecDepth 100000 in
theorem steps_contract (H : Type) (enc : TypeId × Value → H) (W : World) (base : Nat) (args : Array Value) (ds gs : List (DataW H)) (before : List MemPlace)
    (hval0 : ∀ (j : Nat) t v, Tryd.f3.params[j]? = some t → args[j]? = some v → Value.okWide Tryd.prog W .any base t v)
    (hW : DataW.Whole enc Tryd.prog Tryd.f3.params.toList Rows.manifestStepsSpec.vars false W args.toList ds gs before) :
    Calls Tryd.prog 3 args W fun e W' => ∃ v, e = .returned v ∧ Rows.manifestStepsSpec.post enc Tryd.prog Tryd.f3 false true false false W args v W' := by
  have hval : ∀ (j : Nat) t v, Tryd.f3.params[j]? = some t → args[j]? = some v → Value.okWide Tryd.prog W .any base t v := hval0
  have hW' := hW
  obtain ⟨p, q, hA0, hV, rfl, _, _⟩ := hW
  have hA : DataW.TrodAll enc Tryd.prog W 0 (fun _ => true) true Tryd.f3.params.toList args.toList ds p := hA0
  rw [Tryd.params3] at hA hval
  obtain ⟨v0, d0, rfl, rfl, h0⟩ := trodAll_one hA
  obtain ⟨rfl, rfl⟩ := trodVars_none hV
  have h0k := h0
  obtain ⟨fuel0, hf0⟩ := h0
  clear hA0 hval0
  simp only [List.append_nil] at hW'
  have hlt0 : ∀ x ∈ p, x.block < W.heap.size := fun x hx => hW'.lt x (by simp [hx])
  have hargs0 : ∀ (W' : World), Below W.heap.size W W' → DataW.Trod enc Tryd.prog W' 0 (fun b => decide (b < W.heap.size)) true 22 v0 d0 p :=
    fun W' hn => Below.trod (by kernel_rfl) (by kernel_rfl) (of_decide_eq_true (by kernel_rfl)) h0k hn hlt0
  obtain ⟨a0, n0, m0, rfl⟩ := okWide_slice Tryd.underlying22 (hval 0 22 v0 rfl rfl)
  obtain ⟨a, n, c, l0, hcs, hr0, hl0⟩ := edits_open (fun _ => rfl) hf0
  simp [Value.cells] at hcs
  obtain ⟨rfl, rfl, rfl⟩ := hcs
  refine (calls_true (ManifestSteps_spec hr0 (fun x hx => Nat.le_trans (hl0 x hx) (of_decide_eq_true (by kernel_rfl))))).mono fun e W' ⟨he, hw⟩ => ?_
  subst he
  exact ⟨_, rfl, ⟨_, _, _, [], _, [], hW', trodAll_mk1 (shut_bool Tryd.underlying4 _), trodAll_mk1 (hargs0 _ hw), rfl, hw.frame _, fun h => by cases h⟩⟩

set_option maxRecDepth 100000 in
theorem manifestSteps_lifted (os : Os) (started : os.Started) (H : Type) (enc : TypeId × Value → H) (F : Stop.Interp) :
    ReturnsInHanded {} Tryd.checked os 3 .any ((OpenSpec.ofChange Rows.manifestStepsSpec).preRow enc Tryd.prog Tryd.f3 Rows.manifestStepsRow.domain false Rows.manifestStepsRow.laid) (((OpenSpec.ofChange Rows.manifestStepsSpec).at F).post enc Tryd.prog Tryd.f3 false true false false) := by
  obtain ⟨places, hx⟩ := steps_reads os enc
  refine returnsInHanded_of_row (C := Tryd.checked) (s := OpenSpec.ofChange Rows.manifestStepsSpec) (by kernel_rfl) started (by kernel_rfl) Tryd.func3
    (witness_row_at (enc := enc) (C := Tryd.checked) false (laidWorld os) #[.slice none 0 0] rfl (by kernel_rfl) (by kernel_rfl) (by kernel_rfl)
      (OpenSpec.preRow_of_cond 8 hx (by kernel_rfl) (fun k hk => by cases hk) (by kernel_rfl) (laid_met os))) ?_
  intro W base args ds gs before hval hW _ _ _ _ _ _
  exact steps_contract H enc W base args ds gs before hval hW

theorem manifestSteps_holds : Rows.ManifestStepsSaid :=
  OpenClaim.holds_of_cond 3 Tryd.f3 rfl rfl rfl rfl rfl rfl rfl ⟨rfl, rfl, rfl, rfl, rfl⟩ rfl rfl rfl rfl rfl (by kernel_rfl) Tryd.func3 (by kernel_rfl)
    (of_decide_eq_true (by kernel_rfl)) (by unfold Func.isWrapper; first | (rw [if_pos (by decide +kernel)]; kernel_rfl) | (rw [if_neg (by decide +kernel)]; exact ⟨rfl, rfl⟩))
    (fun os started H enc _ F => by rw [OpenClaim.pre_eq_preRow]; exact manifestSteps_lifted os started H enc F)

theorem steps_plain (f : FuncId) (fn : Func) (hf : Tryd.pinned.checked.prog.funcNamed "glacier/glacierlaw8.ManifestSteps" = some f) (hfn : Tryd.pinned.checked.prog.funcs[f]? = some fn) :
    true = Tryd.pinned.checked.prog.looks [] ∧ ∀ (j : Nat) t, fn.params[j]? = some t → Tryd.pinned.checked.prog.wantsStandIn t = false := by
  obtain rfl : f = 3 := Option.some.inj ((show Tryd.prog.funcNamed "glacier/glacierlaw8.ManifestSteps" = some 3 by kernel_rfl).symm.trans hf) |>.symm
  obtain rfl : fn = Tryd.f3 := (Option.some.inj (Tryd.func3.symm.trans hfn)).symm
  refine ⟨by kernel_rfl, fun j t ht => ?_⟩
  rw [Tryd.params3] at ht
  obtain rfl : t = 22 := by simpa using Array.mem_of_getElem? ht
  exact (show Tryd.prog.wantsStandIn 22 = false by kernel_rfl)

theorem manifestSteps_card : Rows.ManifestStepsCardSaid :=
  Claim7.holds_tied_plain_at .later [] _ _ _ _ manifestSteps_holds (fun _ h => by cases h) (by kernel_rfl) (fun _ h => by cases h) manifestSteps_row_tie rfl ⟨rfl, rfl⟩ (by kernel_rfl) rfl steps_plain (by kernel_rfl)
end Go.Proofs.YtnhjcjnjpciifaaDoor
