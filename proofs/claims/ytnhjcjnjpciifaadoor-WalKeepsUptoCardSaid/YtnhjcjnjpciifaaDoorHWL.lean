/- Arguments of the log's laws opened; the laid table. -/
import Derived.Test.YtnhjcjnjpciifaaDoorHWJ
import Derived.Test.YtnhjcjnjpciifaaDoorShLift
import Derived.Test.YtnhjcjnjpciifaaDoorShActs
import Derived.Test.YtnhjcjnjpciifaaDoorCards
import Derived.Test.YtnhjcjnjpciifaaDoorTie
import Derived.WalkKit
import Derived.ProofKit
import Derived.OpenShut
import Derived.Deep.DeepHandedRow
import Derived.Lib.LaidTab
namespace Go.Proofs.YtnhjcjnjpciifaaDoor
open Go.ChangeShapes Go.WideShapes Go.ChangeAt Go.RowKit Go.Sh
theorem cellsB41 : Tryd.prog.cellsOf 41 = 1 := by kernel_rfl
theorem cellsB5 : Tryd.prog.cellsOf 5 = 1 := by kernel_rfl
section
variable {H : Type} {enc : TypeId × Value → H} {w : World} {base : Nat} {sp : Nat → Bool} {held : Bool}
theorem slice_cap {t e fuel : Nat} {a : Option Addr} {n c : Nat} {x : DataW H × List MemPlace} (ht : Tryd.prog.underlying t = some (.slice e)) (h : DataW.trod enc Tryd.prog w base sp held fuel t [.slice a n c] = some x) : n ≤ c := by
  rcases DataW.trod_slice ht h with ⟨hc2, _⟩ | ⟨a', len, cap, elems, rest, m, _, hc2, _, _, hlc, _⟩
  · cases hc2; exact Nat.le_refl _
  · cases hc2; exact hlc
theorem parts_open {fuel : Nat} {cs : List Value} {x : DataW H × List MemPlace} (hsp : ∀ b, sp b = true) (h : DataW.trod enc Tryd.prog w base sp held fuel 40 cs = some x) :
    ∃ (a : Option Addr) (n c : Nat) (l : List PartR), cs = [.slice a n c] ∧ ReadsP w (.slice a n c) l ∧ l.length ≤ maxLen := by
  obtain ⟨a, n, c, l, hcs, hel, hl, _⟩ := open_elems (cells := fun p : PartR => [p.hdr]) (ok := fun w p => Reads w 1 p.hdr (bvals p.bs)) (W := fun _ _ => True) Tryd.underlying40 cellsB41
    (fun f cs x hx => by
      obtain ⟨a, n, c, bs, h1, h2, _⟩ := reads_bytes Tryd.underlying41 Tryd.underlying5 cellsB5 hsp hx
      exact ⟨⟨a, n, c, bs⟩, h1, h2, trivial⟩) h
  subst hcs
  have hc := slice_cap Tryd.underlying40 h
  refine ⟨a, n, c, l, rfl, ⟨?_, hel.oks⟩, hl⟩
  obtain ⟨_, _, _, he, hn, h3⟩ := hel.shows
  cases he
  refine ⟨a, n, c, rfl, by simp [hn], hc, ?_⟩
  rcases h3 with h3 | ⟨ad, rfl, h4⟩
  · exact .inl h3
  · refine .inr ⟨ad, rfl, fun j hj => ?_⟩
    have hj2 : j < l.length := by simpa using hj
    obtain ⟨q, hq⟩ : ∃ q, l[j]? = some q := ⟨_, List.getElem?_eq_getElem hj2⟩
    have h5 := h4 j q hq 0 q.hdr rfl
    rw [addr_add_add, Nat.mul_one, Nat.add_zero] at h5
    rw [h5, List.getElem?_map, hq]; rfl
end
theorem laid_tail {P : Program} {x : String × DataW Unit} {l : List (String × DataW Unit)} {w : World} (h : laidMet P (x :: l) w) : laidMet P l w := by
  obtain ⟨ps, hv, hnd, hb⟩ := h
  obtain ⟨n, d⟩ := x
  obtain ⟨g, t, cs, fuel, p, q, _, _, _, _, hr, rfl⟩ := hv
  exact ⟨q, hr, (List.nodup_append.1 hnd).2.1, fun b off hm => hb b off (List.mem_append_right _ hm)⟩
theorem pow_data : (Rows.laid_internal_strconv_uint64pow10 : DataW Unit) = Lib.tabData .u64 Lib.pow10Tab := by kernel_rfl
theorem pow_laid {W : World} {l : List (String × DataW Unit)} (h : laidMet Tryd.prog (("internal/strconv.uint64pow10", Rows.laid_internal_strconv_uint64pow10) :: l) W) : ∃ o, (tabO o).holds W := by
  rw [pow_data] at h
  exact tab_of (Lib.tabIs_of_head (g := 2) (t := 172) (e := 25) (n := 20) (by kernel_rfl) (by kernel_rfl) Tryd.underlying172 Tryd.underlying25 (by kernel_rfl) (by kernel_rfl) h)
theorem callS_tab {f : FuncId} {args : Array Value} {w : World} {o : Obj} (h0 : (tabO o).holds w) (h : CallS Tryd.prog f args w [tabO o] fun r _ A => r = .bool true ∧ A = [tabO o]) :
    CallS Tryd.prog f args w [] fun r _ A => r = .bool true ∧ A = [] :=
  CallR_mono h fun v w' ⟨A', ⟨hv, hA⟩, hh, hf, _⟩ => by
    subst hA
    exact ⟨[], ⟨hv, rfl⟩, .nil _, tab_drop hf h0 (hh.all _ (List.mem_cons_self ..)), by simp⟩
def setG (cs : Array Value) : Obj → Obj
  | .cells _ t frozen => .cells cs t frozen
  | o => o
end Go.Proofs.YtnhjcjnjpciifaaDoor
