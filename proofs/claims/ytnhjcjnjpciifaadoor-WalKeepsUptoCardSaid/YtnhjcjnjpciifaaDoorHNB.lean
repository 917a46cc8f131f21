/- strconv.Itoa, strconv.Atoi, strings.TrimPrefix walked; the table of powers as a part of memory. -/
import Derived.Test.YtnhjcjnjpciifaaDoorHNA0
import Derived.Test.YtnhjcjnjpciifaaDoorHNS
import Derived.Test.YtnhjcjnjpciifaaDoorShMore
import Derived.Test.YtnhjcjnjpciifaaDoorShNames
import Derived.Lib.LaidTab
import Derived.Lib.AppendIntMem
import Derived.Lib.AtoiErrMem
namespace Go.Proofs.YtnhjcjnjpciifaaDoor
open Go.Sh
theorem pow_named : Tryd.prog.globalNamed "internal/strconv.uint64pow10" = some 2 := by kernel_rfl
def powOk (o : Obj) : Prop := ∃ t fz, o = .cells (Lib.pow10Tab.map fun z => Value.int .u64 z).toArray t fz
/-- The table of powers of ten that the library lays. -/
def tabO (o : Obj) : Own where
  fp := [2]
  holds w := w.heap[2]? = some o ∧ powOk o
  loc w w' h hw := ⟨(h 2 (by simp)).trans hw.1, hw.2⟩
theorem tab_of {w : World} (h : Lib.TabIs Tryd.prog w "internal/strconv.uint64pow10" .u64 Lib.pow10Tab) : ∃ o, (tabO o).holds w := by
  unfold Lib.TabIs World.var? at h
  simp only [pow_named, Option.bind_some] at h
  cases hg : w.heap[2]? with
  | none => rw [hg] at h; cases h
  | some o =>
    rw [hg] at h
    cases o with
    | cells cs t fz =>
      simp only [Option.some.injEq] at h
      subst h
      exact ⟨_, hg, t, fz, rfl⟩
    | _ => cases h
theorem tab_is {w : World} {o : Obj} (h : (tabO o).holds w) : Lib.TabIs Tryd.prog w "internal/strconv.uint64pow10" .u64 Lib.pow10Tab := by
  obtain ⟨h1, t, fz, rfl⟩ := h
  unfold Lib.TabIs World.var?
  simp only [pow_named, Option.bind_some, h1]
theorem tab_has {w : World} {o : Obj} (h : (tabO o).holds w) : Has w [tabO o] := by
  refine .cons h (by simp [tabO]) (fun b hb => ?_) (by simp) (.nil _)
  have hb : b ∈ [2] := hb
  rw [List.mem_singleton.1 hb]
  exact blk_lt h.1
/-- A call that may only turn the table, and leaves it as it was, turns nothing. -/
theorem tab_drop {w w' : World} {o : Obj} (hf : Fr (fps [tabO o]) w w') (h0 : (tabO o).holds w) (h : (tabO o).holds w') : Fr [] w w' := by
  refine ⟨hf.os, hf.tape, hf.output, hf.size, fun b hb _ => ?_⟩
  by_cases hg : b = 2
  · subst hg; rw [h.1, h0.1]
  · exact hf.block b hb (by simp [tabO, hg])
section
variable {w0 w : World} {F : List Nat} {L : List Own} {K : Value → World → Prop}
theorem _root_.Go.Sh.St.below {w' : World} (H : St w0 F w L) (h : RowKit.Below w.heap.size w w') : St w0 F w' L := by
  have hf : Fr (fps ([] : List Own)) w w' := ⟨h.os, h.tape, h.output, h.size, fun b hb _ => h.block b hb⟩
  exact St.step (A := []) (A' := []) (B := L) H hf (.nil _) (by simp)
theorem Itoa_walk {n : Nat} (hn : n ≤ 9223372036854775807) (H : St w0 F w L) {o : Obj} (ht : List.Mem (tabO o) L) (hK : ∀ w', St w0 F w' L → K (.string ⟨(Lib.decDigits n).toArray⟩) w') :
    CallR Tryd.prog fn_strconv_Itoa #[.int .i64 (n : Int)] w K := by
  have htab := tab_is (H.has.all _ ht)
  refine Calls.mono (Go.Proofs.Any.strconv_Itoa itoaCon (n : Int) (by omega) (by omega) w htab) ?_
  rintro e w' ⟨rfl, k, os, rfl⟩
  rw [itoa_nat]
  exact hK _ (H.below (Lib.below_grow _ w (Nat.le_refl _) k os))
theorem Atoi_walk {s : ByteArray} {n : Int} (hl : s.size ≤ 18) (h : Lib.atoi s.data.toList = some n) (H : St w0 F w L) (hK : ∀ w', St w0 F w' L → K (.tuple #[.int .i64 n, .nilIface]) w') :
    CallR Tryd.prog fn_strconv_Atoi #[.string s] w K := by
  refine Calls.mono (Go.Proofs.Any.strconv_Atoi atoiCon s n hl h w) ?_
  rintro e w' ⟨rfl, t, rfl⟩
  exact hK _ (H.below (Lib.bytesWorld_below w _ t))
end
end Go.Proofs.YtnhjcjnjpciifaaDoor
