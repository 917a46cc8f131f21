/- The net's keys: pairs of nodes. -/
import Derived.Test.YtienifnpacoahaaHA
import Derived.Laws.StructEq
import Derived.Laws.Tables
namespace Go.Proofs.Ytienifnpacoahaa
open Go.Sh

def pairV (p : Int × Int) : Value := .agg #[.int .i64 p.1, .int .i64 p.2]
theorem eq_pair (a b c d : Int) (w : World) : (Op.equalIn 10000 52 (.agg #[.int .i64 a, .int .i64 b]) (.agg #[.int .i64 c, .int .i64 d])).run Try.prog w = .ok (a == c && b == d) w := by
  have u3 := Try.underlying3
  have a3 := Try.isAgg3
  have z3 := Try.sizeOf3
  have hS : Try.prog.underlying 52 = some (.struct (Try.prog.fieldsOf 52)) := by kernel_rfl
  have hp : Try.prog.stoodInHeld 52 = false := by kernel_rfl
  rw [show (10000 : Nat) = 9999 + 1 from rfl, run_equalIn_agg w 9999 52 _ _ hS hp]
  simp only [Program.fieldsOf, Try.underlying52]
  go_simp
  by_cases h1 : a = c <;> by_cases h2 : b = d <;> simp [h1, h2]
theorem check_pair (e : Bool) (a b : Int) (w : World) : (Instr.checkKey e 10000 52 (.agg #[.int .i64 a, .int .i64 b])).run Try.prog w = .ok () w := by
  have u3 := Try.underlying3
  have a3 := Try.isAgg3
  have z3 := Try.sizeOf3
  have h : ∀ d, (Instr.checkKey e (d + 1 + 1) 52 (.agg #[.int .i64 a, .int .i64 b])).run Try.prog w = .ok () w := fun d => by
    simp only [Instr.checkKey, Sem.run_bind, run_underlying Try.underlying52, Result.andThen_ok]
    go_simp
  exact h 9998
theorem keyTy_pair : KeyTy Try.prog 52 pairV where
  under := ⟨_, Try.underlying52, .inr fun a b => rfl⟩
  eq a b w := by
    have h2 : (Op.equal 52 (pairV a) (pairV b)).run Try.prog w = .ok (a.1 == b.1 && a.2 == b.2) w := eq_pair a.1 a.2 b.1 b.2 w
    rw [h2]
    congr 1
    obtain ⟨a1, a2⟩ := a
    obtain ⟨b1, b2⟩ := b
    by_cases h1 : a1 = b1 <;> by_cases h3 : a2 = b2 <;> simp [h1, h3]
  check e a w := check_pair e a.1 a.2 w
  same a := by simp [pairV, Instr.sameBits]
  inj a b h := by
    obtain ⟨a1, a2⟩ := a
    obtain ⟨b1, b2⟩ := b
    simp [pairV] at h
    simp [h]
theorem map_pair : MapTy Try.prog 47 pairV := mapTy_of Try.underlying47 keyTy_pair (by kernel_rfl)
theorem zero_pair : zeroOf Try.prog 47 = .slice none 0 0 := by kernel_rfl
end Go.Proofs.Ytienifnpacoahaa
