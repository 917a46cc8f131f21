/- Numbers as texts of six digits: the plain law. -/
import Derived.Test.YtnhjcjnjpciifaaDoorShWalk
import Derived.Lib.ItoaNum
import Derived.Lib.Atoi
namespace Go.Proofs.YtnhjcjnjpciifaaDoor
open Go.Sh
/-- The last six digits of a number. -/
def dig6 (n : Nat) : List UInt8 := [UInt8.ofNat (48 + n / 100000 % 10), UInt8.ofNat (48 + n / 10000 % 10), UInt8.ofNat (48 + n / 1000 % 10), UInt8.ofNat (48 + n / 100 % 10), UInt8.ofNat (48 + n / 10 % 10), UInt8.ofNat (48 + n % 10)]
/-- Zeros ahead, up to six digits. -/
def pad6 (l : List UInt8) : List UInt8 := List.replicate (6 - l.length) 48 ++ l
theorem dec_small {n : Nat} (h : n < 10) : Lib.decDigits n = [UInt8.ofNat (48 + n)] := by rw [Lib.decDigits, dif_pos h]
theorem dec_big {n : Nat} (h : ¬ n < 10) : Lib.decDigits n = Lib.decDigits (n / 10) ++ [UInt8.ofNat (48 + n % 10)] := by rw [Lib.decDigits, dif_neg h]
def dgs : Nat → Nat → List UInt8
  | 0, _ => []
  | k + 1, n => dgs k (n / 10) ++ [UInt8.ofNat (48 + n % 10)]
theorem dgs_zero : ∀ k, dgs k 0 = List.replicate k 48
  | 0 => rfl
  | k + 1 => by
    rw [dgs, Nat.zero_div, dgs_zero k, List.replicate_succ']
    rfl
theorem pad_dgs : ∀ (k n : Nat), 0 < k → n < 10 ^ k → (Lib.decDigits n).length ≤ k ∧ List.replicate (k - (Lib.decDigits n).length) 48 ++ Lib.decDigits n = dgs k n
  | 0, _, h, _ => absurd h (by decide)
  | k + 1, n, _, hn => by
    by_cases h : n < 10
    · rw [dec_small h, dgs]
      have : n / 10 = 0 := by omega
      rw [this, dgs_zero]
      have h2 : n % 10 = n := by omega
      rw [h2]
      simp
    · have hk : 0 < k := by
        rcases Nat.eq_zero_or_pos k with rfl | h'
        · simp at hn; omega
        · exact h'
      have := pad_dgs k (n / 10) hk (by rw [Nat.div_lt_iff_lt_mul (by decide), ← Nat.pow_succ]; exact hn)
      rw [dec_big h, dgs, ← this.2]
      simp
      exact this.1
theorem dgs_six (n : Nat) : dgs 6 n = dig6 n := by
  simp only [dgs, dig6, List.nil_append, List.cons_append, Nat.div_div_eq_div_mul]
theorem pad6_dec {n : Nat} (h : n < 1000000) : pad6 (Lib.decDigits n) = dig6 n ∧ (Lib.decDigits n).length ≤ 6 := by
  have := pad_dgs 6 n (by decide) (by simpa using h)
  unfold pad6
  rw [this.2, dgs_six]
  exact ⟨rfl, this.1⟩
theorem itoa_nat (n : Nat) : Lib.itoa (n : Int) = Lib.decDigits n := by
  unfold Lib.itoa
  rw [if_neg (by omega)]; simp
theorem digit_of {d : Nat} (h : d < 10) : Lib.digitVal (UInt8.ofNat (48 + d)) = some d ∧ UInt8.ofNat (48 + d) ≠ 45 ∧ UInt8.ofNat (48 + d) ≠ 43 := by
  have : ∀ d : Fin 10, Lib.digitVal (UInt8.ofNat (48 + d.val)) = some d.val ∧ UInt8.ofNat (48 + d.val) ≠ 45 ∧ UInt8.ofNat (48 + d.val) ≠ 43 := by decide +kernel
  exact this ⟨d, h⟩
theorem atoi_dig6 {n : Nat} (h : n < 1000000) : Lib.atoi (dig6 n) = some (n : Int) := by
  have d0 := digit_of (d := n / 100000 % 10) (by omega)
  have d1 := digit_of (d := n / 10000 % 10) (by omega)
  have d2 := digit_of (d := n / 1000 % 10) (by omega)
  have d3 := digit_of (d := n / 100 % 10) (by omega)
  have d4 := digit_of (d := n / 10 % 10) (by omega)
  have d5 := digit_of (d := n % 10) (by omega)
  unfold dig6 Lib.atoi
  simp only [beq_iff_eq, d0.2.1, d0.2.2, if_false, Lib.decNat, List.isEmpty_cons, Lib.decFrom, d0.1, d1.1, d2.1, d3.1, d4.1, d5.1, Option.map_some, Bool.false_eq_true]
  congr 1
  omega
theorem dig6_inj {m n : Nat} (hm : m < 1000000) (hn : n < 1000000) (h : dig6 m = dig6 n) : m = n := by
  have e : some ((m : Nat) : Int) = some ((n : Nat) : Int) := (atoi_dig6 hm).symm.trans ((congrArg Lib.atoi h).trans (atoi_dig6 hn))
  exact Int.ofNat.inj (Option.some.inj e)
theorem digit_lt {a b : Nat} (ha : a < 10) (hb : b < 10) : UInt8.ofNat (48 + a) < UInt8.ofNat (48 + b) ↔ a < b := by
  have : ∀ (a b : Fin 10), UInt8.ofNat (48 + a.val) < UInt8.ofNat (48 + b.val) ↔ a.val < b.val := by decide +kernel
  exact this ⟨a, ha⟩ ⟨b, hb⟩
theorem cons_le6 {a b : Nat} {x y : List UInt8} (ha : a < 10) (hb : b < 10) (h : a < b ∨ (a = b ∧ x ≤ y)) : UInt8.ofNat (48 + a) :: x ≤ UInt8.ofNat (48 + b) :: y := by
  rw [List.cons_le_cons_iff]
  rcases h with h | ⟨rfl, h⟩
  · exact .inl ((digit_lt ha hb).2 h)
  · exact .inr ⟨rfl, h⟩
def toDig (l : List Nat) : List UInt8 := l.map fun d => UInt8.ofNat (48 + d)
def val10 : List Nat → Nat
  | [] => 0
  | d :: t => d * 10 ^ t.length + val10 t
theorem val10_lt : ∀ (l : List Nat), (∀ d ∈ l, d < 10) → val10 l < 10 ^ l.length
  | [], _ => by simp [val10]
  | d :: t, h => by
    have h1 := val10_lt t fun x hx => h x (List.mem_cons_of_mem _ hx)
    have h2 := h d (List.mem_cons_self ..)
    have h3 : d * 10 ^ t.length ≤ 9 * 10 ^ t.length := Nat.mul_le_mul_right _ (by omega)
    simp only [val10, List.length_cons, Nat.pow_succ]
    omega
theorem toDig_le : ∀ (l m : List Nat), (∀ d ∈ l, d < 10) → (∀ d ∈ m, d < 10) → l.length = m.length → val10 l ≤ val10 m → toDig l ≤ toDig m
  | [], [], _, _, _, _ => List.le_refl _
  | [], _ :: _, _, _, h, _ => by simp at h
  | _ :: _, [], _, _, h, _ => by simp at h
  | a :: l, b :: m, hl, hm, hlen, hv => by
    have ha := hl a (List.mem_cons_self ..)
    have hb := hm b (List.mem_cons_self ..)
    have hl' := fun x hx => hl x (List.mem_cons_of_mem a hx)
    have hm' := fun x hx => hm x (List.mem_cons_of_mem b hx)
    have hlen' : l.length = m.length := by simpa using hlen
    refine cons_le6 (x := toDig l) (y := toDig m) ha hb ?_
    have h1 := val10_lt l hl'
    have h2 := val10_lt m hm'
    simp only [val10, hlen'] at hv h1
    rcases Nat.lt_trichotomy a b with h | h | h
    · exact .inl h
    · subst h
      exact .inr ⟨rfl, toDig_le l m hl' hm' hlen' (by omega)⟩
    · exfalso
      have h3 : (b + 1) * 10 ^ m.length ≤ a * 10 ^ m.length := Nat.mul_le_mul_right _ h
      rw [Nat.add_mul] at h3
      omega
def nat6 (n : Nat) : List Nat := [n / 100000 % 10, n / 10000 % 10, n / 1000 % 10, n / 100 % 10, n / 10 % 10, n % 10]
theorem dig6_toDig (n : Nat) : dig6 n = toDig (nat6 n) := rfl
theorem nat6_lt (n : Nat) : ∀ d ∈ nat6 n, d < 10 := by
  intro d hd
  simp only [nat6, List.mem_cons, List.not_mem_nil, or_false] at hd
  rcases hd with rfl | rfl | rfl | rfl | rfl | rfl <;> exact Nat.mod_lt _ (by decide)
theorem nat6_val {n : Nat} (h : n < 1000000) : val10 (nat6 n) = n := by
  simp only [nat6, val10, List.length_cons, List.length_nil]
  omega
/-- The texts lie in the numbers' order. -/
theorem dig6_le {m n : Nat} (hmn : m ≤ n) (hn : n < 1000000) : dig6 m ≤ dig6 n := by
  rw [dig6_toDig, dig6_toDig]
  exact toDig_le _ _ (nat6_lt m) (nat6_lt n) rfl (by rw [nat6_val (by omega), nat6_val hn]; exact hmn)
end Go.Proofs.YtnhjcjnjpciifaaDoor
