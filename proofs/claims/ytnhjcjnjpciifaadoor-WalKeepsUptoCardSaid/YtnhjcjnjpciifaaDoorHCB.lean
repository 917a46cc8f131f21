/- Codec's small functions walked: bytes appended, Clip, Number, low, ReadNumber, Equal. -/
import Derived.Test.YtnhjcjnjpciifaaDoorHCA
import Derived.Test.YtnhjcjnjpciifaaDoorHKA
import Derived.Test.YtnhjcjnjpciifaaDoorShCodec
import Derived.Test.YtnhjcjnjpciifaaDoorShMore
namespace Go.Proofs.YtnhjcjnjpciifaaDoor
open Go.Sh
theorem bval_ofNat (n : Nat) : bval (UInt8.ofNat n) = .int .u8 ((n % 256 : Nat) : Int) := by
  unfold bval; simp [UInt8.toNat_ofNat']
theorem wrap_u8 (n : Nat) : IntKind.wrap .u8 (n : Int) = ((n % 256 : Nat) : Int) := by
  simp only [IntKind.wrap, IntKind.bits, IntKind.signed, Bool.false_and, Bool.false_eq_true, if_false]; omega
theorem wrap_u64 (n : Nat) : IntKind.wrap .u64 (n : Int) = ((n % 2 ^ 64 : Nat) : Int) := by
  simp only [IntKind.wrap, IntKind.bits, IntKind.signed, Bool.false_and, Bool.false_eq_true, if_false]; omega
theorem wrap_u32 (n : Nat) : IntKind.wrap .u32 (n : Int) = ((n % 2 ^ 32 : Nat) : Int) := by
  simp only [IntKind.wrap, IntKind.bits, IntKind.signed, Bool.false_and, Bool.false_eq_true, if_false]; omega
theorem or128 (n : Nat) : bOr .u8 (IntKind.wrap .u8 (n : Int)) 128 = ((n % 128 + 128 : Nat) : Int) := by
  rw [wrap_u8]
  have h : ∀ m : Fin 256, bOr .u8 ((m.val : Nat) : Int) 128 = ((m.val % 128 + 128 : Nat) : Int) := by decide +kernel
  have := h ⟨n % 256, by omega⟩
  simp only at this
  rw [this]
  congr 2
  omega
theorem and127 (c : UInt8) : bAnd .u8 (c.toNat : Int) 127 = ((c.toNat % 128 : Nat) : Int) := by
  have h : ∀ m : Fin 256, bAnd .u8 ((m.val : Nat) : Int) 127 = ((m.val % 128 : Nat) : Int) := by decide +kernel
  exact h ⟨c.toNat, UInt8.toNat_lt c⟩
theorem or_add {a x k : Nat} (ha : a < 2 ^ k) (h : x * 2 ^ k + a < 2 ^ 64) : bOr .u64 (a : Int) ((x * 2 ^ k : Nat) : Int) = ((a + x * 2 ^ k : Nat) : Int) := by
  have h1 : (BitVec.ofInt (IntKind.bits .u64) (a : Int)).toNat = a := by
    simp only [IntKind.bits, BitVec.toNat_ofInt]; omega
  have h2 : (BitVec.ofInt (IntKind.bits .u64) ((x * 2 ^ k : Nat) : Int)).toNat = x * 2 ^ k := by
    simp only [IntKind.bits, BitVec.toNat_ofInt]; omega
  unfold bOr
  rw [BitVec.toNat_or, h1, h2, Nat.or_comm, Nat.mul_comm x, ← Nat.two_pow_add_eq_or_of_lt ha, wrap_u64, Nat.mul_comm (2 ^ k), Nat.mod_eq_of_lt h, Nat.add_comm]
attribute [local irreducible] rRun LDI LDB LDS LDP LDSl LDM LD Go.Sh.ST AL ALM LetW CallR CallV CallI NN IX SIX Br Req mInt mBool mStr mPtr mSlice mMap mAgg mTup mCons mNil mNth mPA LoopS
section
variable {w0 w : World} {F : List Nat} {L : List Own} {K : Value → World → Prop} {a : Option Addr} {n c : Nat} {bs : Bytes}
theorem appendB_walk {more : Bytes} {x : Value} (H : St w0 F w (sliceO 5 1 (.slice a n c) (bvals bs) :: L)) (hr : Reads w 1 x (bvals more)) (hl : bs.length + more.length ≤ 70000000000)
    (hK : ∀ w' a' n' c', St w0 F w' (sliceO 5 1 (.slice a' n' c') (bvals (bs ++ more)) :: L) → K (.slice a' n' c') w') :
    rRun Tryd.prog (Builtin.append_ #[41, 41] 41 #[.slice a n c, x]) w K := by
  obtain ⟨m, _, hsrc⟩ := hr.src (P := Tryd.prog) (tx := 41) elem_bytes.under (bvals_one more)
  refine append_own (t := 41) (n := m) elem_bytes (i := 0) H rfl hsrc (by simp; omega) (by decide) fun v' w3 H hf _ => ?_
  obtain ⟨a', len, cap, rfl, _⟩ := (H.get (i := 0) rfl : SliceAt _ _ _ _ _)
  rw [← bvals_append] at H
  exact hK _ _ _ _ H
theorem one_byte {b : Nat} {x : UInt8} (h : w.heap[b]? = some (.cells #[bval x] 5)) : Reads w 1 (.slice (some ⟨b, 0, none⟩) 1 1) (bvals [x]) := by
  refine ⟨_, _, _, rfl, rfl, Nat.le_refl _, .inr ⟨_, rfl, fun j hj => ?_⟩⟩
  have : j = 0 := by simp at hj; omega
  subst this
  rw [Addr.add_mk, Nat.zero_add, cell_blk h]
  rfl
theorem append1_walk {x : UInt8} {v : Int} (hx : Value.int .u8 v = bval x) (H : St w0 F w (sliceO 5 1 (.slice a n c) (bvals bs) :: L)) (hl : bs.length + 1 ≤ 70000000000)
    (hK : ∀ w' a' n' c', St w0 F w' (sliceO 5 1 (.slice a' n' c') (bvals (bs ++ [x])) :: L) → K (.slice a' n' c') w') :
    AL w (.cells #[.int .u8 v] 5) fun b w1 => rRun Tryd.prog (Builtin.append_ #[41, 41] 41 #[.slice a n c, .slice (some b) 1 1]) w1 K := by
  rw [hx]
  refine al H fun b w1 hb _ H => ?_
  exact appendB_walk (more := [x]) H.tail (one_byte hb) (by simpa using hl) hK
theorem Clip_walk (H : St w0 F w (sliceO 5 1 (.slice a n c) (bvals bs) :: L)) (hK : ∀ w', St w0 F w' (sliceO 5 1 (.slice a n n) (bvals bs) :: L) → K (.slice a n n) w') :
    CallR Tryd.prog fn_slices_Clip_s_byte_byte #[.slice a n c] w K := by
  refine slices_Clip_s_byte_byte_sound _ _ _ _ _ ?_
  obtain ⟨_, _, _, he, h1, h2, _⟩ := (H.get (i := 0) rfl : SliceAt _ 5 1 (.slice a n c) (bvals bs))
  cases he
  have hn : n = bs.length := by simpa using h1
  have ha : (if n = 0 then a else a.map (·.add (0 * 1))) = a := by
    split
    · rfl
    · cases a with
      | none => rfl
      | some a => simp [Addr.add]
  refine rRun_intro (sliceAt_run (P := Tryd.prog) elem_bytes (a := a) (len := n) (cap := c) (l := 0) (h := n) (m := n) (lo := none) (hi := some (.int .i64 n)) (mx := some (.int .i64 n)) ⟨rfl, h2⟩ ⟨rfl, Nat.le_refl _⟩ (fun _ => rfl) rfl) ?_
  rw [ha]
  refine mSlice_mk ?_
  have H := H.cut (k := n) (Nat.le_refl _)
  rw [List.take_of_length_le (by simp; omega)] at H
  exact hK _ H
theorem fdiv128 (t : Nat) : Int.fdiv (t : Int) (2 ^ (min (Int.toNat 7) (IntKind.bits .u64))) = ((t / 128 : Nat) : Int) := by
  have : min (Int.toNat 7) (IntKind.bits .u64) = 7 := by decide
  rw [this]
  have h2 : ((2 : Int) ^ 7) = 128 := by decide
  rw [h2, Int.fdiv_eq_ediv_of_nonneg _ (by decide)]
  omega
theorem fdiv256 (t : Nat) : Int.fdiv (t : Int) (2 ^ (min (Int.toNat 8) (IntKind.bits .u64))) = ((t / 256 : Nat) : Int) := by
  have : min (Int.toNat 8) (IntKind.bits .u64) = 8 := by decide
  rw [this]
  have h2 : ((2 : Int) ^ 8) = 256 := by decide
  rw [h2, Int.fdiv_eq_ediv_of_nonneg _ (by decide)]
  omega
theorem Number_walk {v : Nat} (hv : v < 2 ^ 64) (hl : bs.length ≤ 60000000000) (H : St w0 F w (sliceO 5 1 (.slice a n c) (bvals bs) :: L))
    (hK : ∀ w' a' n' c', St w0 F w' (sliceO 5 1 (.slice a' n' c') (bvals (bs ++ numB v)) :: L) → K (.slice a' n' c') w') :
    CallR Tryd.prog fn_codec_Number #[.slice a n c, .int .u64 (v : Int)] w K := by
  refine codec_Number_sound _ _ _ _ _ _ ?_
  refine Clip_walk H fun w1 H => mSlice_mk ?_
  have hnb : (numB v).length ≤ 10 := numB_len v 0 (by decide) (by simpa using hv)
  refine wLoop (fun k s w' => ∃ (pre : Bytes) (a' : Option Addr) (n' c' : Nat) (t : Nat), k = t ∧ s = (a', n', c', (t : Int)) ∧ pre ++ numB t = numB v ∧ St w0 F w' (sliceO 5 1 (.slice a' n' c') (bvals (bs ++ pre)) :: L))
    ⟨v, [], a, n, n, v, rfl, rfl, rfl, by simpa using H⟩ ?_
  clear H
  rintro k s w2 ⟨pre, a', n', c', t, rfl, rfl, hp, H⟩
  have hpl : pre.length + (numB k).length ≤ 10 := by rw [← List.length_append, hp]; exact hnb
  have hpos := numB_pos k
  refine br (fun h => ?_) (fun h => ?_)
  · have h : ¬ k < 128 := by simp at h; omega
    refine append1_walk (x := UInt8.ofNat (k % 128 + 128)) ?_ H (by simp; omega) fun w3 a3 n3 c3 H => mSlice_mk (wReq (by decide) ?_)
    · rw [or128, bval_ofNat]; congr 2; omega
    · refine ⟨k / 128, by omega, pre ++ [UInt8.ofNat (k % 128 + 128)], a3, n3, c3, k / 128, rfl, by rw [fdiv128], ?_, by rw [← List.append_assoc]; exact H⟩
      rw [List.append_assoc, ← hp, numB_big h]; rfl
  · have h : k < 128 := by simp at h; omega
    refine append1_walk (x := UInt8.ofNat k) ?_ H (by simp; omega) fun w3 a3 n3 c3 H => mSlice_mk ?_
    · rw [wrap_u8, bval_ofNat]
    · rw [List.append_assoc, ← numB_small h, hp] at H
      exact hK _ _ _ _ H
theorem low_walk {v m : Nat} (hm : m ≤ 100) (hl : bs.length ≤ 60000000000) (H : St w0 F w (sliceO 5 1 (.slice a n c) (bvals bs) :: L))
    (hK : ∀ w' a' n' c', St w0 F w' (sliceO 5 1 (.slice a' n' c') (bvals (bs ++ lowB v m)) :: L) → K (.slice a' n' c') w') :
    CallR Tryd.prog fn_codec_low #[.slice a n c, .int .u64 (v : Int), .int .i64 (m : Int)] w K := by
  refine codec_low_sound _ _ _ _ _ _ _ ?_
  refine wLoop (fun k s w' => ∃ (pre : Bytes) (a' : Option Addr) (n' c' : Nat) (t i : Nat), k + i = m ∧ s = (a', n', c', (t : Int), (m : Int), (i : Int)) ∧ pre.length = i ∧ pre ++ lowB t k = lowB v m ∧ St w0 F w' (sliceO 5 1 (.slice a' n' c') (bvals (bs ++ pre)) :: L))
    ⟨m, [], a, n, c, v, 0, rfl, rfl, rfl, rfl, by simpa using H⟩ ?_
  clear H
  rintro k s w2 ⟨pre, a', n', c', t, i, hk, rfl, hpl, hp, H⟩
  refine br (fun h => ?_) (fun h => ?_)
  · have h : i < m := by simp at h; omega
    obtain ⟨k, rfl⟩ : ∃ q, k = q + 1 := ⟨k - 1, by omega⟩
    refine append1_walk (x := UInt8.ofNat (t % 256)) ?_ H (by simp; omega) fun w3 a3 n3 c3 H => mSlice_mk (wReq (by decide) ?_)
    · rw [wrap_u8, bval_ofNat, Nat.mod_mod]
    · have hwi : IntKind.wrap .i64 ((i : Int) + 1) = ((i + 1 : Nat) : Int) := by rw [wrap_id (by omega) (by omega)]; rfl
      refine ⟨k, by omega, pre ++ [UInt8.ofNat (t % 256)], a3, n3, c3, t / 256, i + 1, by omega, by rw [fdiv256, hwi], by simp; omega, ?_, by rw [← List.append_assoc]; exact H⟩
      rw [List.append_assoc, ← hp]; rfl
  · have h : k = 0 := by simp at h; omega
    subst h
    rw [show lowB t 0 = [] by rfl, List.append_nil] at hp
    rw [hp] at H
    exact hK _ _ _ _ H
theorem readNum_step {bs : Bytes} {i : Nat} {x : UInt8} (h : bs[i]? = some x) : bs.drop i = x :: bs.drop (i + 1) := by
  obtain ⟨hi, he⟩ := List.getElem?_eq_some_iff.1 h
  rw [List.drop_eq_getElem_cons hi, he]
theorem ReadNumber_walk (H : St w0 F w L) (hr : ∀ w', St w0 F w' L → Reads w' 1 (.slice a n c) (bvals bs)) (_hl : bs.length ≤ 60000000000)
    (hK : ∀ w', St w0 F w' L → K (.tuple #[.int .u64 ((readNum bs 0 0).1 : Int), .int .i64 ((readNum bs 0 0).2.1 : Int), .int .i64 ((readNum bs 0 0).2.2 : Int)]) w') :
    CallR Tryd.prog fn_codec_ReadNumber #[.slice a n c] w K := by
  have hn : n = bs.length := by simpa using (hr w H).len
  refine codec_ReadNumber_sound _ _ _ _ _ ?_
  refine wLoop (fun k s w' => ∃ (i v : Nat), k + i = bs.length ∧ i ≤ 9 ∧ v < 2 ^ (7 * i) ∧ s = ((v : Int), a, n, c, (n : Int), (i : Int)) ∧ readNum (bs.drop i) i v = readNum bs 0 0 ∧ St w0 F w' L)
    ⟨bs.length, 0, 0, rfl, by decide, by decide, rfl, rfl, H⟩ ?_
  clear H
  rintro k s w2 ⟨i, v, hk, hi9, hv, rfl, he, H⟩
  refine br (fun h => ?_) (fun h => ?_)
  · have hi : i < bs.length := by simp at h; omega
    obtain ⟨x, hx⟩ : ∃ x, bs[i]? = some x := ⟨_, List.getElem?_eq_getElem hi⟩
    refine wIXr (hr w2 H) (i := i) (by simpa using hi) rfl fun ad had => ?_
    rw [bvals, List.getElem?_map, hx] at had
    refine ldI had ?_
    rw [readNum_step hx, readNum] at he
    have hxb := UInt8.toNat_lt x
    have h7 : IntKind.wrap .i64 (7 * (i : Int)) = ((7 * i : Nat) : Int) := by rw [wrap_id (by omega) (by omega)]; omega
    have hmin : min (7 * i) (IntKind.bits .u64) = 7 * i := by have : IntKind.bits .u64 = 64 := rfl; omega
    have hpw : (2 : Nat) ^ (7 * i) ≤ 2 ^ 63 := Nat.pow_le_pow_right (by decide) (by omega)
    have hwi : IntKind.wrap .i64 ((i : Int) + 1) = ((i + 1 : Nat) : Int) := by rw [wrap_id (by omega) (by omega)]; rfl
    have hval : ¬ (i = 9 ∧ 1 < x.toNat) → bOr .u64 (v : Int) (IntKind.wrap .u64 ((IntKind.wrap .u64 (bAnd .u8 (x.toNat : Int) 127)) * 2 ^ (min (Int.toNat (IntKind.wrap .i64 (7 * (i : Int)))) (IntKind.bits .u64)))) = ((v + x.toNat % 128 * 2 ^ (7 * i) : Nat) : Int) ∧ v + x.toNat % 128 * 2 ^ (7 * i) < 2 ^ 64 := by
      intro hne
      have e1 : x.toNat % 128 * 2 ^ (7 * i) + v < 2 ^ 64 := by
        have e0 : x.toNat % 128 * 2 ^ (7 * i) + v < (x.toNat % 128 + 1) * 2 ^ (7 * i) := by rw [Nat.add_mul]; omega
        by_cases h9 : i = 9
        · subst h9
          have : x.toNat % 128 + 1 ≤ 2 := by omega
          exact Nat.lt_of_lt_of_le e0 (Nat.le_trans (Nat.mul_le_mul_right _ this) (by decide))
        · have h1 : (x.toNat % 128 + 1) * 2 ^ (7 * i) ≤ 128 * 2 ^ (7 * i) := Nat.mul_le_mul_right _ (by omega)
          have h2 : (2 : Nat) ^ (7 * i) ≤ 2 ^ 56 := Nat.pow_le_pow_right (by decide) (by omega)
          have h3 : 128 * (2 : Nat) ^ (7 * i) ≤ 128 * 2 ^ 56 := Nat.mul_le_mul_left _ h2
          omega
      rw [h7, Int.toNat_natCast, hmin, and127, wrap_u64, Nat.mod_eq_of_lt (by omega)]
      have e2 : ((x.toNat % 128 : Nat) : Int) * 2 ^ (7 * i) = ((x.toNat % 128 * 2 ^ (7 * i) : Nat) : Int) := by
        rw [Int.natCast_mul, Int.natCast_pow]; rfl
      rw [e2, wrap_u64, Nat.mod_eq_of_lt (by omega), or_add hv e1]
      exact ⟨rfl, by omega⟩
    have done : ¬ (i = 9 ∧ 1 < x.toNat) → x.toNat < 128 → ¬ (x.toNat = 0 ∧ 0 < i) → K (.tuple #[.int .u64 (bOr .u64 (v : Int) (IntKind.wrap .u64 ((IntKind.wrap .u64 (bAnd .u8 (x.toNat : Int) 127)) * 2 ^ (min (Int.toNat (IntKind.wrap .i64 (7 * (i : Int)))) (IntKind.bits .u64))))), .int .i64 (IntKind.wrap .i64 ((i : Int) + 1)), .int .i64 0]) w2 := by
      intro h1 h2 h3
      rw [if_neg h1, if_pos h2, if_neg h3] at he
      have := hK w2 H
      rw [← he] at this
      rw [(hval h1).1, hwi]
      exact this
    have bad : (i = 9 ∧ 1 < x.toNat) ∨ (¬ (i = 9 ∧ 1 < x.toNat) ∧ x.toNat < 128 ∧ x.toNat = 0 ∧ 0 < i) → K (.tuple #[.int .u64 0, .int .i64 0, .int .i64 12]) w2 := by
      intro h1
      have := hK w2 H
      rw [← he] at this
      rcases h1 with h1 | ⟨h1, h2, h3⟩
      · rw [if_pos h1] at this; exact this
      · rw [if_neg h1, if_pos h2, if_pos h3] at this; exact this
    have next : ¬ (i = 9 ∧ 1 < x.toNat) → ¬ x.toNat < 128 → ∃ k', k' < k ∧ ∃ (i' v' : Nat), k' + i' = bs.length ∧ i' ≤ 9 ∧ v' < 2 ^ (7 * i') ∧ (bOr .u64 (v : Int) (IntKind.wrap .u64 ((IntKind.wrap .u64 (bAnd .u8 (x.toNat : Int) 127)) * 2 ^ (min (Int.toNat (IntKind.wrap .i64 (7 * (i : Int)))) (IntKind.bits .u64)))), a, n, c, (n : Int), IntKind.wrap .i64 ((i : Int) + 1)) = ((v' : Int), a, n, c, (n : Int), (i' : Int)) ∧ readNum (bs.drop i') i' v' = readNum bs 0 0 ∧ St w0 F w2 L := by
      intro h1 h2
      rw [if_neg h1, if_neg h2] at he
      refine ⟨k - 1, by omega, i + 1, v + x.toNat % 128 * 2 ^ (7 * i), by omega, by omega, ?_, by rw [(hval h1).1, hwi], he, H⟩
      have e0 : x.toNat % 128 * 2 ^ (7 * i) + v < (x.toNat % 128 + 1) * 2 ^ (7 * i) := by rw [Nat.add_mul]; omega
      have h1 : (x.toNat % 128 + 1) * 2 ^ (7 * i) ≤ 128 * 2 ^ (7 * i) := Nat.mul_le_mul_right _ (by omega)
      have e2 : 2 ^ (7 * (i + 1)) = 128 * 2 ^ (7 * i) := by
        rw [show (128 : Nat) = 2 ^ 7 by decide, ← Nat.pow_add]; congr 1; omega
      omega
    refine br (fun h9 => ?_) (fun h9 => ?_)
    · have h9 : i = 9 := by simp at h9; omega
      refine br (fun h1 => bad (.inl ⟨h9, by simp at h1; omega⟩)) (fun h1 => ?_)
      have h1 : ¬ (i = 9 ∧ 1 < x.toNat) := by simp at h1; omega
      refine wReq (by rw [h7]; omega) (br (fun h2 => br (fun h3 => br (fun h4 => bad (.inr ⟨h1, by simp at h2; omega, by simp at h3; simp [h3], by omega⟩)) (fun h4 => by simp at h4; omega)) (fun h3 => done h1 (by simp at h2; omega) (fun h => by simp at h3; exact h3 h.1))) (fun h2 => next h1 (by simp at h2; omega)))
    · have h1 : ¬ (i = 9 ∧ 1 < x.toNat) := by simp at h9; omega
      refine wReq (by rw [h7]; omega) (br (fun h2 => br (fun h3 => br (fun h4 => bad (.inr ⟨h1, by simp at h2; omega, by simp at h3; simp [h3], by simp at h4; omega⟩)) (fun h4 => done h1 (by simp at h2; omega) (by simp at h4; omega))) (fun h3 => done h1 (by simp at h2; omega) (fun h => by simp at h3; exact h3 h.1))) (fun h2 => next h1 (by simp at h2; omega)))
  · have hi : bs.length ≤ i := by simp at h; omega
    rw [List.drop_of_length_le hi] at he
    have := hK w2 H
    rw [← he] at this
    exact this
theorem Equal_walk {a2 : Option Addr} {n2 c2 : Nat} {bs2 : Bytes} (H : St w0 F w L) (hr : ∀ w', St w0 F w' L → Reads w' 1 (.slice a n c) (bvals bs)) (hr2 : ∀ w', St w0 F w' L → Reads w' 1 (.slice a2 n2 c2) (bvals bs2)) (hl : bs.length ≤ 60000000000)
    (hK : ∀ w', St w0 F w' L → K (.bool (decide (bs = bs2))) w') :
    CallR Tryd.prog fn_slices_Equal_s_byte_byte #[.slice a n c, .slice a2 n2 c2] w K := by
  have hn : n = bs.length := by simpa using (hr w H).len
  have hn2 : n2 = bs2.length := by simpa using (hr2 w H).len
  refine slices_Equal_s_byte_byte_sound _ _ _ _ _ _ _ _ ?_
  refine br (fun h => ?_) (fun h => ?_)
  · have : bs ≠ bs2 := by rintro rfl; simp at h; omega
    have h := hK w H
    rw [decide_eq_false this] at h
    exact h
  · have hlen : bs.length = bs2.length := by simp at h; omega
    refine wLoop (fun k s w' => ∃ (i : Nat), k + i = bs.length ∧ s = (a, n, c, a2, n2, c2, (n : Int), (i : Int)) ∧ bs.take i = bs2.take i ∧ St w0 F w' L) ⟨bs.length, 0, rfl, rfl, rfl, H⟩ ?_
    clear H
    rintro k s w2 ⟨i, hk, rfl, he, H⟩
    refine br (fun h => ?_) (fun h => ?_)
    · have hi : i < bs.length := by simp at h; omega
      obtain ⟨x, hx⟩ : ∃ x, bs[i]? = some x := ⟨_, List.getElem?_eq_getElem hi⟩
      obtain ⟨y, hy⟩ : ∃ y, bs2[i]? = some y := ⟨_, List.getElem?_eq_getElem (by omega)⟩
      refine wLW H ?_
      intro w3 H
      refine wIXr (hr w3 H) (i := i) (by simpa using hi) rfl fun ad had => ?_
      rw [bvals, List.getElem?_map, hx] at had
      refine ldI had ?_
      refine wIXr (hr2 w3 H) (i := i) (by simp; omega) rfl fun ad had => ?_
      rw [bvals, List.getElem?_map, hy] at had
      refine ldI had ?_
      obtain ⟨h1, e1⟩ := List.getElem?_eq_some_iff.1 hx
      obtain ⟨h2, e2⟩ := List.getElem?_eq_some_iff.1 hy
      refine br (fun h => ?_) (fun h => ?_)
      · have hxy : x ≠ y := by rintro rfl; simp at h
        have : bs ≠ bs2 := by rintro rfl; rw [hx] at hy; exact hxy (Option.some.inj hy)
        have h := hK w3 H
        rw [decide_eq_false this] at h
        exact h
      · have hxy : x = y := by
          simp at h
          exact UInt8.toNat_inj.1 (by omega)
        have hwi : IntKind.wrap .i64 ((i : Int) + 1) = ((i + 1 : Nat) : Int) := by rw [wrap_id (by omega) (by omega)]; rfl
        refine ⟨k - 1, by omega, i + 1, by omega, by rw [hwi], ?_, H⟩
        rw [← List.take_append_getElem h1, ← List.take_append_getElem h2, he, e1, e2, hxy]
    · have hi : bs.length ≤ i := by simp at h; omega
      rw [List.take_of_length_le hi, List.take_of_length_le (by omega)] at he
      have h := hK w2 H
      rw [decide_eq_true he] at h
      exact h
end
end Go.Proofs.YtnhjcjnjpciifaaDoor
