/- Numbers and frames as lists of bytes, and what a reader finds of them: the plain law. -/
import Derived.Test.YtnhjcjnjpciifaaDoorShWalk
namespace Go.Proofs.YtnhjcjnjpciifaaDoor
abbrev Bytes := List UInt8

/-- A number's bytes. -/
def numB (n : Nat) : Bytes := if n < 128 then [UInt8.ofNat n] else UInt8.ofNat (n % 128 + 128) :: numB (n / 128)
termination_by n
decreasing_by omega
/-- What a reader of a number finds: the number, how many bytes, the error. -/
def readNum : Bytes → Nat → Nat → Nat × Nat × Nat
  | [], _, _ => (0, 0, 11)
  | c :: t, i, v =>
    if i = 9 ∧ 1 < c.toNat then (0, 0, 12)
    else if c.toNat < 128 then (if c.toNat = 0 ∧ 0 < i then (0, 0, 12) else (v + c.toNat % 128 * 2 ^ (7 * i), i + 1, 0))
    else readNum t (i + 1) (v + c.toNat % 128 * 2 ^ (7 * i))

theorem ofNat_toNat {n : Nat} (h : n < 256) : (UInt8.ofNat n).toNat = n := by
  simp [UInt8.toNat_ofNat']; omega
theorem numB_small {n : Nat} (h : n < 128) : numB n = [UInt8.ofNat n] := by rw [numB, if_pos h]
theorem numB_big {n : Nat} (h : ¬ n < 128) : numB n = UInt8.ofNat (n % 128 + 128) :: numB (n / 128) := by rw [numB, if_neg h]
theorem numB_pos (n : Nat) : 0 < (numB n).length := by
  rw [numB]; split <;> simp

theorem readNum_numB (n : Nat) : ∀ (i v : Nat) (r : Bytes), i ≤ 9 → n < 2 ^ (64 - 7 * i) → (i = 0 ∨ 0 < n) →
    readNum (numB n ++ r) i v = (v + n * 2 ^ (7 * i), i + (numB n).length, 0) := by
  induction n using Nat.strongRecOn with
  | _ n ih =>
    intro i v r hi hn h0
    by_cases hs : n < 128
    · rw [numB_small hs]
      show readNum (UInt8.ofNat n :: r) i v = _
      rw [readNum, ofNat_toNat (by omega)]
      rw [if_neg (by rintro ⟨rfl, h⟩; simp at hn; omega), if_pos hs, if_neg (by omega), Nat.mod_eq_of_lt hs]
      rfl
    · rw [numB_big hs]
      show readNum (UInt8.ofNat (n % 128 + 128) :: (numB (n / 128) ++ r)) i v = _
      have hi9 : i ≠ 9 := by rintro rfl; simp at hn; omega
      rw [readNum, ofNat_toNat (by omega)]
      rw [if_neg (by omega), if_neg (by omega)]
      have hm : (n % 128 + 128) % 128 = n % 128 := by omega
      have hlt : n / 128 < 2 ^ (64 - 7 * (i + 1)) := by
        rw [Nat.div_lt_iff_lt_mul (by decide)]
        have e : 2 ^ (64 - 7 * (i + 1)) * 128 = 2 ^ (64 - 7 * i) := by
          rw [show (128 : Nat) = 2 ^ 7 by decide, ← Nat.pow_add]; congr 1; omega
        rw [e]; exact hn
      rw [ih (n / 128) (by omega) (i + 1) _ r (by omega) hlt (.inr (by omega)), hm]
      have e2 : 2 ^ (7 * (i + 1)) = 2 ^ (7 * i) * 128 := by
        rw [show (128 : Nat) = 2 ^ 7 by decide, ← Nat.pow_add]; congr 1
      have e3 : v + n % 128 * 2 ^ (7 * i) + n / 128 * (2 ^ (7 * i) * 128) = v + n * 2 ^ (7 * i) := by
        have hd : n = n % 128 + n / 128 * 128 := by omega
        conv => rhs; rw [hd]
        rw [Nat.add_mul, Nat.add_assoc, Nat.mul_assoc, Nat.mul_comm 128 (2 ^ (7 * i))]
      rw [e2, e3]
      simp only [List.length_cons]
      congr 2
      omega
theorem readNum_short (n : Nat) : ∀ (i v k : Nat), i ≤ 9 → n < 2 ^ (64 - 7 * i) → k < (numB n).length → readNum ((numB n).take k) i v = (0, 0, 11) := by
  induction n using Nat.strongRecOn with
  | _ n ih =>
    intro i v k hi hn hk
    by_cases hs : n < 128
    · rw [numB_small hs] at hk ⊢
      have : k = 0 := by simp at hk; omega
      subst this; rfl
    · rw [numB_big hs] at hk ⊢
      cases k with
      | zero => rfl
      | succ k =>
        have hi9 : i ≠ 9 := by rintro rfl; simp at hn; omega
        rw [List.take_succ_cons, readNum, ofNat_toNat (by omega), if_neg (by omega), if_neg (by omega)]
        refine ih (n / 128) (by omega) (i + 1) _ k (by omega) ?_ (by simpa using hk)
        rw [Nat.div_lt_iff_lt_mul (by decide)]
        have e : 2 ^ (64 - 7 * (i + 1)) * 128 = 2 ^ (64 - 7 * i) := by
          rw [show (128 : Nat) = 2 ^ 7 by decide, ← Nat.pow_add]; congr 1; omega
        rw [e]; exact hn
theorem numB_len (n : Nat) : ∀ (i : Nat), i ≤ 9 → n < 2 ^ (64 - 7 * i) → (numB n).length ≤ 10 - i := by
  induction n using Nat.strongRecOn with
  | _ n ih =>
    intro i hi hn
    by_cases hs : n < 128
    · rw [numB_small hs]; simp; omega
    · rw [numB_big hs]
      have hi9 : i ≠ 9 := by rintro rfl; simp at hn; omega
      have := ih (n / 128) (by omega) (i + 1) (by omega) (by
        rw [Nat.div_lt_iff_lt_mul (by decide)]
        have e : 2 ^ (64 - 7 * (i + 1)) * 128 = 2 ^ (64 - 7 * i) := by
          rw [show (128 : Nat) = 2 ^ 7 by decide, ← Nat.pow_add]; congr 1; omega
        rw [e]; exact hn)
      simp; omega

/-- The lowest bytes of a number. -/
def lowB : Nat → Nat → Bytes
  | _, 0 => []
  | v, k + 1 => UInt8.ofNat (v % 256) :: lowB (v / 256) k
@[simp] theorem lowB_len (v k : Nat) : (lowB v k).length = k := by
  induction k generalizing v with
  | zero => rfl
  | succ k ih => simp [lowB, ih]

section
variable (crc : Bytes → Nat)
/-- A frame. -/
def frameB (p : Bytes) : Bytes := numB p.length ++ lowB (crc p) 4 ++ p
/-- What a reader of a frame finds: from, to, the error. -/
def readFr (b : Bytes) : Nat × Nat × Nat :=
  if (readNum b 0 0).2.2 ≠ 0 then (0, 0, (readNum b 0 0).2.2)
  else if 67108864 < (readNum b 0 0).1 then (0, 0, 3)
  else if b.length - (readNum b 0 0).2.1 < (readNum b 0 0).1 + 4 then (0, 0, 11)
  else if (b.drop (readNum b 0 0).2.1).take 4 = lowB (crc ((b.drop ((readNum b 0 0).2.1 + 4)).take (readNum b 0 0).1)) 4 then ((readNum b 0 0).2.1 + 4, (readNum b 0 0).2.1 + 4 + (readNum b 0 0).1, 0)
  else (0, 0, 13)
/-- What a reader of frames finds: the payloads, how many bytes, the error. -/
def readFs : Nat → Bytes → List Bytes × Nat × Nat
  | 0, _ => ([], 0, 0)
  | k + 1, b =>
    if b = [] then ([], 0, 0)
    else if (readFr crc b).2.2 ≠ 0 then ([], 0, (readFr crc b).2.2)
    else (((b.drop (readFr crc b).1).take ((readFr crc b).2.1 - (readFr crc b).1)) :: (readFs k (b.drop (readFr crc b).2.1)).1, (readFr crc b).2.1 + (readFs k (b.drop (readFr crc b).2.1)).2.1, (readFs k (b.drop (readFr crc b).2.1)).2.2)
def framesB (ps : List Bytes) : Bytes := ps.flatMap (frameB crc)
/-- How many frames are whole within so many bytes. -/
def wholeF : List Bytes → Nat → Nat
  | [], _ => 0
  | p :: t, k => if (frameB crc p).length ≤ k then wholeF t (k - (frameB crc p).length) + 1 else 0

variable {crc}
theorem readNum_le (b : Bytes) : ∀ (i v : Nat), (readNum b i v).2.1 ≤ i + b.length ∧ ((readNum b i v).2.2 = 0 → i < (readNum b i v).2.1) := by
  induction b with
  | nil => intro i v; simp [readNum]
  | cons c t ih =>
    intro i v
    rw [readNum]
    split
    · simp
    · split
      · split
        · simp
        · simp
      · have := ih (i + 1) (v + c.toNat % 128 * 2 ^ (7 * i))
        simp only [List.length_cons]
        refine ⟨by omega, fun h => ?_⟩
        have := this.2 h
        omega
theorem readFr_le (b : Bytes) : (readFr crc b).1 ≤ (readFr crc b).2.1 ∧ (readFr crc b).2.1 ≤ b.length ∧ ((readFr crc b).2.2 = 0 → 5 ≤ (readFr crc b).2.1) := by
  have h1 := readNum_le b 0 0
  unfold readFr
  split
  · simp_all
  · split
    · simp
    · split
      · simp
      · split
        · simp only
          have := h1.2 (by simp_all)
          refine ⟨by omega, by omega, fun _ => by omega⟩
        · simp
theorem readFs_fuel (k : Nat) : ∀ (b : Bytes) (m : Nat), b.length ≤ k → b.length ≤ m → readFs crc k b = readFs crc m b := by
  induction k with
  | zero =>
    intro b m h1 h2
    have : b = [] := List.eq_nil_of_length_eq_zero (by omega)
    subst this
    cases m with
    | zero => rfl
    | succ m => simp [readFs]
  | succ k ih =>
    intro b m h1 h2
    cases m with
    | zero =>
      have : b = [] := List.eq_nil_of_length_eq_zero (by omega)
      subst this
      simp [readFs]
    | succ m =>
      simp only [readFs]
      split
      · rfl
      · split
        · rfl
        · rename_i hb he
          have h3 := readFr_le (crc := crc) b
          have h4 := h3.2.2 (by simp_all)
          rw [ih (b.drop (readFr crc b).2.1) m (by rw [List.length_drop]; omega) (by rw [List.length_drop]; omega)]

theorem readFs_step (k : Nat) {b : Bytes} (hb : b ≠ []) : readFs crc (k + 1) b = if (readFr crc b).2.2 ≠ 0 then ([], 0, (readFr crc b).2.2)
    else (((b.drop (readFr crc b).1).take ((readFr crc b).2.1 - (readFr crc b).1)) :: (readFs crc k (b.drop (readFr crc b).2.1)).1, (readFr crc b).2.1 + (readFs crc k (b.drop (readFr crc b).2.1)).2.1, (readFs crc k (b.drop (readFr crc b).2.1)).2.2) := by
  rw [readFs, if_neg hb]
theorem frameB_len (p : Bytes) : (frameB crc p).length = (numB p.length).length + 4 + p.length := by simp [frameB]; omega
theorem framesB_cons (p : Bytes) (ps : List Bytes) : framesB crc (p :: ps) = frameB crc p ++ framesB crc ps := by simp [framesB]
theorem framesB_append (ps qs : List Bytes) : framesB crc (ps ++ qs) = framesB crc ps ++ framesB crc qs := by simp [framesB]
theorem num_lt {p : Bytes} (hp : p.length ≤ 67108864) : p.length < 2 ^ (64 - 7 * 0) := by
  have : (67108864 : Nat) < 2 ^ 64 := by decide
  simp only [Nat.mul_zero, Nat.sub_zero]; omega
theorem readFr_frame {p : Bytes} (r : Bytes) (hp : p.length ≤ 67108864) :
    readFr crc (frameB crc p ++ r) = ((numB p.length).length + 4, (frameB crc p).length, 0) := by
  have h1 : readNum (frameB crc p ++ r) 0 0 = (p.length, (numB p.length).length, 0) := by
    unfold frameB
    rw [List.append_assoc, List.append_assoc]
    have := readNum_numB p.length 0 0 (lowB (crc p) 4 ++ (p ++ r)) (by omega) (num_lt hp) (.inl rfl)
    simpa using this
  unfold readFr
  rw [h1]
  simp only
  rw [if_neg (by simp), if_neg (by omega), if_neg (by rw [List.length_append, frameB_len]; omega)]
  have h2 : (frameB crc p ++ r).drop (numB p.length).length = lowB (crc p) 4 ++ (p ++ r) := by
    unfold frameB
    rw [List.append_assoc, List.append_assoc, List.drop_left]
  have h3 : (frameB crc p ++ r).drop ((numB p.length).length + 4) = p ++ r := by
    rw [← List.drop_drop, h2]
    exact List.drop_left' (by simp)
  rw [h2, h3, List.take_left' (by simp), List.take_left' rfl, if_pos rfl, frameB_len]
theorem readFr_short {p : Bytes} {k : Nat} (hp : p.length ≤ 67108864) (hk : k < (frameB crc p).length) :
    readFr crc ((frameB crc p).take k) = (0, 0, 11) := by
  by_cases h : k < (numB p.length).length
  · have h1 : readNum ((frameB crc p).take k) 0 0 = (0, 0, 11) := by
      unfold frameB
      rw [List.append_assoc, List.take_append_of_le_length (by omega)]
      exact readNum_short p.length 0 0 k (by omega) (num_lt hp) h
    unfold readFr
    rw [h1]
    simp
  · have h1 : readNum ((frameB crc p).take k) 0 0 = (p.length, (numB p.length).length, 0) := by
      unfold frameB
      rw [List.append_assoc, List.take_append, List.take_of_length_le (by omega)]
      have := readNum_numB p.length 0 0 ((lowB (crc p) 4 ++ p).take (k - (numB p.length).length)) (by omega) (num_lt hp) (.inl rfl)
      simpa using this
    unfold readFr
    rw [h1]
    simp only
    rw [if_neg (by simp), if_neg (by omega), if_pos (by rw [List.length_take]; rw [frameB_len] at hk ⊢; omega)]

theorem wholeF_le : ∀ (ps : List Bytes) (k : Nat), wholeF crc ps k ≤ ps.length
  | [], _ => by simp [wholeF]
  | p :: t, k => by
    simp only [wholeF]
    split
    · have := wholeF_le t (k - (frameB crc p).length); simp; omega
    · simp
theorem frameB_ne (p : Bytes) : frameB crc p ≠ [] := by
  intro h
  have := congrArg List.length h
  rw [frameB_len] at this
  have := numB_pos p.length
  simp at *
/-- What is read of frames that are cut somewhere. -/
theorem readFs_take : ∀ (ps : List Bytes) (k fuel : Nat), (∀ p ∈ ps, p.length ≤ 67108864) → k ≤ (framesB crc ps).length → k ≤ fuel →
    readFs crc fuel ((framesB crc ps).take k) = (ps.take (wholeF crc ps k), (framesB crc (ps.take (wholeF crc ps k))).length, if (framesB crc (ps.take (wholeF crc ps k))).length = k then 0 else 11)
  | [], k, fuel, _, hk, _ => by
    have : k = 0 := by simpa [framesB] using hk
    subst this
    cases fuel <;> simp [readFs, framesB, wholeF]
  | p :: t, k, fuel, hp, hk, hf => by
    have hpp := hp p (List.mem_cons_self ..)
    have hlen := frameB_len (crc := crc) p
    have hpos := numB_pos p.length
    rw [framesB_cons] at hk ⊢
    cases k with
    | zero =>
      have hw : wholeF crc (p :: t) 0 = 0 := by simp only [wholeF]; rw [if_neg (by omega)]
      rw [hw]
      cases fuel <;> simp [readFs, framesB]
    | succ k =>
      cases fuel with
      | zero => omega
      | succ fuel =>
        by_cases hw : (frameB crc p).length ≤ k + 1
        · have e1 : (frameB crc p ++ framesB crc t).take (k + 1) = frameB crc p ++ (framesB crc t).take (k + 1 - (frameB crc p).length) := by
            rw [List.take_append, List.take_of_length_le hw]
          have e2 : wholeF crc (p :: t) (k + 1) = wholeF crc t (k + 1 - (frameB crc p).length) + 1 := by simp only [wholeF]; rw [if_pos hw]
          rw [e1, e2]
          rw [List.length_append] at hk
          have ih := readFs_take t (k + 1 - (frameB crc p).length) fuel (fun q hq => hp q (List.mem_cons_of_mem _ hq)) (by omega) (by omega)
          simp only [readFs]
          rw [if_neg (by simp [frameB_ne]), readFr_frame _ hpp]
          simp only
          rw [if_neg (by simp)]
          rw [List.drop_left, ih]
          have e3 : (frameB crc p ++ (framesB crc t).take (k + 1 - (frameB crc p).length)).drop ((numB p.length).length + 4) = p ++ (framesB crc t).take (k + 1 - (frameB crc p).length) := by
            unfold frameB
            rw [List.append_assoc, List.drop_left' (by simp)]
          rw [e3, List.take_left' (by omega)]
          simp only [List.take_succ_cons, framesB_cons, List.length_append]
          congr 2
          have : (wholeF crc t (k + 1 - (frameB crc p).length)) ≤ t.length := wholeF_le _ _
          split <;> split <;> first | rfl | omega
        · have e1 : (frameB crc p ++ framesB crc t).take (k + 1) = (frameB crc p).take (k + 1) := List.take_append_of_le_length (by omega)
          have e2 : wholeF crc (p :: t) (k + 1) = 0 := by simp only [wholeF]; rw [if_neg hw]
          rw [e1, e2]
          simp only [readFs]
          have hne : (frameB crc p).take (k + 1) ≠ [] := by
            intro h
            have := congrArg List.length h
            rw [List.length_take, List.length_nil] at this
            omega
          rw [if_neg hne, readFr_short hpp (by omega)]
          simp [framesB]
theorem wholeF_all : ∀ (ps : List Bytes), wholeF crc ps (framesB crc ps).length = ps.length
  | [] => rfl
  | p :: t => by
    simp only [wholeF]
    rw [framesB_cons, List.length_append, if_pos (by omega)]
    rw [show (frameB crc p).length + (framesB crc t).length - (frameB crc p).length = (framesB crc t).length by omega, wholeF_all t]
    rfl
theorem readFs_all (ps : List Bytes) (fuel : Nat) (hp : ∀ p ∈ ps, p.length ≤ 67108864) (hf : (framesB crc ps).length ≤ fuel) :
    readFs crc fuel (framesB crc ps) = (ps, (framesB crc ps).length, 0) := by
  have := readFs_take ps (framesB crc ps).length fuel hp (Nat.le_refl _) hf
  rw [wholeF_all, List.take_length, List.take_length] at this
  simpa using this
end
end Go.Proofs.YtnhjcjnjpciifaaDoor
