/- A sort's contract at elements of several cells, on slices that a call owns; elements of several cells. -/
import Derived.Test.YtnhjcjnjpciifaaDoorShMore
import Derived.Shelf.GgSortFunc.InsertionK
namespace Go.Sh
open Go.Sort
variable {P : Program} {α : Type}

theorem flat_length {β : Type} {f : α → List β} {k : Nat} (hk : ∀ x, (f x).length = k) (l : List α) : (l.flatMap f).length = l.length * k := by
  induction l with
  | nil => simp
  | cons a t ih => rw [List.flatMap_cons, List.length_append, ih, hk, List.length_cons, Nat.add_mul, Nat.one_mul, Nat.add_comm]
theorem flat_get {β : Type} {f : α → List β} {k : Nat} (hk : ∀ x, (f x).length = k) : ∀ (l : List α) (i j : Nat), j < k → (l.flatMap f)[i * k + j]? = l[i]?.bind fun x => (f x)[j]?
  | [], i, j, _ => by simp
  | a :: t, 0, j, hj => by
    rw [List.flatMap_cons, Nat.zero_mul, Nat.zero_add, List.getElem?_append_left (by rw [hk]; exact hj)]
    simp
  | a :: t, i + 1, j, hj => by
    rw [List.flatMap_cons, List.getElem?_append_right (by rw [hk, Nat.add_mul]; omega), hk]
    rw [show (i + 1) * k + j - k = i * k + j by rw [Nat.add_mul]; omega, flat_get hk t i j hj]
    simp
theorem flat_take {β : Type} {f : α → List β} {k : Nat} (hk : ∀ x, (f x).length = k) (l : List α) (i : Nat) : (l.flatMap f).take (i * k) = (l.take i).flatMap f := by
  induction l generalizing i with
  | nil => simp
  | cons a t ih =>
    cases i with
    | zero => simp
    | succ i => rw [List.flatMap_cons, List.take_succ_cons, List.flatMap_cons, List.take_append, hk, Nat.add_mul, Nat.one_mul, Nat.add_sub_cancel, ih, List.take_of_length_le (by rw [hk]; omega)]
theorem flat_drop {β : Type} {f : α → List β} {k : Nat} (hk : ∀ x, (f x).length = k) (l : List α) (i : Nat) : (l.flatMap f).drop (i * k) = (l.drop i).flatMap f := by
  induction l generalizing i with
  | nil => simp
  | cons a t ih =>
    cases i with
    | zero => simp
    | succ i => rw [List.flatMap_cons, List.drop_succ_cons, List.drop_append, hk, Nat.add_mul, Nat.one_mul, Nat.add_sub_cancel, ih, List.drop_of_length_le (by rw [hk]; omega)]; rfl

def SortConK [Inhabited α] (P : Program) (f : FuncId) (more : List Value) (enc : α → List Value) (k : Nat) (srt : List α → List α → Prop) : Prop :=
  ∀ (blk off cap : Nat) (ss : List α) (w : World), HoldsK enc k w blk off ss.toArray → blk < w.heap.size → ss.length < 4611686018427387904 →
    Calls P f (.slice (some ⟨blk, off, none⟩) ss.length cap :: more).toArray w fun e w' => e = .returned (.tuple #[]) ∧ ∃ n os d, srt ss d ∧ w' = grow (putRowK enc k (Sort.ahead w n) blk off d.toArray) os

theorem sort_ownK [Inhabited α] {f : FuncId} {more : List Value} {enc : α → List Value} {k : Nat} {srt : List α → List α → Prop} (hk : ∀ x, (enc x).length = k) (hk0 : 0 < k) (hc : SortConK P f more enc k srt) (hl : ∀ s d, srt s d → d.length = s.length)
    {w0 w : World} {F : List Nat} {L : List Own} {E n cap : Nat} {x : Option Addr} {ss : List α} {K : Value → World → Prop}
    (H : St w0 F w (sliceO E k (.slice x n cap) (ss.flatMap enc) :: L)) (hne : ss ≠ []) (hlen : ss.length < 4611686018427387904)
    (hK : ∀ w' d, srt ss d → St w0 F w' (sliceO E k (.slice x n cap) (d.flatMap enc) :: L) → Fr (sfp (.slice x n cap)) w w' → K (.tuple #[]) w') : CallR P f (.slice x n cap :: more).toArray w K := by
  have hat : SliceAt w E k (.slice x n cap) (ss.flatMap enc) := H.has.all _ (List.mem_cons_self ..)
  obtain ⟨_, _, _, he, h1, h2, h3⟩ := hat
  cases he
  have hn : n = ss.length := by rw [flat_length hk] at h1; exact Nat.eq_of_mul_eq_mul_right hk0 h1
  subst hn
  have hpos : 0 < ss.length := List.length_pos_iff.2 hne
  rcases h3 with h3 | ⟨b, cc, fz, rfl, hblk, hcs, hcells, hfz⟩
  · omega
  have hlt := blk_lt hblk
  have hle : ss.length * k ≤ cap * k := Nat.mul_le_mul_right _ h2
  have hfl : ∀ (d : List α) t, t < d.length * k → (d.flatMap enc)[t]? = some ((flatK enc k d.toArray)[t]!) := by
    intro d t ht
    have hq : t / k < d.length := by rw [Nat.div_lt_iff_lt_mul hk0]; exact ht
    have hm : t % k < k := Nat.mod_lt _ hk0
    rw [get_flatK _ _ _ _ (by simpa using ht)]
    have hd : t = t / k * k + t % k := (Nat.div_add_mod' t k).symm
    have h4 := flat_get hk d (t / k) (t % k) hm
    rw [← hd] at h4
    rw [h4, List.getElem?_eq_getElem hq]
    simp only [Option.bind_some]
    rw [List.getElem?_eq_getElem (by rw [hk]; exact hm)]
    congr 1
    rw [getElem!_pos d.toArray (t / k) (by simpa using hq)]
    simp only [List.getElem_toArray]
    rw [getElem!_pos _ _ (by rw [hk]; exact hm)]
  have hH : HoldsK enc k w b 0 ss.toArray := by
    intro j hj
    have hj : j < ss.length * k := by simpa using hj
    rw [Nat.zero_add]
    refine ⟨?_, ?_⟩
    · rw [cell_blk hblk, hcells j (by rw [flat_length hk]; exact hj), hfl ss j hj]; rfl
    · rw [frozen_blk hblk]
      exact fzok_get hfz (by omega)
  have hcall := hc b 0 cap ss w hH hlt hlen
  refine CallR_mono (R := fun v w' => v = .tuple #[] ∧ ∃ n os d, srt ss d ∧ w' = grow (putRowK enc k (Sort.ahead w n) b 0 d.toArray) os) ?_ ?_
  · refine hcall.mono fun e w' h => ?_
    obtain ⟨rfl, h⟩ := h
    exact ⟨rfl, h⟩
  rintro v w' ⟨rfl, n, os, d, hd, rfl⟩
  have hdl := hl _ _ hd
  have hhs : (grow (putRowK enc k (Sort.ahead w n) b 0 d.toArray) os).heap = (w.heap.modify b (onCells (putCells id 0 (flatK enc k d.toArray)))) ++ os := rfl
  have hmod : ∀ q, q < w.heap.size → (grow (putRowK enc k (Sort.ahead w n) b 0 d.toArray) os).heap[q]? = (w.heap.modify b (onCells (putCells id 0 (flatK enc k d.toArray))))[q]? := by
    intro q hq
    rw [hhs, Array.getElem?_append_left (by simpa using hq)]
  have hnew : (grow (putRowK enc k (Sort.ahead w n) b 0 d.toArray) os).heap[b]? = some (.cells (putCells id 0 (flatK enc k d.toArray) cc) E fz) := by
    rw [hmod b hlt, Array.getElem?_modify, if_pos rfl, hblk]
    rfl
  have hfr : Fr (sfp (.slice (some ⟨b, 0, none⟩) ss.length cap)) w (grow (putRowK enc k (Sort.ahead w n) b 0 d.toArray) os) := by
    obtain ⟨q, rfl⟩ : ∃ q, cap = q + 1 := ⟨cap - 1, by omega⟩
    refine ⟨rfl, rfl, rfl, by rw [hhs]; simp, fun q hq hn => ?_⟩
    have hkb : q ≠ b := by simpa [sfp] using hn
    rw [hmod q hq, Array.getElem?_modify, if_neg (Ne.symm hkb)]
  refine hK _ d hd ?_ hfr
  refine St.step (A := [sliceO E k (.slice (some ⟨b, 0, none⟩) ss.length cap) (ss.flatMap enc)]) (A' := [sliceO E k (.slice (some ⟨b, 0, none⟩) ss.length cap) (d.flatMap enc)]) H (by simpa [sliceO] using hfr) ?_ (fun b hb => .inl hb)
  have hat : SliceAt (grow (putRowK enc k (Sort.ahead w n) b 0 d.toArray) os) E k (.slice (some ⟨b, 0, none⟩) ss.length cap) (d.flatMap enc) := by
    refine ⟨_, _, _, rfl, by rw [flat_length hk, hdl], h2, .inr ⟨b, _, fz, rfl, hnew, by simpa [putCells] using hcs, fun j hj => ?_, hfz⟩⟩
    have hj : j < d.length * k := by rwa [flat_length hk] at hj
    have hjc : j < cc.size := by rw [hdl] at hj; omega
    rw [hfl d j hj]
    simp [putCells, hjc, hj]
  exact Has.cons (o := sliceO E k (.slice (some ⟨b, 0, none⟩) ss.length cap) (d.flatMap enc)) hat (sfp_nodup (.slice (some ⟨b, 0, none⟩) ss.length cap)) hat.lt (by simp) (.nil _)

theorem CallR_calls {f : FuncId} {args : Array Value} {w : World} {R : Value → World → Prop} (h : CallR P f args w R) : Calls P f args w fun e w' => ∃ v, e = .returned v ∧ R v w' := by
  have h2 : Calls P f args w fun e w' => match e with | .returned v => R v w' | _ => False := h
  refine h2.mono fun e w' h => ?_
  cases e with
  | returned v => exact ⟨v, rfl, h⟩
  | _ => exact h.elim

section
variable {w0 w : World} {F : List Nat} {L : List Own}
/-- An element of several cells in a slice: where it is, what its cells hold. -/
theorem wIXs {E sz n m i : Nat} {x : Option Addr} {v : Int} {cs : List Value} {K : Addr → Prop} (hs : SliceAt w E sz (.slice x n m) cs) (hi : i < n) (hv : v = (i : Int))
    (hK : ∀ b, x = some ⟨b, 0, none⟩ → (∀ j, j < sz → w.cell? ⟨b, i * sz + j, none⟩ = cs[i * sz + j]?) → K ⟨b, i * sz, none⟩) : IX x n v sz K := by
  obtain ⟨_, _, _, he, h1, h2, h3⟩ := hs
  cases he
  rcases h3 with h3 | ⟨b, cc, fz, rfl, hblk, hcs, hcells, hfz⟩
  · omega
  · unfold IX
    refine ⟨_, rfl, by omega, by omega, ?_⟩
    have : v.toNat * sz = i * sz := by rw [hv]; rfl
    rw [this, Addr.add_mk, Nat.zero_add]
    refine hK b rfl fun j hj => ?_
    rw [cell_blk hblk, hcells _ (by
      rw [← h1]
      have : (i + 1) * sz ≤ n * sz := Nat.mul_le_mul_right _ hi
      rw [Nat.add_mul] at this
      omega)]
/-- The same of a slice of the caller's. -/
theorem wIXsr {sz n m i : Nat} {x : Option Addr} {v : Int} {cs : List Value} {K : Addr → Prop} (hs : Reads w sz (.slice x n m) cs) (hi : i < n) (hv : v = (i : Int))
    (hK : ∀ ad : Addr, (∀ j, j < sz → w.cell? (ad.add j) = cs[i * sz + j]?) → K ad) : IX x n v sz K := by
  obtain ⟨_, _, _, he, h1, h2, h3⟩ := hs
  cases he
  rcases h3 with h3 | ⟨ad, rfl, h4⟩
  · omega
  · unfold IX
    refine ⟨_, rfl, by omega, by omega, ?_⟩
    have : v.toNat * sz = i * sz := by rw [hv]; rfl
    rw [this]
    refine hK _ fun j hj => ?_
    rw [addr_add_add]
    refine h4 _ ?_
    rw [← h1]
    have : (i + 1) * sz ≤ n * sz := Nat.mul_le_mul_right _ hi
    rw [Nat.add_mul] at this
    omega
end
end Go.Sh
