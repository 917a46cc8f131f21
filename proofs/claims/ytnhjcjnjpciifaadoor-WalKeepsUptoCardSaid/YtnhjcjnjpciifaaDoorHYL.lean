/- WalKeeps' acts as an argument, opened, with what their reading weighs. -/
import Derived.Test.YtnhjcjnjpciifaaDoorHYA
import Derived.Test.YtnhjcjnjpciifaaDoorHWL
namespace Go.Proofs.YtnhjcjnjpciifaaDoor
open Go.ChangeShapes Go.WideShapes Go.ChangeAt Go.RowKit Go.Sh
theorem cellsC3 : Tryd.prog.cellsOf 3 = 1 := by kernel_rfl
theorem cellsC40 : Tryd.prog.cellsOf 40 = 1 := by kernel_rfl
theorem cellsC29 : Tryd.prog.cellsOf 29 = 1 := by kernel_rfl
theorem cellsC58 : Tryd.prog.cellsOf 58 = 4 := by kernel_rfl
section
variable {H : Type}
theorem bulk_pos (d : DataW H) : 1 ≤ Rows.uptoBulk d := by
  cases d with
  | lit l => cases l <;> simp [Rows.uptoBulk]
  | nil => simp [Rows.uptoBulk]
  | ptr d => simp [Rows.uptoBulk]
  | slice elems spare => simp [Rows.uptoBulk]
  | agg parts => simp [Rows.uptoBulk]
  | iface t d => simp [Rows.uptoBulk]
  | map entries => simp [Rows.uptoBulk]
  | held h => simp [Rows.uptoBulk]
theorem bulk_len : ∀ (l : List (DataW H)), l.length ≤ Rows.uptoBulkAll l
  | [] => by simp
  | x :: r => by
    have h1 := bulk_len r
    have h2 := bulk_pos x
    simp only [Rows.uptoBulkAll, List.length_cons]
    omega
theorem bulk_sum {α : Type} {f : α → Nat} : ∀ {ds : List (DataW H)} {l : List α}, ds.length = l.length → (∀ (i : Nat) d y, ds[i]? = some d → l[i]? = some y → f y ≤ Rows.uptoBulk d) → (l.map f).sum ≤ Rows.uptoBulkAll ds
  | [], [], _, _ => by simp
  | [], _ :: _, h, _ => by simp at h
  | _ :: _, [], h, _ => by simp at h
  | d :: ds, y :: l, h, hf => by
    have h1 := bulk_sum (ds := ds) (l := l) (f := f) (by simpa using h) fun i d' y' hd hy => hf (i + 1) d' y' (by simpa using hd) (by simpa using hy)
    have h2 := hf 0 d y rfl rfl
    simp only [Rows.uptoBulkAll, List.map_cons, List.sum_cons]
    omega
variable {enc : TypeId × Value → H} {w : World} {base : Nat} {sp : Nat → Bool} {held : Bool}
theorem slice_bulk {t e : TypeId} {fuel n c : Nat} {a : Option Addr} {x : DataW H × List MemPlace} (ht : Tryd.prog.underlying t = some (.slice e)) (h : DataW.trod enc Tryd.prog w base sp held fuel t [.slice a n c] = some x) : n + 1 ≤ Rows.uptoBulk x.1 := by
  rcases DataW.trod_slice ht h with ⟨hcs, hx⟩ | ⟨a', len, cap, elems, rest, m, _, hcs, hx, _, hl, hm, hlen, hel, _, _⟩
  · cases hcs; have := bulk_pos x.1; omega
  · cases hcs
    have h1 := bulk_len (elems.map (·.1))
    rw [hx]
    simp only [Rows.uptoBulk]
    simp at h1
    omega
theorem partsW_open {fuel : Nat} {cs : List Value} {x : DataW H × List MemPlace} (hsp : ∀ b, sp b = true) (h : DataW.trod enc Tryd.prog w base sp held fuel 40 cs = some x) :
    ∃ (a : Option Addr) (n c : Nat) (l : List PartR), cs = [.slice a n c] ∧ ReadsP w (.slice a n c) l ∧ l.length + plen l + 1 ≤ Rows.uptoBulk x.1 := by
  obtain ⟨a, n, c, l, hcs, hel, hl, hw⟩ := open_elems (cells := fun p : PartR => [p.hdr]) (ok := fun w p => Reads w 1 p.hdr (bvals p.bs)) (W := fun d p => p.bs.length + 1 ≤ Rows.uptoBulk d) Tryd.underlying40 cellsB41
    (fun f cs x hx => by
      obtain ⟨a, n, c, bs, h1, h2, _⟩ := reads_bytes Tryd.underlying41 Tryd.underlying5 cellsB5 hsp hx
      have hn : n = bs.length := by simpa using h2.len
      have hb := slice_bulk Tryd.underlying41 (by rw [← h1]; exact hx)
      exact ⟨⟨a, n, c, bs⟩, h1, h2, by simp only; omega⟩) h
  subst hcs
  have hc := slice_cap Tryd.underlying40 h
  refine ⟨a, n, c, l, rfl, ⟨?_, hel.oks⟩, ?_⟩
  · obtain ⟨_, _, _, he, hn, h3⟩ := hel.shows
    cases he
    refine ⟨a, n, c, rfl, by simp [hn], hc, ?_⟩
    rcases h3 with h3 | ⟨ad, rfl, h4⟩
    · exact .inl h3
    · refine .inr ⟨ad, rfl, fun j hj => ?_⟩
      have hj2 : j < l.length := by simpa using hj
      obtain ⟨q, hq⟩ : ∃ q, l[j]? = some q := ⟨_, List.getElem?_eq_getElem hj2⟩
      have h5 := h4 j q hq 0 q.hdr rfl
      rw [addr_add_add, Nat.mul_one, Nat.add_zero] at h5
      rw [h5, List.getElem?_map, hq]; rfl
  · rcases hw with ⟨hx, rfl⟩ | ⟨ds, rest, hx, hlen, hw⟩
    · have := bulk_pos x.1
      simp [plen]; omega
    · have h1 := bulk_sum (f := fun p : PartR => p.bs.length + 1) hlen hw
      have h2 : (l.map fun p : PartR => p.bs.length + 1).sum = l.length + plen l := by
        clear h1 hw hlen hel hl h
        induction l with
        | nil => simp [plen]
        | cons q t ih => simp only [List.map_cons, List.sum_cons, plen, List.length_cons] at ih ⊢; omega
      rw [hx]
      simp only [Rows.uptoBulk]
      omega
set_option maxRecDepth 100000 in
theorem act_open {fuel : Nat} {cs : List Value} {x : DataW H × List MemPlace} (hsp : ∀ b, sp b = true) (h : DataW.trod enc Tryd.prog w base sp held fuel 58 cs = some x) :
    ∃ a : ActW, cs = a.cells ∧ a.ok w ∧ a.wt + 1 ≤ Rows.uptoBulk x.1 := by
  obtain ⟨xs, n, rfl, hx, hlen, hxs, hf⟩ := DataW.trod_struct Tryd.underlying58 h
  rw [cellsC58] at hlen
  match cs, hlen with
  | [c0, c1, c2, c3], _ =>
    have h0 : DataW.trod enc Tryd.prog w base sp held n 3 (([c0, c1, c2, c3].drop 0).take (Tryd.prog.cellsOf 3)) = xs[0]? := hf 0 _ rfl
    rw [cellsC3] at h0
    have h1 : DataW.trod enc Tryd.prog w base sp held n 3 (([c0, c1, c2, c3].drop 1).take (Tryd.prog.cellsOf 3)) = xs[1]? := hf 1 _ rfl
    rw [cellsC3] at h1
    have h2 : DataW.trod enc Tryd.prog w base sp held n 40 (([c0, c1, c2, c3].drop 2).take (Tryd.prog.cellsOf 40)) = xs[2]? := hf 2 _ rfl
    rw [cellsC40] at h2
    have h3 : DataW.trod enc Tryd.prog w base sp held n 29 (([c0, c1, c2, c3].drop 3).take (Tryd.prog.cellsOf 29)) = xs[3]? := hf 3 _ rfl
    rw [cellsC29] at h3
    have hl : xs.length = 4 := hxs
    match xs, hl with
    | [x0, x1, x2, x3], _ =>
      obtain ⟨z0, g0, _⟩ := DataW.trod_int Tryd.underlying3 h0
      obtain ⟨z1, g1, _⟩ := DataW.trod_int Tryd.underlying3 h1
      obtain ⟨la, ln, lc, ps, g2, r2, b2⟩ := partsW_open hsp h2
      obtain ⟨pa, pn, pc, ks, g3, r3, _, _⟩ := reads_ints Tryd.underlying29 Tryd.underlying3 cellsC3 hsp h3
      have b3 := slice_bulk Tryd.underlying29 (by rw [← g3]; exact h3)
      refine ⟨⟨z0, z1, la, ln, lc, ps, pa, pn, pc⟩, ?_, r2, ?_⟩
      · simp at g0 g1 g2 g3
        simp [ActW.cells, g0, g1, g2, g3]
      · rw [hx]
        simp only [List.map_cons, List.map_nil, Rows.uptoBulk, Rows.uptoBulkAll, ActW.wt]
        omega
theorem acts_open {fuel : Nat} {cs : List Value} {x : DataW H × List MemPlace} (hsp : ∀ b, sp b = true) (h : DataW.trod enc Tryd.prog w base sp held fuel 55 cs = some x) :
    ∃ (a : Option Addr) (n c : Nat) (l : List ActW), cs = [.slice a n c] ∧ ActsW w (.slice a n c) l ∧ wsum l + l.length ≤ Rows.uptoBulk x.1 := by
  obtain ⟨a, n, c, l, hcs, hel, hl0, hw⟩ := open_elems (cells := ActW.cells) (ok := ActW.ok) (W := fun d y => y.wt + 1 ≤ Rows.uptoBulk d) Tryd.underlying55 cellsC58 (fun f cs x hx => act_open hsp hx) h
  refine ⟨a, n, c, l, hcs, hel, ?_⟩
  rcases hw with ⟨hx, rfl⟩ | ⟨ds, rest, hx, hlen, hw⟩
  · simp [wsum]
  · have h1 := bulk_sum (f := fun y : ActW => y.wt + 1) hlen hw
    have h2 : (l.map fun y : ActW => y.wt + 1).sum = wsum l + l.length := by
      clear h1 hw hlen hel h hl0
      induction l with
      | nil => simp [wsum]
      | cons q t ih => simp only [List.map_cons, List.sum_cons, wsum, List.length_cons] at ih ⊢; omega
    rw [hx]
    simp only [Rows.uptoBulk]
    omega
end
end Go.Proofs.YtnhjcjnjpciifaaDoor
