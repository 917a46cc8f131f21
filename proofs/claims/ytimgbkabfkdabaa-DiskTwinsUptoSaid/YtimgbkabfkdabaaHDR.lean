/- Acts as an argument hands them in, opened, with what the bound says of them. -/
import Derived.Test.YtimgbkabfkdabaaHDJ
import Derived.Test.YtimgbkabfkdabaaShLift
import Derived.Test.YtimgbkabfkdabaaRows
import Derived.OpenShut
import Derived.JoinedCond
namespace Go.Proofs.Ytimgbkabfkdabaa
open Go.ChangeShapes Go.WideShapes Go.ChangeAt Go.RowKit Go.Sh

theorem cellsA3 : Try.prog.cellsOf 3 = 1 := by kernel_rfl
theorem cellsA5 : Try.prog.cellsOf 5 = 1 := by kernel_rfl
theorem cellsA9 : Try.prog.cellsOf 9 = 1 := by kernel_rfl
theorem cellsA22 : Try.prog.cellsOf 22 = 1 := by kernel_rfl
theorem cellsA28 : Try.prog.cellsOf 28 = 1 := by kernel_rfl
theorem cellsA30 : Try.prog.cellsOf 30 = 1 := by kernel_rfl
theorem cellsA46 : Try.prog.cellsOf 46 = 6 := by kernel_rfl

section
variable {H : Type}
theorem bulk_pos (d : DataW H) : 1 ≤ Rows.uptoBulk d := by
  cases d with
  | lit l => cases l <;> simp [Rows.uptoBulk]
  | nil => simp [Rows.uptoBulk]
  | ptr d => simp [Rows.uptoBulk]
  | slice elems spare => simp [Rows.uptoBulk]
  | agg parts => simp [Rows.uptoBulk]
  | iface t d => simp [Rows.uptoBulk]
  | map entries => simp [Rows.uptoBulk]
  | held h => simp [Rows.uptoBulk]
theorem bulk_part {d : DataW H} : ∀ {l : List (DataW H)}, d ∈ l → Rows.uptoBulk d ≤ Rows.uptoBulkAll l
  | x :: r, h => by
    simp only [Rows.uptoBulkAll]
    rcases List.mem_cons.1 h with rfl | h
    · omega
    · have := bulk_part h; omega
theorem bulk_many {m : Nat} : ∀ {l : List (DataW H)}, (∀ d ∈ l, m ≤ Rows.uptoBulk d) → m * l.length ≤ Rows.uptoBulkAll l
  | [], _ => by simp
  | x :: r, h => by
    have h1 := bulk_many (l := r) fun d hd => h d (List.mem_cons_of_mem _ hd)
    have h2 := h x (List.mem_cons_self ..)
    simp only [Rows.uptoBulkAll, List.length_cons, Nat.mul_add]
    omega
theorem bulk_len (l : List (DataW H)) : l.length ≤ Rows.uptoBulkAll l := by
  have := bulk_many (m := 1) (l := l) fun d _ => bulk_pos d
  omega

variable {enc : TypeId × Value → H} {w : World} {base : Nat} {sp : Nat → Bool} {held : Bool}
theorem slice_bulk {t e : TypeId} {fuel n c : Nat} {a : Option Addr} {x : DataW H × List MemPlace} (ht : Try.prog.underlying t = some (.slice e)) (h : DataW.trod enc Try.prog w base sp held fuel t [.slice a n c] = some x) : n + 1 ≤ Rows.uptoBulk x.1 := by
  rcases DataW.trod_slice ht h with ⟨hcs, hx⟩ | ⟨a', len, cap, elems, rest, m, _, hcs, hx, _, hl, hm, hlen, hel, _, _⟩
  · cases hcs; have := bulk_pos x.1; omega
  · cases hcs
    have h1 := bulk_len (elems.map (·.1))
    rw [hx]
    simp only [Rows.uptoBulk]
    simp at h1
    omega

def WAct (d : DataW H) (y : ActD) : Prop := 7 ≤ Rows.uptoBulk d ∧ y.names.length ≤ Rows.uptoBulk d ∧ y.bs.length ≤ Rows.uptoBulk d ∧ y.picks.length ≤ Rows.uptoBulk d
set_option maxRecDepth 100000 in
/-- One act. -/
theorem act_open {fuel : Nat} {cs : List Value} {x : DataW H × List MemPlace} (hsp : ∀ b, sp b = true) (h : DataW.trod enc Try.prog w base sp held fuel 46 cs = some x) :
    ∃ a : ActD, cs = a.cells ∧ a.ok w ∧ WAct x.1 a := by
  obtain ⟨xs, n, rfl, hx, hlen, hxs, hf⟩ := DataW.trod_struct Try.underlying46 h
  rw [cellsA46] at hlen
  match cs, hlen with
  | [c0, c1, c2, c3, c4, c5], _ =>
    have h0 : DataW.trod enc Try.prog w base sp held n 3 (([c0, c1, c2, c3, c4, c5].drop 0).take (Try.prog.cellsOf 3)) = xs[0]? := hf 0 _ rfl
    rw [cellsA3] at h0
    have h1 : DataW.trod enc Try.prog w base sp held n 9 (([c0, c1, c2, c3, c4, c5].drop 1).take (Try.prog.cellsOf 9)) = xs[1]? := hf 1 _ rfl
    rw [cellsA9] at h1
    have h2 : DataW.trod enc Try.prog w base sp held n 9 (([c0, c1, c2, c3, c4, c5].drop 2).take (Try.prog.cellsOf 9)) = xs[2]? := hf 2 _ rfl
    rw [cellsA9] at h2
    have h3 : DataW.trod enc Try.prog w base sp held n 28 (([c0, c1, c2, c3, c4, c5].drop 3).take (Try.prog.cellsOf 28)) = xs[3]? := hf 3 _ rfl
    rw [cellsA28] at h3
    have h4 : DataW.trod enc Try.prog w base sp held n 30 (([c0, c1, c2, c3, c4, c5].drop 4).take (Try.prog.cellsOf 30)) = xs[4]? := hf 4 _ rfl
    rw [cellsA30] at h4
    have h5 : DataW.trod enc Try.prog w base sp held n 22 (([c0, c1, c2, c3, c4, c5].drop 5).take (Try.prog.cellsOf 22)) = xs[5]? := hf 5 _ rfl
    rw [cellsA22] at h5
    have hl : xs.length = 6 := hxs
    have hpart : ∀ (i : Nat) y, xs[i]? = some y → Rows.uptoBulk y.1 + 1 ≤ Rows.uptoBulk x.1 := by
      intro i y hy
      rw [hx]
      simp only [Rows.uptoBulk]
      have := bulk_part (H := H) (d := y.1) (l := xs.map (·.1)) (List.mem_map.2 ⟨y, List.mem_of_getElem? hy, rfl⟩)
      omega
    have hw7 : 7 ≤ Rows.uptoBulk x.1 := by
      rw [hx]
      simp only [Rows.uptoBulk]
      have := bulk_len (xs.map (·.1))
      simp [hl] at this
      omega
    obtain ⟨x0, e0⟩ : ∃ y, xs[0]? = some y := ⟨_, List.getElem?_eq_getElem (by omega)⟩
    obtain ⟨x1, e1⟩ : ∃ y, xs[1]? = some y := ⟨_, List.getElem?_eq_getElem (by omega)⟩
    obtain ⟨x2, e2⟩ : ∃ y, xs[2]? = some y := ⟨_, List.getElem?_eq_getElem (by omega)⟩
    obtain ⟨x3, e3⟩ : ∃ y, xs[3]? = some y := ⟨_, List.getElem?_eq_getElem (by omega)⟩
    obtain ⟨x4, e4⟩ : ∃ y, xs[4]? = some y := ⟨_, List.getElem?_eq_getElem (by omega)⟩
    obtain ⟨x5, e5⟩ : ∃ y, xs[5]? = some y := ⟨_, List.getElem?_eq_getElem (by omega)⟩
    rw [e0] at h0
    rw [e1] at h1
    rw [e2] at h2
    rw [e3] at h3
    rw [e4] at h4
    rw [e5] at h5
    obtain ⟨z0, g0, _⟩ := DataW.trod_int Try.underlying3 h0
    obtain ⟨s1, g1, _⟩ := DataW.trod_string Try.underlying9 h1
    obtain ⟨s2, g2, _⟩ := DataW.trod_string Try.underlying9 h2
    obtain ⟨na, nn', nc, ns, g3, r3, _, _⟩ := reads_strs Try.underlying28 Try.underlying9 cellsA9 hsp h3
    obtain ⟨ba, bn, bc, bs, g4, r4, _⟩ := reads_bytes Try.underlying30 Try.underlying5 cellsA5 hsp h4
    obtain ⟨pa, pn, pc, ps, g5, r5, _, _⟩ := reads_ints Try.underlying22 Try.underlying3 cellsA3 hsp h5
    have b3 := slice_bulk Try.underlying28 (by rw [← g3]; exact h3)
    have b4 := slice_bulk Try.underlying30 (by rw [← g4]; exact h4)
    have b5 := slice_bulk Try.underlying22 (by rw [← g5]; exact h5)
    have l3 := hpart 3 _ e3
    have l4 := hpart 4 _ e4
    have l5 := hpart 5 _ e5
    have k3 : nn' = ns.length := by have := r3.len; simpa [strs] using this
    have k4 : bn = bs.length := by have := r4.len; simpa using this
    have k5 : pn = ps.length := by have := r5.len; simpa [ints] using this
    refine ⟨⟨z0, s1, s2, na, nn', nc, ns, ba, bn, bc, bs, pa, pn, pc, ps⟩, ?_, ⟨r3, r4, r5⟩, hw7, ?_, ?_, ?_⟩
    · simp at g0 g1 g2 g3 g4 g5
      simp [ActD.cells, g0, g1, g2, g3, g4, g5]
    all_goals simp only; omega
/-- All acts of an argument. -/
theorem acts_open {fuel : Nat} {cs : List Value} {x : DataW H × List MemPlace} (hsp : ∀ b, sp b = true) (h : DataW.trod enc Try.prog w base sp held fuel 39 cs = some x) :
    ∃ (a : Option Addr) (n c : Nat) (l : List ActD), cs = [.slice a n c] ∧ ActsD w (.slice a n c) l ∧ 7 * l.length ≤ Rows.uptoBulk x.1 ∧ ∀ y ∈ l, y.names.length ≤ Rows.uptoBulk x.1 ∧ y.bs.length ≤ Rows.uptoBulk x.1 ∧ y.picks.length ≤ Rows.uptoBulk x.1 := by
  obtain ⟨a, n, c, l, hcs, hel, _, hw⟩ := open_elems (cells := ActD.cells) (ok := ActD.ok) (W := WAct) Try.underlying39 cellsA46 (fun f cs x hx => act_open hsp hx) h
  refine ⟨a, n, c, l, hcs, hel, ?_⟩
  rcases hw with ⟨_, rfl⟩ | ⟨ds, rest, hx, hlen, hw⟩
  · exact ⟨by simp, fun y hy => (by cases hy)⟩
  have key : ∀ d ∈ ds, 7 ≤ Rows.uptoBulk d := fun d hd => by
    obtain ⟨i, hi⟩ := List.mem_iff_getElem?.1 hd
    obtain ⟨hi', _⟩ := List.getElem?_eq_some_iff.1 hi
    exact (hw i d _ hi (List.getElem?_eq_getElem (by omega))).1
  have hm := bulk_many key
  have hb : Rows.uptoBulk x.1 = Rows.uptoBulkAll ds + Rows.uptoBulkAll rest + 1 := by rw [hx]; simp only [Rows.uptoBulk]
  refine ⟨by omega, fun y hy => ?_⟩
  obtain ⟨i, hi⟩ := List.mem_iff_getElem?.1 hy
  obtain ⟨hi', _⟩ := List.getElem?_eq_some_iff.1 hi
  have hd : ds[i]? = some (ds[i]'(by omega)) := List.getElem?_eq_getElem (by omega)
  have hp := bulk_part (List.mem_of_getElem? hd)
  obtain ⟨_, h1, h2, h3⟩ := hw i _ _ hd hi
  omega
end
end Go.Proofs.Ytimgbkabfkdabaa
