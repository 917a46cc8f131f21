/- A sort's contract (of the kit's), on slices that a call owns. -/
import Derived.Test.YtnhjcjnjpciifaaDoorShWalk
import Derived.Sort.Grow
import Derived.Laws.MakeOwn
namespace Go.Sh
open Go.Sort
variable {P : Program} {α : Type} [Inhabited α]

/-- What a sort of the library's says: the row holds what 'srt' makes of it. -/
def SortCon (P : Program) (f : FuncId) (more : List Value) (enc : α → Value) (srt : List α → List α → Prop) : Prop :=
  ∀ (blk off cap : Nat) (ss : List α) (w : World), Holds enc w blk off ss.toArray → blk < w.heap.size → ss.length < 4611686018427387904 →
    Calls P f (.slice (some ⟨blk, off, none⟩) ss.length cap :: more).toArray w fun e w' => e = .returned (.tuple #[]) ∧ ∃ n os d, srt ss d ∧ w' = grow (putRow enc (Sort.ahead w n) blk off d.toArray) os

theorem sort_own {f : FuncId} {more : List Value} {enc : α → Value} {srt : List α → List α → Prop} (hc : SortCon P f more enc srt) (hl : ∀ s d, srt s d → d.length = s.length)
    {w0 w : World} {F : List Nat} {L : List Own} {E n cap : Nat} {x : Option Addr} {ss : List α} {K : Value → World → Prop}
    (H : St w0 F w (sliceO E 1 (.slice x n cap) (ss.map enc) :: L)) (hne : ss ≠ []) (hlen : ss.length < 4611686018427387904)
    (hK : ∀ w' d, srt ss d → St w0 F w' (sliceO E 1 (.slice x n cap) (d.map enc) :: L) → Fr (sfp (.slice x n cap)) w w' → K (.tuple #[]) w') : CallR P f (.slice x n cap :: more).toArray w K := by
  have hat : SliceAt w E 1 (.slice x n cap) (ss.map enc) := H.has.all _ (List.mem_cons_self ..)
  obtain ⟨_, _, _, he, h1, h2, h3⟩ := hat
  cases he
  have hn : n = ss.length := by simpa using h1
  subst hn
  have hpos : 0 < ss.length := List.length_pos_iff.2 hne
  rcases h3 with h3 | ⟨b, cc, fz, rfl, hblk, hcs, hcells, hfz⟩
  · omega
  have hlt := blk_lt hblk
  have hH : Holds enc w b 0 ss.toArray := by
    intro j hj
    have hj : j < ss.length := by simpa using hj
    rw [Nat.zero_add]
    refine ⟨?_, ?_⟩
    · rw [cell_blk hblk, hcells j (by simpa using hj)]
      simp [hj]
    · rw [frozen_blk hblk]
      exact fzok_get hfz (by omega)
  have hcall := hc b 0 cap ss w hH hlt hlen
  refine CallR_mono (R := fun v w' => v = .tuple #[] ∧ ∃ n os d, srt ss d ∧ w' = grow (putRow enc (Sort.ahead w n) b 0 d.toArray) os) ?_ ?_
  · refine hcall.mono fun e w' h => ?_
    obtain ⟨rfl, h⟩ := h
    exact ⟨rfl, h⟩
  rintro v w' ⟨rfl, n, os, d, hd, rfl⟩
  have hdl := hl _ _ hd
  have hhs : (grow (putRow enc (Sort.ahead w n) b 0 d.toArray) os).heap = (w.heap.modify b (onCells (putCells enc 0 d.toArray))) ++ os := rfl
  have hmod : ∀ k, k < w.heap.size → (grow (putRow enc (Sort.ahead w n) b 0 d.toArray) os).heap[k]? = (w.heap.modify b (onCells (putCells enc 0 d.toArray)))[k]? := by
    intro k hk
    rw [hhs, Array.getElem?_append_left (by simpa using hk)]
  have hnew : (grow (putRow enc (Sort.ahead w n) b 0 d.toArray) os).heap[b]? = some (.cells (putCells enc 0 d.toArray cc) E fz) := by
    rw [hmod b hlt, Array.getElem?_modify, if_pos rfl, hblk]
    rfl
  have hfr : Fr (sfp (.slice (some ⟨b, 0, none⟩) ss.length cap)) w (grow (putRow enc (Sort.ahead w n) b 0 d.toArray) os) := by
    obtain ⟨q, rfl⟩ : ∃ q, cap = q + 1 := ⟨cap - 1, by omega⟩
    refine ⟨rfl, rfl, rfl, by rw [hhs]; simp, fun k hk hn => ?_⟩
    have hkb : k ≠ b := by simpa [sfp] using hn
    rw [hmod k hk, Array.getElem?_modify, if_neg (Ne.symm hkb)]
  refine hK _ d hd ?_ hfr
  refine St.step (A := [sliceO E 1 (.slice (some ⟨b, 0, none⟩) ss.length cap) (ss.map enc)]) (A' := [sliceO E 1 (.slice (some ⟨b, 0, none⟩) ss.length cap) (d.map enc)]) H (by simpa [sliceO] using hfr) ?_ (fun b hb => .inl hb)
  have hat : SliceAt (grow (putRow enc (Sort.ahead w n) b 0 d.toArray) os) E 1 (.slice (some ⟨b, 0, none⟩) ss.length cap) (d.map enc) := by
    refine ⟨_, _, _, rfl, by simp [hdl], h2, .inr ⟨b, _, fz, rfl, hnew, by simpa [putCells] using hcs, fun j hj => ?_, hfz⟩⟩
    have hj : j < d.length := by simpa using hj
    have hjc : j < cc.size := by omega
    simp [putCells, hjc, hj]
  exact Has.cons (o := sliceO E 1 (.slice (some ⟨b, 0, none⟩) ss.length cap) (d.map enc)) hat (sfp_nodup (.slice (some ⟨b, 0, none⟩) ss.length cap)) hat.lt (by simp) (.nil _)
/-- A block that is held beside what is handed over, as a slice over its cells. -/
theorem ext_pt {w0 w : World} {F : List Nat} {A B : List Own} {b n m : Nat} {c : Array Value} {e : TypeId} {fz : Nat × Nat} {cs : List Value} (H : St w0 F w (A ++ B)) (hm : pt b (.cells c e fz) ∈ B) (hn : n = cs.length) (hnm : n ≤ m) (hc : c = ⟨cs⟩) :
    Ext w A 1 (.slice (some ⟨b, 0, none⟩) n m) cs := by
  refine ⟨⟨_, _, _, rfl, by omega, hnm, .inr ⟨_, rfl, fun j hj => ?_⟩⟩, fun x hx ha => ?_⟩
  · rw [Addr.add_mk, Nat.zero_add, cell_blk (H.has.all _ (List.mem_append_right _ hm))]
    rw [hc]; simp
  · have : x = b := by
      cases n with
      | zero => simp [sblk] at hx
      | succ n => simpa [sblk] using hx
    subst this
    exact H.has.apart ha (mem_fps.2 ⟨_, hm, by simp [pt]⟩)
/-- make: a slice of zeros. -/
theorem wMake {w0 w : World} {F : List Nat} {L : List Own} {t E bytes : Nat} {l c : Int} {z : Value} {K : Value → World → Prop} (ht : P.underlying t = some (.slice E)) (hi : elemOk P E 1 bytes = true) (hz : (P.info? E).bind (·.zero) = some z) (hz1 : z.cells = #[z])
    (H : St w0 F w L) (h0 : 0 ≤ l) (hlc : l ≤ c) (hb : (bytes : Int) * c ≤ 281474976710656) (h63 : c ≤ 9223372036854775807)
    (hK : ∀ b w', St w0 F w' (sliceO E 1 (.slice (some ⟨b, 0, none⟩) l.toNat c.toNat) (List.replicate l.toNat z) :: L) → K (.slice (some ⟨b, 0, none⟩) l.toNat c.toNat) w') : rRun P (Instr.makeSlice t (.int .i64 l) (.int .i64 c)) w K := by
  obtain ⟨inf, z', hinf, hz', hsz, hby, hzs⟩ := (elemTy_of ht hi).info
  have ez : z' = z := by
    rw [hinf] at hz
    simp only [Option.bind_some] at hz
    rw [hz'] at hz
    exact Option.some.inj hz
  subst ez
  have hr := run_make (P := P) w t E inf z' ht hinf hz' .i64 .i64 l c h0 hlc (by rw [hby]; exact hb) h63
  refine rRun_intro hr (hK _ _ ?_)
  have hcells : ∀ j, j < c.toNat * inf.size → (madeCells z'.cells (c.toNat * inf.size))[j]? = some z' := by
    intro j hj
    rw [hz1]
    simp [madeCells, hj, Nat.mod_one]
  have hsize : (madeCells z'.cells (c.toNat * inf.size)).size = c.toNat := by rw [size_madeCells, hsz, Nat.mul_one]
  refine St.step (A := []) (A' := [sliceO E 1 (.slice (some ⟨w.heap.size, 0, none⟩) l.toNat c.toNat) (List.replicate l.toNat z')]) (B := L) H (by simpa using Fr.alloc [] w _) ?_ (fun b hb => .inr ?_)
  · have hat : SliceAt (w.alloc (.cells (madeCells z'.cells (c.toNat * inf.size)) E)) E 1 (.slice (some ⟨w.heap.size, 0, none⟩) l.toNat c.toNat) (List.replicate l.toNat z') := by
      refine ⟨_, _, _, rfl, by simp, by omega, .inr ⟨w.heap.size, _, _, rfl, heap_alloc_new w _, by rw [hsize]; omega, fun j hj => ?_, .inl (Nat.le_refl _)⟩⟩
      have hj : j < l.toNat := by simpa using hj
      rw [hcells j (by rw [hsz]; omega)]
      simp [hj]
    exact Has.cons (o := sliceO E 1 (.slice (some ⟨w.heap.size, 0, none⟩) l.toNat c.toNat) (List.replicate l.toNat z')) hat (sfp_nodup (.slice (some ⟨w.heap.size, 0, none⟩) l.toNat c.toNat)) hat.lt (by simp) (.nil _)
  · have hb : b ∈ sfp (.slice (some ⟨w.heap.size, 0, none⟩) l.toNat c.toNat) := by simpa [sliceO] using hb
    cases hc : c.toNat with
    | zero => rw [hc] at hb; simp [sfp] at hb
    | succ q => rw [hc] at hb; simp [sfp] at hb; omega
end Go.Sh
