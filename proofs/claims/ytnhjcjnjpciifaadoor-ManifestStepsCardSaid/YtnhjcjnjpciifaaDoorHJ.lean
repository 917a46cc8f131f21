/- ManifestSteps: what it walks, but for the chapter's example. -/
import Derived.Test.YtnhjcjnjpciifaaDoorHI
namespace Go.Proofs.YtnhjcjnjpciifaaDoor
open Go.Sh
attribute [local irreducible] rRun LDI LDB LDS LDP LDSl LDM LD Go.Sh.ST AL ALM LetW CallR CallV CallI NN IX SIX Br Req mInt mBool mStr mPtr mSlice mMap mAgg mTup mCons mNil mNth mPA LoopS
theorem ecells_len (x : EditR) : x.cells.length = 5 := rfl
theorem ecells_one (l : List EditR) : ∀ u ∈ l.flatMap EditR.cells, u.oneCell' = true := by
  intro u hu
  obtain ⟨x, _, hx⟩ := List.mem_flatMap.1 hu
  simp [EditR.cells] at hx
  rcases hx with rfl | rfl | rfl | rfl | rfl <;> rfl
theorem elem_edit : ElemTy Tryd.prog 22 31 5 72 := elemTy_of (by kernel_rfl) (by kernel_rfl)
abbrev edsO (v : Value) (l : List EditR) : Own := sliceO 31 5 v (l.flatMap EditR.cells)
theorem edits_reads {w : World} {a : Option Addr} {n c : Nat} {es : List EditR} (hr : Reads w 5 (.slice a n c) (es.flatMap EditR.cells)) (hok : ∀ x ∈ es, x.ok w) : EditsAt w (.slice a n c) es := by
  obtain ⟨_, _, _, he, h1, h2, h3⟩ := hr
  cases he
  rw [flat_length ecells_len] at h1
  refine ⟨⟨a, n, c, rfl, by omega, ?_⟩, hok⟩
  rcases h3 with h3 | ⟨ad, rfl, h4⟩
  · exact .inl h3
  · refine .inr ⟨ad, rfl, fun i x hi j y hj => ?_⟩
    have hj5 : j < 5 := by have := (List.getElem?_eq_some_iff.1 hj).1; simpa [EditR.cells] using this
    have hlt := (List.getElem?_eq_some_iff.1 hi).1
    rw [addr_add_add, h4 _ (by rw [flat_length ecells_len]; omega), flat_get ecells_len _ _ _ hj5, hi]
    exact hj
abbrev edO' (q : Nat) (x : EditR) : Own := pt q (.cells #[.slice x.ea x.en x.ec, .slice x.da x.dn x.dc, .int .u64 x.e.seq, .int .i64 x.e.nxt, .int .i64 x.e.wal] 31)
theorem edits_pt {w : World} {b : Nat} {fz : Nat × Nat} {x : EditR} (hb : w.heap[b]? = some (.cells #[.slice x.ea x.en x.ec, .slice x.da x.dn x.dc, .int .u64 x.e.seq, .int .i64 x.e.nxt, .int .i64 x.e.wal] 31 fz)) (hok : x.ok w) : EditsAt w (.slice (some ⟨b, 0, none⟩) 1 1) [x] := by
  refine ⟨⟨_, _, _, rfl, rfl, .inr ⟨_, rfl, fun i y hi j c hj => ?_⟩⟩, fun y hy => by rw [List.mem_singleton.1 hy]; exact hok⟩
  have hi0 : i = 0 := by have := (List.getElem?_eq_some_iff.1 hi).1; simpa using this
  subst hi0
  cases hi
  rw [addr_add_add, Addr.add_mk, cell_blk hb]
  simpa [EditR.cells] using hj
section
variable {w0 w : World} {F : List Nat} {L M : List Own} {K : Value → World → Prop} {v : Ver} {x : EditR}
theorem one_applies (v : Ver) (e : EditP) : appliesP v [e] = applyP v e := by
  unfold appliesP
  split
  · rename_i h; unfold appliesP; rw [← h]
  · rename_i h; rw [← apply_err h]
theorem appErr {b : Nat} {va : Option Addr} {vn vc : Nat} (hc : (applyP v x.e).2 ≠ 0) (hv : OkV v) (hl : v.l.length ≤ 1000) (hel : x.e.add.length ≤ 1000 ∧ x.e.drop.length ≤ 1000) (hx : x.ok w0)
    (H : St w0 [] w L) (hb : List.Mem (edO' b x) L := by repeat (first | exact .head _ | apply List.Mem.tail)) (ht : List.Mem (tabsO (.slice va vn vc) v.l) L := by repeat (first | exact .head _ | apply List.Mem.tail))
    (hK : ∀ w', St w0 [] w' L → K (errV (applyP v x.e).2) w') :
    CallR Tryd.prog fn_manifest_Apply #[.agg #[.slice va vn vc, .int .u64 v.seq, .int .i64 v.nxt, .int .i64 v.wal], .slice (some ⟨b, 0, none⟩) 1 1] w K := by
  have e1 : appliesP v ([x].map (·.e)) = applyP v x.e := one_applies v x.e
  refine Apply_walk (es := [x]) hv hl (by simp) (fun y hy => by rw [List.mem_singleton.1 hy]; exact hel) (fun w' N H => (H.has.all _ (List.mem_append_right N ht) : SliceAt w' 38 5 (.slice va vn vc) _).reads)
    (fun w' N H => edits_pt (H.has.all _ (List.mem_append_right N hb)) (EditR.keep hx H.fr)) H (fun _ w' H => ?_) (fun h => ?_)
  · rw [e1]; exact hK w' H
  · rw [e1] at h; exact absurd h hc
theorem appOk {b : Nat} {va : Option Addr} {vn vc : Nat} (hc : (applyP v x.e).2 = 0) (hv : OkV v) (hl : v.l.length ≤ 1000) (hel : x.e.add.length ≤ 1000 ∧ x.e.drop.length ≤ 1000) (hx : x.ok w0)
    (H : St w0 [] w L) (hb : List.Mem (edO' b x) L := by repeat (first | exact .head _ | apply List.Mem.tail)) (ht : List.Mem (tabsO (.slice va vn vc) v.l) L := by repeat (first | exact .head _ | apply List.Mem.tail))
    (hK : ∀ w' ta tn tc, St w0 [] w' (tabsO (.slice ta tn tc) (applyP v x.e).1.l :: L) → K (okV (.slice ta tn tc) (applyP v x.e).1.seq (applyP v x.e).1.nxt (applyP v x.e).1.wal) w') :
    CallR Tryd.prog fn_manifest_Apply #[.agg #[.slice va vn vc, .int .u64 v.seq, .int .i64 v.nxt, .int .i64 v.wal], .slice (some ⟨b, 0, none⟩) 1 1] w K := by
  have e1 : appliesP v ([x].map (·.e)) = applyP v x.e := one_applies v x.e
  refine Apply_walk (es := [x]) hv hl (by simp) (fun y hy => by rw [List.mem_singleton.1 hy]; exact hel) (fun w' N H => (H.has.all _ (List.mem_append_right N ht) : SliceAt w' 38 5 (.slice va vn vc) _).reads)
    (fun w' N H => edits_pt (H.has.all _ (List.mem_append_right N hb)) (EditR.keep hx H.fr)) H (fun h => ?_) (fun _ w' ta tn tc H => ?_)
  · rw [e1] at h; exact absurd hc h
  · rw [e1] at H ⊢; exact hK w' _ _ _ H
theorem append_edit {b : Nat} {K : Option Addr → Nat → Nat → World → Prop} {ta : Option Addr} {tn tc : Nat} {es : List EditR} (hl : es.length ≤ 1000)
    (H : St w0 F w L) (hb : List.Mem (edO' b x) L := by repeat (first | exact .head _ | apply List.Mem.tail)) (hr : Rem (edsO (.slice ta tn tc) es) L M := by repeat (first | exact .here _ | apply Rem.there))
    (hK : ∀ w' a n c, St w0 F w' (edsO (.slice a n c) (es ++ [x]) :: M) → K a n c w') :
    rRun Tryd.prog (Builtin.append_ #[22, 22] 22 #[.slice ta tn tc, .slice (some ⟨b, 0, none⟩) 1 1]) w fun v w' => mSlice v fun a n c => K a n c w' := by
  have hsrc : Reads w 5 (.slice (some ⟨b, 0, none⟩) 1 1) ([x].flatMap EditR.cells) := by
    refine ⟨_, _, _, rfl, rfl, Nat.le_refl _, .inr ⟨_, rfl, fun j hj => ?_⟩⟩
    rw [Addr.add_mk, Nat.zero_add, cell_blk (H.has.all _ hb : w.heap[b]? = some (.cells #[.slice x.ea x.en x.ec, .slice x.da x.dn x.dc, .int .u64 x.e.seq, .int .i64 x.e.nxt, .int .i64 x.e.wal] 31))]
    simp [EditR.cells]
  obtain ⟨m, hm, hs⟩ := hsrc.src (P := Tryd.prog) (tx := 22) elem_edit.under (ecells_one [x])
  have hfl : (es.flatMap EditR.cells).length = es.length * 5 := flat_length ecells_len es
  have hfl1 : ([x].flatMap EditR.cells).length = 5 := rfl
  refine append_own (t := 22) (n := m) elem_edit (i := 0) (H.perm hr.perm) rfl hs (by rw [hfl, hfl1]; omega) (by decide) fun v' w5 H _ _ => ?_
  obtain ⟨a', len, cap, rfl, _⟩ := (H.get (i := 0) rfl : SliceAt _ 31 5 _ _)
  refine mSlice_mk (hK _ _ _ _ ?_)
  rw [← List.flatMap_append] at H
  exact H
end
end Go.Proofs.YtnhjcjnjpciifaaDoor
