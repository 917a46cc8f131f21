/- Slices that a call owns: append, slicing, reading. -/
import Derived.Test.YtnhjcjnjpciifaaDoorShHeap
import Derived.Deep.AppendSrc
namespace Go.Sh
variable {P : Program}

/-- No mark of a string's on the first n cells. -/
def fzok (fz : Nat × Nat) (n : Nat) : Prop := fz.2 ≤ fz.1 ∨ n ≤ fz.1
theorem fzok_get {fz : Nat × Nat} {n j : Nat} (h : fzok fz n) (hj : j < n) : (decide (fz.1 ≤ j) && decide (j < fz.2)) = false := by
  unfold fzok at h
  by_cases h1 : fz.1 ≤ j
  · by_cases h2 : j < fz.2
    · omega
    · simp [h2]
  · simp [h1]
def sfp : Value → List Nat
  | .slice (some a) _ (_ + 1) => [a.block]
  | _ => []
theorem sfp_nodup (v : Value) : (sfp v).Nodup := by
  unfold sfp
  split <;> simp
def SliceAt (w : World) (E sz : Nat) (v : Value) (cs : List Value) : Prop :=
  ∃ a len cap, v = .slice a len cap ∧ len * sz = cs.length ∧ len ≤ cap ∧ (cap = 0 ∨ ∃ b c fz, a = some ⟨b, 0, none⟩ ∧ w.heap[b]? = some (.cells c E fz) ∧
    cap * sz ≤ c.size ∧ (∀ i, i < cs.length → c[i]? = cs[i]?) ∧ fzok fz (cap * sz))
/-- A slice that is owned: len elements of sz cells each, from the head of its block on. -/
def sliceO (E sz : Nat) (v : Value) (cs : List Value) : Own where
  fp := sfp v
  holds w := SliceAt w E sz v cs
  loc := by
    rintro w w' h ⟨a, len, cap, rfl, h1, h2, h3⟩
    refine ⟨a, len, cap, rfl, h1, h2, ?_⟩
    rcases h3 with h3 | ⟨b, c, fz, rfl, hb, h4⟩
    · exact .inl h3
    · cases cap with
      | zero => exact .inl rfl
      | succ cap => exact .inr ⟨b, c, fz, rfl, (h b (by simp [sfp])).trans hb, h4⟩
theorem SliceAt.lt {w : World} {E sz : Nat} {v : Value} {cs : List Value} (h : SliceAt w E sz v cs) : ∀ b ∈ sfp v, b < w.heap.size := by
  obtain ⟨a, len, cap, rfl, _, _, h3⟩ := h
  intro b hb
  rcases h3 with rfl | ⟨b', c, fz, rfl, hb', _⟩
  · cases a <;> simp [sfp] at hb
  · cases cap with
    | zero => simp [sfp] at hb
    | succ cap => simp [sfp] at hb; subst hb; exact blk_lt hb'

/-- What a slice shows, to whoever reads it: len elements of sz cells. -/
def Reads (w : World) (sz : Nat) (v : Value) (cs : List Value) : Prop :=
  ∃ a len cap, v = .slice a len cap ∧ len * sz = cs.length ∧ len ≤ cap ∧ (len = 0 ∨ ∃ ad, a = some ad ∧ ∀ j, j < cs.length → w.cell? (ad.add j) = cs[j]?)
theorem Addr.add_mk (b o j : Nat) : (⟨b, o, none⟩ : Addr).add j = ⟨b, o + j, none⟩ := by
  unfold Addr.add
  split
  · rename_i h; subst h; rfl
  · rfl
theorem SliceAt.reads {w : World} {E sz : Nat} {v : Value} {cs : List Value} (h : SliceAt w E sz v cs) : Reads w sz v cs := by
  obtain ⟨a, len, cap, rfl, h1, h2, h3⟩ := h
  refine ⟨a, len, cap, rfl, h1, h2, ?_⟩
  rcases h3 with rfl | ⟨b, c, fz, rfl, hb, _, h5, _⟩
  · exact .inl (by omega)
  · refine .inr ⟨_, rfl, fun j hj => ?_⟩
    rw [Addr.add_mk, Nat.zero_add, cell_blk hb]
    exact h5 j hj
theorem Reads.heap {w w' : World} {sz : Nat} {v : Value} {cs : List Value} (h : Reads w sz v cs)
    (hb : ∀ a, v = .slice (some a) cs.length cs.length ∨ (∃ l c, v = .slice (some a) l c) → w'.heap[a.block]? = w.heap[a.block]?) : Reads w' sz v cs := by
  obtain ⟨a, len, cap, rfl, h1, h2, h3⟩ := h
  refine ⟨a, len, cap, rfl, h1, h2, ?_⟩
  rcases h3 with h3 | ⟨ad, rfl, h4⟩
  · exact .inl h3
  · refine .inr ⟨ad, rfl, fun j hj => ?_⟩
    rw [← h4 j hj]
    have hbl : (ad.add j).block = ad.block := by unfold Addr.add; split <;> rfl
    simp only [World.cell?, hbl, hb ad (.inr ⟨_, _, rfl⟩)]
/-- The block of a slice that shows something. -/
def sblk : Value → List Nat
  | .slice (some a) (_ + 1) _ => [a.block]
  | _ => []
theorem Reads.of {w w' : World} {sz : Nat} {v : Value} {cs : List Value} (h : Reads w sz v cs) (hb : ∀ b ∈ sblk v, w'.heap[b]? = w.heap[b]?) : Reads w' sz v cs := by
  obtain ⟨a, len, cap, rfl, h1, h2, h3⟩ := h
  refine ⟨a, len, cap, rfl, h1, h2, ?_⟩
  rcases h3 with h3 | ⟨ad, rfl, h4⟩
  · exact .inl h3
  · cases len with
    | zero => exact .inl rfl
    | succ len =>
      refine .inr ⟨ad, rfl, fun j hj => ?_⟩
      rw [← h4 j hj]
      have hbl : (ad.add j).block = ad.block := by unfold Addr.add; split <;> rfl
      simp only [World.cell?, hbl, hb ad.block (by simp [sblk])]
theorem Reads.lt {w : World} {sz : Nat} (hsz : 0 < sz) {v : Value} {cs : List Value} (h : Reads w sz v cs) : ∀ b ∈ sblk v, b < w.heap.size := by
  obtain ⟨a, len, cap, rfl, h1, h2, h3⟩ := h
  intro b hb
  cases len with
  | zero => cases a <;> simp [sblk] at hb
  | succ len =>
    rcases h3 with h3 | ⟨ad, rfl, h4⟩
    · cases h3
    · simp [sblk] at hb
      subst hb
      have hpos : 0 < cs.length := by rw [← h1]; exact Nat.mul_pos (by omega) hsz
      have h5 := h4 0 hpos
      have hbl : (ad.add 0).block = ad.block := rfl
      rw [List.getElem?_eq_getElem hpos] at h5
      have := World.block_lt_of_cell? w _ h5
      rwa [hbl] at this
theorem Reads.src {w : World} {sz tx e' : Nat} {v : Value} {cs : List Value} (hk : P.underlying tx = some (.slice e')) (h : Reads w sz v cs) (h1 : ∀ u ∈ cs, u.oneCell' = true) :
    ∃ n, n * sz = cs.length ∧ Src P sz tx v n cs w := by
  obtain ⟨a, len, cap, rfl, h2, h3, h4⟩ := h
  refine ⟨len, h2, ?_⟩
  have hnews : ∀ ad, a = some ad → (∀ j, j < cs.length → w.cell? (ad.add j) = cs[j]?) → Src P sz tx (.slice a len cap) len cs w := by
    rintro ad rfl h5
    refine Src.ofSlice w hk ad len cap cs h2.symm (fun j u hj => ?_) h1
    have hlt := (List.getElem?_eq_some_iff.1 hj).1
    rw [h5 j hlt, hj]
  rcases h4 with rfl | ⟨ad, rfl, h5⟩
  · have : cs = [] := List.eq_nil_of_length_eq_zero (by omega)
    subst this
    cases a with
    | none => exact Src.ofNil w hk cap
    | some ad => exact hnews ad rfl (fun j hj => by simp at hj)
  · exact hnews ad rfl h5

theorem setCells_blk {b : Nat} : ∀ (vs : List Value) (o : Nat) (w : World) {c : Array Value} {e : TypeId} {fz : Nat × Nat}, w.heap[b]? = some (.cells c e fz) →
    ∃ c' : Array Value, w.setCells b o vs = Sh.setBlk w b (.cells c' e fz) ∧ c'.size = c.size ∧ ∀ i, c'[i]? = if o ≤ i ∧ i < o + vs.length ∧ i < c.size then vs[i - o]? else c[i]?
  | [], o, w, c, e, fz, h => by
    refine ⟨c, ?_, rfl, fun i => by rw [if_neg (by simp; omega)]⟩
    show w = _
    simp only [Sh.setBlk]
    have : w.heap.setIfInBounds b (.cells c e fz) = w.heap := by
      apply Array.ext_getElem?
      intro k
      rw [Array.getElem?_setIfInBounds]
      split
      · rename_i hk; subst hk; rw [if_pos (blk_lt h), h]
      · rfl
    rw [this]
  | v :: r, o, w, c, e, fz, h => by
    have hlt := blk_lt h
    rw [World.setCells, setCell_blk h]
    obtain ⟨c', hw, hs, hg⟩ := setCells_blk r (o + 1) (Sh.setBlk w b (.cells (c.setIfInBounds o v) e fz)) (heap_setBlk_same hlt)
    refine ⟨c', ?_, by simpa using hs, fun i => ?_⟩
    · rw [hw]; simp [Sh.setBlk]
    · rw [hg i]
      simp only [Array.size_setIfInBounds, List.length_cons]
      by_cases h1 : o + 1 ≤ i ∧ i < o + 1 + r.length ∧ i < c.size
      · rw [if_pos h1, if_pos (by omega)]
        rw [show i - o = (i - (o + 1)) + 1 by omega, List.getElem?_cons_succ]
      · rw [if_neg h1, Array.getElem?_setIfInBounds]
        by_cases h2 : o = i
        · subst h2
          by_cases h3 : o < c.size
          · rw [if_pos rfl, if_pos h3, if_pos ⟨by omega, by omega, h3⟩]; simp
          · rw [if_pos rfl, if_neg h3, if_neg (by omega)]
            rw [Array.getElem?_eq_none (by omega)]
        · rw [if_neg h2, if_neg (by omega)]

structure ElemTy (P : Program) (t E sz bytes : Nat) : Prop where
  under : P.underlying t = some (.slice E)
  info : ∃ i z, P.info? E = some i ∧ i.zero = some z ∧ i.size = sz ∧ i.bytes = bytes ∧ z.cells.size = sz
  pos : 0 < sz

/-- append: what is owned grows by what is read. -/
theorem append_own {w0 w : World} {F : List Nat} {L : List Own} {t tx ty E sz bytes n : Nat} {v x : Value} {cs news : List Value} {K : Value → World → Prop} (ht : ElemTy P t E sz bytes)
    (H : St w0 F w L) {i : Nat} (hi : L[i]? = some (sliceO E sz v cs)) (hs : Src P sz tx x n news w) (hb : (cs.length + news.length) * bytes ≤ 70368744177664) (hb1 : 0 < bytes)
    (hK : ∀ v' w', St w0 F w' (L.set i (sliceO E sz v' (cs ++ news))) → Fr (sfp v) w w' → (∀ a len cap, v = .slice a len cap → len + n ≤ cap → v' = .slice a (len + n) cap) → K v' w') : rRun P (Builtin.append_ #[t, tx] ty #[v, x]) w K := by
  obtain ⟨inf, z, hinf, hz, hsz, hby, hzs⟩ := ht.info
  obtain ⟨a, len, cap, rfl, h1, h2, h3⟩ := (H.get hi : SliceAt w E sz v cs)
  have hnl := hs.newsLen
  have hlen : (len + n) * sz = (cs ++ news).length := by rw [List.length_append, ← h1, hnl, Nat.add_mul]
  have hln : len + n ≤ cs.length + news.length := by
    rw [← List.length_append, ← hlen]; exact Nat.le_mul_of_pos_right _ ht.pos
  have hbn : (len + n) * bytes ≤ 70368744177664 := Nat.le_trans (Nat.mul_le_mul_right _ hln) hb
  have hln1 : len + n ≤ 70368744177664 := Nat.le_trans (Nat.le_mul_of_pos_right _ hb1) hbn
  have hs' : Src P inf.size tx x n news w := by rw [hsz]; exact hs
  have step : ∀ v' w', Fr (sfp (.slice a len cap)) w w' → SliceAt w' E sz v' (cs ++ news) → (∀ b ∈ sfp v', b ∈ sfp (.slice a len cap) ∨ w.heap.size ≤ b) →
      St w0 F w' (L.set i (sliceO E sz v' (cs ++ news))) := by
    intro v' w' hf hv' hn'
    refine St.perm ?_ (perm_set _ hi)
    refine St.step (A := [sliceO E sz (.slice a len cap) cs]) (A' := [sliceO E sz v' (cs ++ news)]) (H.perm (perm_front hi)) (by simpa [sliceO] using hf) ?_ (fun b hb => ?_)
    · refine .cons hv' (sfp_nodup _) hv'.lt (by simp) (.nil _)
    · have hb' : b ∈ sfp v' := by simpa [sliceO] using hb
      rcases hn' b hb' with h | h
      · exact .inl (by simpa [sliceO] using h)
      · exact .inr h
  by_cases hroom : len + n ≤ cap
  · by_cases hcap : cap = 0
    · -- nothing at all
      have hl0 : len = 0 := by omega
      have hn0 : n = 0 := by omega
      subst hl0 hn0 hcap
      have hcs : cs = [] := List.eq_nil_of_length_eq_zero (by omega)
      have hnews : news = [] := List.eq_nil_of_length_eq_zero (by omega)
      subst hcs hnews
      refine rRun_intro (v := .slice a 0 0) (w' := w) ?_ (hK _ _ (step _ _ (.refl _ _) ⟨a, 0, 0, rfl, by simp, by simp, .inl rfl⟩ (fun b hb => .inl hb)) (.refl _ _) (fun _ _ _ h _ => h))
      rcases hs.kind with ⟨e', hk⟩ | hk <;> cases a <;>
        simp [Builtin.append_, run_underlying ht.under, run_underlying hk, sizeOf, typeInfo, hinf, hs.len, hs'.cells, storeCells]
    · rcases h3 with h3 | ⟨b, c, fz, rfl, hblk, hcs, hcells, hfz⟩
      · exact absurd h3 hcap
      have hmul : (len + n) * sz ≤ c.size := Nat.le_trans (Nat.mul_le_mul_right _ hroom) hcs
      have hidx : ∀ j, j < news.length → 0 + len * inf.size + j < cap * sz := by
        intro j hj
        rw [hsz]
        have h5 : (len + n) * sz ≤ cap * sz := Nat.mul_le_mul_right _ hroom
        rw [Nat.add_mul] at h5
        rw [hnl] at hj
        omega
      have hr := run_append_room_src (P := P) w t tx ty E inf ht.under hinf b 0 len cap x n news hs' hroom
        (fun j hj => by
          have := hidx j hj
          rw [cell_blk hblk, Array.getElem?_eq_getElem (by omega)]; rfl)
        (fun j hj => by rw [frozen_blk hblk]; exact fzok_get hfz (hidx j hj))
      obtain ⟨c', hw', hsz', hg'⟩ := setCells_blk news (0 + len * inf.size) w hblk
      rw [hw'] at hr
      have hpos : ∃ k, cap = k + 1 := ⟨cap - 1, by omega⟩
      obtain ⟨k, rfl⟩ := hpos
      have hfr : Fr (sfp (.slice (some ⟨b, 0, none⟩) len (k + 1))) w (Sh.setBlk w b (.cells c' E fz)) := by simpa [sfp] using Fr.setBlk w b (.cells c' E fz)
      refine rRun_intro hr (hK _ _ (step _ _ hfr ⟨_, _, _, rfl, hlen, hroom, .inr ⟨b, c', fz, rfl, heap_setBlk_same (blk_lt hblk), by omega, fun j hj => ?_, hfz⟩⟩ (fun b' hb' => .inl (by simpa [sfp] using hb'))) hfr (fun a' l' c' h _ => by cases h; rfl))
      rw [hg' j]
      rw [hsz, Nat.zero_add, h1]
      have hj2 : j < c.size := by rw [← hlen] at hj; omega
      by_cases hj1 : cs.length ≤ j
      · rw [List.getElem?_append_right hj1, if_pos ⟨hj1, by rw [List.length_append] at hj; omega, hj2⟩]
      · rw [List.getElem?_append_left (by omega), if_neg (by omega)]
        exact hcells j (by omega)
  · have hold : (Builtin.firstCells inf.size len (.slice a len cap)).run P w.drew = .ok cs.toArray w.drew := by
      rw [hsz]
      rcases h3 with rfl | ⟨b, c, fz, rfl, hblk, hcs, hcells, hfz⟩
      · have hl0 : len = 0 := by omega
        subst hl0
        have hcs : cs = [] := List.eq_nil_of_length_eq_zero (by omega)
        subst hcs
        cases a with
        | none => exact run_firstCells_none _ _ _ _ _
        | some ad => simp [Builtin.firstCells, loadCells, loadCellsFrom]
      · refine run_firstCells_some w.drew sz len ⟨b, 0, none⟩ len cap cs h1.symm fun j u hj => ?_
        have hlt := (List.getElem?_eq_some_iff.1 hj).1
        rw [Addr.add_mk, Nat.zero_add, World.cell?_drew, cell_blk hblk, hcells j hlt, hj]
    have hr := run_append_grow_src (P := P) w t tx ty E inf z ht.under hinf hz a len cap cs hold x n news hs' (by omega) (by omega) (growslice_fits (by omega) (by rw [hby]; omega))
    have hge := grownCap_ge w (len + n) cap E
    have hfr : Fr (sfp (.slice a len cap)) w (w.drew.alloc (.cells ((cs ++ news).toArray ++ Builtin.zeroCells z.cells (grownCap w (len + n) cap E - (len + n))) E)) :=
      (Fr.drew _ w).trans (Fr.alloc _ _ _)
    have hnew := heap_alloc_new w.drew (.cells ((cs ++ news).toArray ++ Builtin.zeroCells z.cells (grownCap w (len + n) cap E - (len + n))) E)
    refine rRun_intro hr (hK _ _ (step _ _ hfr ⟨_, _, _, rfl, hlen, hge, .inr ⟨w.heap.size, _, _, rfl, hnew, ?_, fun j hj => ?_, .inl (Nat.le_refl _)⟩⟩ (fun b' hb' => .inr ?_)) hfr (fun a' l' c' h hr => by cases h; exact absurd hr hroom))
    · simp only [Array.size_append, List.size_toArray, size_zeroCells, hzs]
      rw [← hlen, ← Nat.add_mul]
      exact Nat.mul_le_mul_right _ (by omega)
    · rw [Array.getElem?_append_left (by simpa using hj)]; simp
    · cases hg : grownCap w (len + n) cap E with
      | zero => rw [hg] at hb'; simp [sfp] at hb'
      | succ k => rw [hg] at hb'; simp [sfp] at hb'; omega

/- Slicing. -/
def bnd (v : Option Value) (n d top : Nat) : Prop := match v with | none => n = d | some x => x = .int .i64 n ∧ n ≤ top
theorem sliceAt_run {w : World} {t E sz bytes : Nat} (ht : ElemTy P t E sz bytes) {a : Option Addr} {len cap l h m : Nat} {lo hi mx : Option Value}
    (hm : bnd mx m cap cap) (hh : bnd hi h len m) (hmh : mx.isSome = true → hi.isSome = true) (hl : bnd lo l 0 h) :
    (Instr.sliceAt t (.slice a len cap) lo hi mx).run P w = .ok (.slice (if m = l then a else a.map (·.add (l * sz))) (h - l) (m - l)) w := by
  obtain ⟨inf, z, hinf, hz, hsz, hby, hzs⟩ := ht.info
  have hsize : (sizeOf E).run P w = .ok sz w := run_sizeOf' (by simp [hinf, hsz]) w
  have bound : ∀ (n y : Nat) (code : BoundsCode), n ≤ y → (Instr.sliceBound (.int .i64 (n : Int)) y code).run P w = .ok n w := by
    intro n y code hn
    simp [Instr.sliceBound, asIntOf, hn]
  unfold Instr.sliceAt
  simp only [Sem.run_bind, run_underlying' ht.under, Result.andThen_ok]
  unfold Instr.slice
  simp only [Sem.run_bind, run_underlying' ht.under, Result.andThen_ok, Instr.sliceBounds]
  cases mx with
  | none =>
    have hm : m = cap := hm
    subst hm
    cases hi with
    | none =>
      have hh : h = len := hh
      subst hh
      cases lo with
      | none =>
        have hl : l = 0 := hl
        subst hl
        simp [hsize]
      | some x =>
        obtain ⟨rfl, hl⟩ := (hl : x = _ ∧ _)
        simp [bound l h _ hl, hsize]
    | some y =>
      obtain ⟨rfl, hh⟩ := (hh : y = _ ∧ _)
      cases lo with
      | none =>
        have hl : l = 0 := hl
        subst hl
        simp [bound h m _ hh, hsize]
      | some x =>
        obtain ⟨rfl, hl⟩ := (hl : x = _ ∧ _)
        simp [bound h m _ hh, bound l h _ hl, hsize]
  | some mv =>
    obtain ⟨rfl, hm⟩ := (hm : mv = _ ∧ _)
    cases hi with
    | none => cases hmh rfl
    | some y =>
      obtain ⟨rfl, hh⟩ := (hh : y = _ ∧ _)
      cases lo with
      | none =>
        have hl : l = 0 := hl
        subst hl
        simp [bound m cap _ hm, bound h m _ hh, hsize]
      | some x =>
        obtain ⟨rfl, hl⟩ := (hl : x = _ ∧ _)
        simp [bound m cap _ hm, bound h m _ hh, bound l h _ hl, hsize]

/- Bytes and texts. -/
def bval (b : UInt8) : Value := .int .u8 b.toNat
def bvals (l : List UInt8) : List Value := l.map bval
@[simp] theorem bvals_length (l : List UInt8) : (bvals l).length = l.length := by simp [bvals]
@[simp] theorem bvals_append (l m : List UInt8) : bvals (l ++ m) = bvals l ++ bvals m := by simp [bvals]
theorem bvals_one (l : List UInt8) : ∀ u ∈ bvals l, u.oneCell' = true := by
  intro u hu
  obtain ⟨b, _, rfl⟩ := List.mem_map.1 hu
  rfl
theorem byteCells_eq (s : ByteArray) : byteCells s = bvals s.toList := by
  unfold byteCells bvals bval
  rw [ByteArray.toList_eq]
end Go.Sh
