/- Codec's table, Sum, frame, Frame, Frames, ReadFrames. -/
import Derived.Test.YtnhjcjnjpciifaaDoorHCB
import Derived.Test.YtnhjcjnjpciifaaDoorHKA
import Derived.Laws.Rows
namespace Go.Proofs.YtnhjcjnjpciifaaDoor
open Go.Sh
def tabStep (c : Int) : Int := if (bAnd .u32 c 1 == 1) = true then bXor .u32 (Int.fdiv c (2 ^ (min (Int.toNat 1) (IntKind.bits .u32)))) 2197175160 else Int.fdiv c (2 ^ (min (Int.toNat 1) (IntKind.bits .u32)))
def tabIt : Nat → Int → Int
  | 0, c => c
  | k + 1, c => tabIt k (tabStep c)
def tabC (i : Nat) : Int := tabIt 4 (i : Int)
def tabPart (i : Nat) : List Value := (List.range 16).map fun j => .int .u32 (if j < i then tabC j else 0)
abbrev tabCells : List Value := tabPart 16
def crcByte (c : Int) (x : UInt8) : Int :=
  bXor .u32 (Int.fdiv (bXor .u32 (Int.fdiv (bXor .u32 c (IntKind.wrap .u32 (x.toNat : Int))) (2 ^ (min (Int.toNat 4) (IntKind.bits .u32)))) (tabC (Int.toNat (bAnd .u32 (bXor .u32 c (IntKind.wrap .u32 (x.toNat : Int))) 15)))) (2 ^ (min (Int.toNat 4) (IntKind.bits .u32))))
    (tabC (Int.toNat (bAnd .u32 (bXor .u32 (Int.fdiv (bXor .u32 c (IntKind.wrap .u32 (x.toNat : Int))) (2 ^ (min (Int.toNat 4) (IntKind.bits .u32)))) (tabC (Int.toNat (bAnd .u32 (bXor .u32 c (IntKind.wrap .u32 (x.toNat : Int))) 15)))) 15)))
def crcI (l : Bytes) : Int := bXor .u32 4294967295 (l.foldl crcByte 4294967295)
def crc (l : Bytes) : Nat := (crcI l).toNat
theorem crc_eq (l : Bytes) : crcI l = ((crc l : Nat) : Int) ∧ crc l < 2 ^ 32 := by
  have h : ∃ n : Nat, crcI l = ((n % 2 ^ 32 : Nat) : Int) := ⟨_, wrap_u32 _⟩
  obtain ⟨n, h⟩ := h
  unfold crc
  rw [h, Int.toNat_natCast]
  exact ⟨rfl, Nat.mod_lt _ (by decide)⟩
theorem and15 (x : Int) : 0 ≤ bAnd .u32 x 15 ∧ bAnd .u32 x 15 < 16 := by
  have h : ∃ n : Nat, n ≤ 15 ∧ bAnd .u32 x 15 = ((n : Nat) : Int) := by
    refine ⟨((BitVec.ofInt (IntKind.bits .u32) x &&& BitVec.ofInt (IntKind.bits .u32) 15).toNat), ?_, ?_⟩
    · rw [BitVec.toNat_and]
      have : (BitVec.ofInt (IntKind.bits .u32) 15).toNat = 15 := by decide
      rw [this]
      exact Nat.and_le_right
    · unfold bAnd
      rw [wrap_u32, Nat.mod_eq_of_lt]
      rw [BitVec.toNat_and]
      have : (BitVec.ofInt (IntKind.bits .u32) 15).toNat = 15 := by decide
      rw [this]
      exact Nat.lt_of_le_of_lt Nat.and_le_right (by decide)
  obtain ⟨n, h1, h2⟩ := h
  rw [h2]; omega
theorem tabPart_get {i j : Nat} (hj : j < 16) : (tabPart i)[j]? = some (.int .u32 (if j < i then tabC j else 0)) := by
  unfold tabPart
  rw [List.getElem?_map, List.getElem?_range hj]; rfl
theorem tabPart_len (i : Nat) : (tabPart i).length = 16 := by simp [tabPart]
theorem tabPart_set {i : Nat} (hi : i < 16) : (tabPart i).set i (.int .u32 (tabC i)) = tabPart (i + 1) := by
  apply List.ext_getElem?
  intro j
  rw [List.getElem?_set]
  by_cases hj : j < 16
  · rw [tabPart_get hj, tabPart_get hj]
    by_cases h : i = j
    · subst h
      rw [if_pos rfl, if_pos (by simp [tabPart, hi]), if_pos (by omega)]
    · rw [if_neg h]
      congr 2
      by_cases h2 : j < i
      · rw [if_pos h2, if_pos (by omega)]
      · rw [if_neg h2, if_neg (by omega)]
  · have h1 : (tabPart i).length ≤ j := by simp [tabPart]; omega
    have h2 : (tabPart (i + 1)).length ≤ j := by simp [tabPart]; omega
    rw [List.getElem?_eq_none h2, if_neg (by omega), List.getElem?_eq_none h1]
theorem elem_bytess : ElemTy Tryd.prog 40 41 1 24 := elemTy_of (by kernel_rfl) (by kernel_rfl)
attribute [local irreducible] rRun LDI LDB LDS LDP LDSl LDM LD Go.Sh.ST AL ALM LetW CallR CallV CallI NN IX SIX Br Req mInt mBool mStr mPtr mSlice mMap mAgg mTup mCons mNil mNth mPA LoopS
section
variable {w0 w : World} {F : List Nat} {L : List Own} {K : Value → World → Prop} {a : Option Addr} {n c : Nat} {bs : Bytes}
theorem wSTj {b j : Nat} {e : TypeId} {v : Value} {l : List Value} {K : World → Prop} (H : St w0 F w (pt b (.cells l.toArray e) :: L)) (hj : j < l.length)
    (hK : ∀ w', St w0 F w' (pt b (.cells (l.set j v).toArray e) :: L) → K w') : ST w ⟨b, j, none⟩ v K := by
  refine st (b := b) (e := e) (fz := (0, 0)) (c := l.toArray) H 0 j rfl rfl (by simpa using hj) (by simp) fun w' H' _ => ?_
  rw [List.setIfInBounds_toArray] at H'
  exact hK w' H'
theorem stCells_walk {b : Nat} {e : TypeId} {K : World → Prop} : ∀ (vs : List Value) (i : Nat) (l : List Value) (w : World), St w0 F w (pt b (.cells l.toArray e) :: L) → i + vs.length = l.length → (∀ v ∈ vs, v.oneCell' = true) →
    (∀ w', St w0 F w' (pt b (.cells (l.take i ++ vs).toArray e) :: L) → K w') → stCells w ⟨b, 0, none⟩ vs i K
  | [], i, l, w, H, hl, _, hK => by
    have := hK w
    rw [List.append_nil, List.take_of_length_le (by simp at hl; omega)] at this
    exact this H
  | v :: vs, i, l, w, H, hl, h1, hK => by
    simp only [List.length_cons] at hl
    simp only [stCells, h1 v (List.mem_cons_self ..), onlyIf]
    rw [Addr.add_mk, Nat.zero_add]
    refine wSTj H (by omega) fun w' H => ?_
    refine stCells_walk vs (i + 1) (l.set i v) w' H (by simp; omega) (fun u hu => h1 u (List.mem_cons_of_mem _ hu)) fun w'' H => hK w'' ?_
    have : (l.set i v).take (i + 1) ++ vs = l.take i ++ v :: vs := by
      rw [List.take_set, List.take_succ_eq_append_getElem (by omega), List.set_append_right (h := by simp; omega)]
      simp [List.length_take, Nat.min_eq_left (show i ≤ l.length by omega)]
    rw [this] at H
    exact H
theorem stArr_walk {b t : Nat} {e : TypeId} {K : World → Prop} {l l' : List Value} (hs : (Tryd.prog.info? t).map (·.size) = some l'.length) (H : St w0 F w (pt b (.cells l.toArray e) :: L)) (hl : l'.length = l.length) (h1 : ∀ v ∈ l', v.oneCell' = true)
    (hK : ∀ w', St w0 F w' (pt b (.cells l'.toArray e) :: L) → K w') : stVar Tryd.prog t ⟨b, 0, none⟩ (.agg l'.toArray) w K := by
  unfold stVar
  rw [hs]
  have : (Value.agg l'.toArray).cells.toList = l' := by simp [Value.cells]
  rw [this]
  have hb : Nat.beq l'.length l'.length = true := Nat.beq_refl _
  simp only [hb, onlyIf]
  exact stCells_walk l' 0 l w H (by omega) h1 (by simpa using hK)
theorem tab0 : (#[.int .u32 0, .int .u32 0, .int .u32 0, .int .u32 0, .int .u32 0, .int .u32 0, .int .u32 0, .int .u32 0, .int .u32 0, .int .u32 0, .int .u32 0, .int .u32 0, .int .u32 0, .int .u32 0, .int .u32 0, .int .u32 0] : Array Value) = (tabPart 0).toArray := rfl
attribute [local irreducible] stVar tabPart
theorem tab_one (i : Nat) : ∀ v ∈ tabPart i, v.oneCell' = true := by
  intro v hv
  unfold tabPart at hv
  obtain ⟨j, _, rfl⟩ := List.mem_map.1 hv
  rfl
theorem loadArr {b : Nat} {cs : List Value} {K : Value → World → Prop} (H : St w0 F w (pt b (.cells cs.toArray 141) :: L)) (hs : (Tryd.prog.info? 141).map (·.size) = some cs.length)
    (hK : K (.agg cs.toArray) w) : rRun Tryd.prog (Instr.loadAt 141 (.pointer (some ⟨b, 0, none⟩))) w K := by
  refine rRun_intro (v := .agg cs.toArray) (w' := w) ?_ hK
  have := run_loadVar_row (P := Tryd.prog) w b 141 141 cs.toArray (0, 0) (.array 16 124) (H.get (i := 0) rfl) Tryd.underlying141 rfl (by simpa using hs)
  simpa [Instr.loadAt, Instr.sureAddr] using this
theorem arr_size (i : Nat) : (Tryd.prog.info? 141).map (·.size) = some (tabPart i).length := by
  have h : (Tryd.prog.info? 141).map (·.size) = some 16 := by kernel_rfl
  rw [h, tabPart_len]
theorem tabIt_succ (k : Nat) : ∀ c, tabIt (k + 1) c = tabStep (tabIt k c) := by
  induction k with
  | zero => intro c; rfl
  | succ k ih => intro c; rw [tabIt, ih]; rfl
theorem table_walk (H : St w0 F w L) (hK : ∀ w', St w0 F w' L → K (.agg tabCells.toArray) w') : CallR Tryd.prog fn_codec_table #[] w K := by
  refine codec_table_sound _ _ ?_
  refine wAL H fun b w1 H => ?_
  rw [tab0] at H
  refine wLoop (fun k s w' => ∃ i : Nat, k + i = 16 ∧ s = (⟨b, 0, none⟩, (i : Int)) ∧ St w0 F w' (pt b (.cells (tabPart i).toArray 141) :: L)) ⟨16, 0, rfl, rfl, H⟩ ?_
  clear H
  rintro k s w2 ⟨i, hk, rfl, H⟩
  refine br (fun h => ?_) (fun h => ?_)
  · have hi : i < 16 := by simp at h; omega
    have hwi : IntKind.wrap .i64 ((i : Int) + 1) = ((i + 1 : Nat) : Int) := by rw [wrap_id (by omega) (by omega)]; rfl
    have hw0 : IntKind.wrap .u32 (i : Int) = (i : Int) := by rw [wrap_u32, Nat.mod_eq_of_lt (by omega)]
    unfold codec_table_b5 codec_table_b4 codec_table_b3
    simp only
    rw [hw0]
    refine wLoop (fun k2 s w' => ∃ q : Nat, k2 + q = 4 ∧ s = (⟨b, 0, none⟩, (i : Int), tabIt q (i : Int), (i : Int), (q : Int)) ∧ St w0 F w' (pt b (.cells (tabPart i).toArray 141) :: L)) ⟨4, 0, rfl, rfl, H⟩ ?_
    clear H
    rintro k2 s w3 ⟨q, hk2, rfl, H⟩
    refine br (fun h => ?_) (fun h => ?_)
    · have hq : q < 4 := by simp at h; omega
      have hwq : IntKind.wrap .i64 ((q : Int) + 1) = ((q + 1 : Nat) : Int) := by rw [wrap_id (by omega) (by omega)]; rfl
      refine wReq (by decide) (br (fun h => ?_) (fun h => ?_))
      · refine ⟨k2 - 1, by omega, q + 1, by omega, ?_, H⟩
        rw [hwq, tabIt_succ, tabStep, if_pos h]
      · refine ⟨k2 - 1, by omega, q + 1, by omega, ?_, H⟩
        rw [hwq, tabIt_succ, tabStep, if_neg (by rw [h]; decide)]
    · have hq : q = 4 := by simp at h; omega
      subst hq
      refine wReq (show 0 ≤ (i : Int) ∧ (i : Int) < 16 from by omega) ?_
      have ha : Addr.add ⟨b, 0, none⟩ (Int.toNat (i : Int) * 1) = ⟨b, i, none⟩ := by rw [Addr.add_mk]; simp
      rw [ha]
      refine wSTj H (by rw [tabPart_len]; exact hi) fun w4 H => ?_
      rw [show tabIt 4 (i : Int) = tabC i from rfl, tabPart_set hi] at H
      exact ⟨k - 1, by omega, i + 1, by omega, by rw [hwi], H⟩
  · have hi : i = 16 := by simp at h; omega
    subst hi
    refine loadArr H (arr_size 16) (wEq ?_)
    refine stArr_walk (t := 141) (l' := tabPart 16) (arr_size 16) H (by simp only [tabPart_len]) (tab_one 16) fun w3 H => ?_
    refine loadArr H (arr_size 16) (wEq ?_)
    exact hK _ H.tail

/-- Parts of bytes, as a reader sees them. -/
def ReadsP (w : World) (v : Value) (ps : List PartR) : Prop := Reads w 1 v (ps.map PartR.hdr) ∧ ∀ p ∈ ps, Reads w 1 p.hdr (bvals p.bs)
theorem crc_snoc (l : Bytes) (x : UInt8) (c0 : Int) : (l ++ [x]).foldl crcByte c0 = crcByte (l.foldl crcByte c0) x := by simp
theorem Sum_walk {ps : List PartR} (H : St w0 F w L) (hr : ∀ w', St w0 F w' L → ReadsP w' (.slice a n c) ps) (hpl : ps.length ≤ 60000000000) (hbl : ∀ p ∈ ps, p.bs.length ≤ 60000000000)
    (hK : ∀ w', St w0 F w' L → K (.int .u32 (crc (pbs ps) : Int)) w') : CallR Tryd.prog fn_codec_Sum #[.slice a n c] w K := by
  have hn : n = ps.length := by simpa using (hr w H).1.len
  refine codec_Sum_sound _ _ _ _ _ ?_
  refine table_walk H fun w1 H => ?_
  refine wAL H fun b w2 H => ?_
  rw [tab0] at H
  refine stArr_walk (t := 141) (l' := tabPart 16) (arr_size 16) H (by simp only [tabPart_len]) (tab_one 16) fun w3 H => ?_
  refine wLoop (fun k s w' => ∃ i : Nat, k + i = ps.length ∧ s = (⟨b, 0, none⟩, (pbs (ps.take i)).foldl crcByte 4294967295, a, n, c, (n : Int), (i : Int)) ∧ St w0 F w' (pt b (.cells tabCells.toArray 141) :: L)) ⟨ps.length, 0, rfl, rfl, H⟩ ?_
  clear H
  rintro k s w4 ⟨i, hk, rfl, H⟩
  refine br (fun h => ?_) (fun h => ?_)
  · have hi : i < ps.length := by simp at h; omega
    obtain ⟨p, hpi⟩ : ∃ p, ps[i]? = some p := ⟨_, List.getElem?_eq_getElem hi⟩
    have hpm := List.mem_of_getElem? hpi
    have hwi : IntKind.wrap .i64 ((i : Int) + 1) = ((i + 1 : Nat) : Int) := by rw [wrap_id (by omega) (by omega)]; rfl
    refine wIXr (hr w4 H.tail).1 (i := i) (by simpa using hi) rfl fun ad had => ?_
    rw [List.getElem?_map, hpi] at had
    refine ldSl (b := p.a) (l := p.n) (c := p.c) had ?_
    have hpn : p.n = p.bs.length := by simpa using ((hr w4 H.tail).2 p hpm).len
    have hb := hbl p hpm
    refine wLoop (fun k2 s w' => ∃ q : Nat, k2 + q = p.bs.length ∧ s = (⟨b, 0, none⟩, (pbs (ps.take i) ++ p.bs.take q).foldl crcByte 4294967295, a, n, c, (n : Int), (i : Int), p.a, p.n, p.c, (p.n : Int), (q : Int)) ∧ St w0 F w' (pt b (.cells tabCells.toArray 141) :: L)) ⟨p.bs.length, 0, rfl, by simp, H⟩ ?_
    clear H
    rintro k2 s w5 ⟨q, hk2, rfl, H⟩
    refine br (fun h => ?_) (fun h => ?_)
    · have hq : q < p.bs.length := by simp at h; omega
      obtain ⟨x, hx⟩ : ∃ x, p.bs[q]? = some x := ⟨_, List.getElem?_eq_getElem hq⟩
      have hwq : IntKind.wrap .i64 ((q : Int) + 1) = ((q + 1 : Nat) : Int) := by rw [wrap_id (by omega) (by omega)]; rfl
      refine wIXr ((hr w5 H.tail).2 p hpm) (i := q) (by simpa using hq) rfl fun ad had => ?_
      rw [bvals, List.getElem?_map, hx] at had
      refine ldI had ?_
      have tab : ∀ (z : Int) {K : Int → Prop}, K (tabC (Int.toNat (bAnd .u32 z 15))) → LDI .u32 w5 (Addr.add ⟨b, 0, none⟩ (Int.toNat (bAnd .u32 z 15) * 1)) K := by
        intro z K hK
        have h15 := and15 z
        refine ldI ?_ hK
        rw [Addr.add_mk, Nat.mul_one, Nat.zero_add, cell_blk (H.get (i := 0) rfl)]
        rw [List.getElem?_toArray, tabCells, tabPart_get (by omega), if_pos (by omega)]
      refine wReq (by decide) (wReq (and15 _) (tab _ (wReq (by decide) (wReq (and15 _) (tab _ ?_)))))
      refine ⟨k2 - 1, by omega, q + 1, by omega, ?_, H⟩
      rw [hwq]
      obtain ⟨h1, e1⟩ := List.getElem?_eq_some_iff.1 hx
      rw [← List.take_append_getElem h1, e1, ← List.append_assoc, crc_snoc]
      rfl
    · have hq : p.bs.length ≤ q := by simp at h; omega
      refine ⟨k - 1, by omega, i + 1, by omega, ?_, H⟩
      rw [hwi, List.take_of_length_le hq, pbs_take hpi]
  · have hi : ps.length ≤ i := by simp at h; omega
    rw [List.take_of_length_le hi]
    have := hK w4 H.tail
    rw [← (crc_eq _).1] at this
    exact this
end
end Go.Proofs.YtnhjcjnjpciifaaDoor
