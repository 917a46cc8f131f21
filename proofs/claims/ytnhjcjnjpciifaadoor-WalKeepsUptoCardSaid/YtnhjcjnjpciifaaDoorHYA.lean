/- YA YB YC, laid together. -/
import Derived.Test.YtnhjcjnjpciifaaDoorHXC
import Derived.Test.YtnhjcjnjpciifaaDoorShActs
/- WalKeeps: acts as an argument shows them; few. -/
namespace Go.Proofs.YtnhjcjnjpciifaaDoor
open Go.Sh
structure ActW where
  (op n : Int) (la : Option Addr) (ln lc : Nat) (ps : List PartR) (pa : Option Addr) (pn pc : Nat)
def ActW.cells (x : ActW) : List Value := [.int .i64 x.op, .int .i64 x.n, .slice x.la x.ln x.lc, .slice x.pa x.pn x.pc]
def ActW.ok (w : World) (x : ActW) : Prop := ReadsP w (.slice x.la x.ln x.lc) x.ps
def ActW.wt (x : ActW) : Nat := x.ps.length + x.pn + plen x.ps
abbrev ActsW (w : World) (v : Value) (l : List ActW) : Prop := ElemsAt w 4 ActW.cells ActW.ok v l
def wsum (l : List ActW) : Nat := (l.map ActW.wt).sum
theorem wsum_take {l : List ActW} {i : Nat} {x : ActW} (h : l[i]? = some x) : wsum (l.take (i + 1)) = wsum (l.take i) + x.wt := by
  obtain ⟨hi, he⟩ := List.getElem?_eq_some_iff.1 h
  unfold wsum
  rw [← List.take_append_getElem hi, List.map_append, List.sum_append, he]
  simp
theorem wsum_le (l : List ActW) (i : Nat) : wsum (l.take i) ≤ wsum l := by
  unfold wsum
  conv => rhs; rw [← List.take_append_drop i l, List.map_append, List.sum_append]
  omega
theorem ReadsP.keep {w w' : World} {v : Value} {ps : List PartR} (h : ReadsP w v ps) (hf : Fr [] w w') : ReadsP w' v ps :=
  ⟨h.1.keep (by decide) hf, fun p hp => (h.2 p hp).keep (by decide) hf⟩
theorem ActsW.keep {w w' : World} {v : Value} {l : List ActW} (h : ActsW w v l) (hf : Fr [] w w') : ActsW w' v l := ElemsAt.keep h (fun _ hx => ReadsP.keep hx hf) hf
attribute [local irreducible] rRun LDI LDB LDS LDP LDSl LDM LD Go.Sh.ST AL ALM LetW CallR CallV CallI NN IX SIX Br Req mInt mBool mStr mPtr mSlice mMap mAgg mTup mCons mNil mNth mPA LoopS
section
variable {w0 w : World} {F : List Nat} {L : List Own} {K : Value → World → Prop} {db bm p : Nat} {size born : Int} {l : Files} {o : Obj}
theorem act_loads {a : Addr} {x : ActW} (h : ∀ j c, (x.cells)[j]? = some c → w.cell? (a.add j) = some c) :
    w.cell? a = some (.int .i64 x.op) ∧ w.cell? (a.add 2) = some (.slice x.la x.ln x.lc) ∧ w.cell? (a.add 3) = some (.slice x.pa x.pn x.pc) := by
  have e0 : Addr.add a 0 = a := by simp [Addr.add]
  have h0 := h 0 _ rfl
  rw [e0] at h0
  exact ⟨h0, h 2 _ rfl, h 3 _ rfl⟩
theorem few_walk {aa : Option Addr} {an ac : Nat} {xs : List ActW} (H : St w0 F w L) (hb : ∀ w', St w0 F w' L → ActsW w' (.slice aa an ac) xs) (hw : wsum xs ≤ 1048576) (hxl : xs.length ≤ 1048576)
    (hK : ∀ w' q, St w0 F w' L → (q = true → xs.length ≤ 300 ∧ wsum xs ≤ 65536) → K (.bool q) w') : CallR Tryd.prog fn_glacierlaw4_few #[.slice aa an ac] w K := by
  have hn : an = xs.length := (hb w H).len
  subst hn
  refine glacierlaw4_few_sound _ _ _ _ _ ?_
  refine wLoop (fun k s w' => ∃ i : Nat, k + i = xs.length ∧ s = (aa, xs.length, ac, (wsum (xs.take i) : Int), (i : Int)) ∧ St w0 F w' L) ⟨xs.length, 0, rfl, rfl, H⟩ ?_
  clear H
  rintro k s w1 ⟨i, hk, rfl, H⟩
  refine br (fun h => ?_) (fun h => ?_)
  · have hi : i < xs.length := by simp at h; omega
    obtain ⟨x, hx⟩ : ∃ x, xs[i]? = some x := ⟨_, List.getElem?_eq_getElem hi⟩
    have hwi : IntKind.wrap .i64 ((i : Int) + 1) = ((i + 1 : Nat) : Int) := by rw [wrap_id (by omega) (by omega)]; rfl
    have h1 := wsum_take hx
    have h2 := wsum_le xs (i + 1)
    have hxok : ∀ w', St w0 F w' L → ReadsP w' (.slice x.la x.ln x.lc) x.ps := fun w' H' => (hb w' H').oks x (List.mem_of_getElem? hx)
    have hln : x.ln = x.ps.length := by simpa using (hxok w1 H).1.len
    refine wLW H ?_
    intro w2 H
    refine wIXel (hb w2 H) hx rfl fun a0 ha0 => ?_
    refine ldSl (act_loads ha0).2.1 (wEq ?_)
    refine wIXel (hb w2 H) hx rfl fun a1 ha1 => ?_
    refine ldSl (act_loads ha1).2.2 (wEq ?_)
    have hwt : x.wt = x.ps.length + x.pn + plen x.ps := rfl
    have e1 : IntKind.wrap .i64 ((IntKind.wrap .i64 ((wsum (xs.take i) : Int) + (x.ln : Int))) + (x.pn : Int)) = ((wsum (xs.take i) + x.ps.length + x.pn + plen (x.ps.take 0) : Nat) : Int) := by
      rw [hln, wrap_id (x := (wsum (xs.take i) : Int) + _) (by omega) (by omega), wrap_id (by omega) (by omega)]
      simp [plen]
    refine wLoop (fun k2 s w' => ∃ q : Nat, k2 + q = x.ps.length ∧ s = (aa, xs.length, ac, ((wsum (xs.take i) + x.ps.length + x.pn + plen (x.ps.take q) : Nat) : Int), (i : Int), (q : Int)) ∧ St w0 F w' L) ⟨x.ps.length, 0, rfl, by rw [e1]; rfl, H⟩ ?_
    clear H
    rintro k2 s w3 ⟨q, hk2, rfl, H⟩
    refine wIXel (hb w3 H) hx rfl fun a2 ha2 => ?_
    refine ldSl (act_loads ha2).2.1 ?_
    refine br (fun h => ?_) (fun h => ?_)
    · have hq : q < x.ps.length := by simp [hln] at h; omega
      obtain ⟨z, hz⟩ : ∃ z, x.ps[q]? = some z := ⟨_, List.getElem?_eq_getElem hq⟩
      refine wIXel (hb w3 H) hx rfl fun a3 ha3 => ?_
      refine ldSl (act_loads ha3).2.1 ?_
      refine wIXr (hxok w3 H).1 (i := q) (by simpa using hq) rfl fun ad had => ?_
      rw [List.getElem?_map, hz] at had
      refine ldSl (b := z.a) (l := z.n) (c := z.c) had ?_
      have hzn : z.n = z.bs.length := by simpa using ((hxok w3 H).2 z (List.mem_of_getElem? hz)).len
      have h3 := plen_take hz
      have h4 := plen_le x.ps (q + 1)
      have hwq : IntKind.wrap .i64 ((q : Int) + 1) = ((q + 1 : Nat) : Int) := by rw [wrap_id (by omega) (by omega)]; rfl
      refine ⟨k2 - 1, by omega, q + 1, by omega, ?_, H⟩
      rw [hwq, hzn]
      have e2 : IntKind.wrap .i64 (((wsum (xs.take i) + x.ps.length + x.pn + plen (x.ps.take q) : Nat) : Int) + (z.bs.length : Int)) = ((wsum (xs.take i) + x.ps.length + x.pn + plen (x.ps.take (q + 1)) : Nat) : Int) := by
        rw [wrap_id (by omega) (by omega)]; omega
      exact congrArg (fun t => (aa, xs.length, ac, t, (i : Int), ((q + 1 : Nat) : Int))) e2
    · have hq : x.ps.length ≤ q := by simp [hln] at h; omega
      refine ⟨k - 1, by omega, i + 1, by omega, ?_, H⟩
      rw [hwi, h1, hwt]
      have e3 : ((wsum (xs.take i) + x.ps.length + x.pn + plen (x.ps.take q) : Nat) : Int) = ((wsum (xs.take i) + (x.ps.length + x.pn + plen x.ps) : Nat) : Int) := by
        rw [List.take_of_length_le hq]; omega
      exact congrArg (fun t => (aa, xs.length, ac, t, ((i + 1 : Nat) : Int))) e3
  · have hi : xs.length ≤ i := by simp at h; omega
    rw [List.take_of_length_le hi]
    unfold glacierlaw4_few_b4
    refine br (fun h => ?_) (fun h => hK w1 false H (fun h => by cases h))
    have h3 : xs.length ≤ 300 := by simp at h; omega
    refine hK w1 _ H fun h2 => ⟨h3, ?_⟩
    simp at h2; omega
end
end Go.Proofs.YtnhjcjnjpciifaaDoor

/- WalKeeps, walked. -/
namespace Go.Proofs.YtnhjcjnjpciifaaDoor
open Go.Sh
/-- What the law holds of the log as it goes over the acts: all that was appended, how much of it is synced. -/
structure Keeps (all : List Bytes) (synced s q : Nat) (G : Nat → List Bytes) : Prop where
  tell : flat G 0 s = all
  above : ∀ k, s < k → G k = []
  ql : q ≤ (G s).length
  syn : synced + (G s).length = all.length + q
  small : ∀ k, ∀ b ∈ G k, b.length ≤ 67108864
theorem Keeps.zero : Keeps [] 0 0 0 (fun _ => []) := ⟨by simp [flat], fun _ _ => rfl, Nat.le_refl _, rfl, fun _ _ h => (by cases h)⟩
theorem Keeps.add {all : List Bytes} {synced s q : Nat} {G : Nat → List Bytes} (h : Keeps all synced s q G) {v : List Bytes} (hv : ∀ b ∈ v, b.length ≤ 67108864) : Keeps (all ++ v) synced s q (updG G s (G s ++ v)) := by
  refine ⟨by rw [flat_upd _ (Nat.zero_le _), h.tell], fun k hk => by rw [updG_ne _ _ (by omega)]; exact h.above k hk, ?_, ?_, fun k b hb => ?_⟩
  · rw [updG_same, List.length_append]; have := h.ql; omega
  · rw [updG_same, List.length_append, List.length_append]; have := h.syn; omega
  · by_cases hk : k = s
    · subst hk
      rw [updG_same] at hb
      rcases List.mem_append.1 hb with hb | hb
      · exact h.small k b hb
      · exact hv b hb
    · rw [updG_ne _ _ hk] at hb; exact h.small k b hb
theorem Keeps.sync {all : List Bytes} {synced s q : Nat} {G : Nat → List Bytes} (h : Keeps all synced s q G) : Keeps all all.length s (G s).length G :=
  ⟨h.tell, h.above, Nat.le_refl _, rfl, h.small⟩
theorem Keeps.turn {all : List Bytes} {synced s q : Nat} {G : Nat → List Bytes} (h : Keeps all synced s q G) : Keeps all all.length (s + 1) 0 G := by
  refine ⟨?_, fun k hk => h.above k (by omega), Nat.zero_le _, ?_, h.small⟩
  · rw [flat_next (Nat.zero_le _) (h.above _ (by omega)), h.tell]
  · rw [h.above _ (by omega)]; rfl
theorem frames_len14 : ∀ (G : List Bytes), (∀ b ∈ G, b.length ≤ 67108864) → (framesB crc G).length ≤ (G.map List.length).sum + 14 * G.length
  | [], _ => by simp [framesB]
  | b :: t, h => by
    have h1 := frames_len14 t fun x hx => h x (List.mem_cons_of_mem _ hx)
    have h2 := h b (List.mem_cons_self ..)
    have h3 : (numB b.length).length ≤ 10 := numB_len _ 0 (by decide) (by simp; omega)
    rw [framesB_cons, List.length_append, frameB_len, List.length_cons, List.map_cons, List.sum_cons]
    omega
theorem flat_parts {G : Nat → List Bytes} {s k : Nat} (hk : k ≤ s) : ((G k).map List.length).sum ≤ ((flat G 0 s).map List.length).sum := by
  induction s with
  | zero =>
    have : k = 0 := by omega
    subst this
    simp [flat]
  | succ s ih =>
    rw [flat_last (Nat.zero_le _), List.map_append, List.sum_append]
    rcases Nat.lt_or_ge s k with h | h
    · have : k = s + 1 := by omega
      subst this; omega
    · have := ih h
      have e : flat G 0 s = (List.range' 0 (s + 1 - 0)).flatMap G := rfl
      rw [e] at this
      omega
attribute [local irreducible] rRun LDI LDB LDS LDP LDSl LDM LD Go.Sh.ST AL ALM LetW CallR CallV CallI NN IX SIX Br Req mInt mBool mStr mPtr mSlice mMap mAgg mTup mCons mNil mNth mPA LoopS
attribute [local irreducible] glacierlaw4_WalKeeps_b0
section
variable {w0 w : World} {F : List Nat} {L : List Own} {K : Value → World → Prop} {db bm p : Nat} {size born : Int} {l : Files} {o : Obj}
theorem ReadsP.head {a : Option Addr} {n c h : Nat} {ps : List PartR} (hr : ReadsP w (.slice a n c) ps) (hh : h ≤ ps.length) : ReadsP w (.slice a h c) (ps.take h) := by
  have hn : n = ps.length := by simpa using hr.1.len
  obtain ⟨_, _, _, he, h1, h2, h3⟩ := id hr.1
  cases he
  have ha : (if c = 0 then a else a.map (·.add (0 * 1))) = a := by
    split
    · rfl
    · cases a with
      | none => rfl
      | some a => simp [Addr.add]
  have h5 := hr.1.sub (l := 0) (h := h) (m := c) (by omega) (by omega) (by omega)
  rw [ha] at h5
  exact ⟨by simpa [List.map_take] using h5, fun p hp => hr.2 p (List.mem_of_mem_take hp)⟩
theorem keeps_0 {pa aa : Option Addr} {pn pc an ac : Nat} {picks : List Int} {all : List PartR} {synced s q : Nat} {G : Nat → List Bytes} {y : Nat → Nat} {RR : Value → World → Prop} (h0 : (tabO o).holds w) (hpk : Reads w 1 (.slice pa pn pc) (ints picks))
    (hal : ∀ z ∈ all, Reads w 1 z.hdr (bvals z.bs)) (hkp : Keeps (all.map (·.bs)) synced s q G) (hs6 : s < 999998)
    {w1 : World} (hseg : SegsAt l wNm 0 s (fun k => framesB crc (G k)) y) (hy : ∀ k, k < s → y k = (framesB crc (G k)).length) (hys : y s = (framesB crc ((G s).take q)).length) (htl : total l ≤ 2000000) (hll : l.length ≤ 100000) (hall : all.length + ((all.map (·.bs)).map List.length).sum ≤ 65536)
    (H : St w [2] w1 [dO db bm 16777216 0 l, sliceO 41 1 (.slice aa an ac) (all.map PartR.hdr), tabO o]) (fin : ∀ w' L, St w [2] w' L → List.Mem (tabO o) L → RR (.bool true) w') :
    glacierlaw4_WalKeeps_b0 pa pn pc (some ⟨db, 0, none⟩) aa an ac (synced : Int) RR w1 := by
  unfold glacierlaw4_WalKeeps_b0
  have hfq := frames_take (ps := G s) q
  have hfql : (framesB crc ((G s).take q)).length ≤ (framesB crc (G s)).length := by
    have := congrArg List.length hfq
    rw [List.length_take] at this; omega
  have hx : Ext w1 [dO db bm 16777216 0 l] 1 (.slice pa pn pc) (ints picks) := H.extT (A := [_]) h0 (.tail _ (.head _)) (by decide) hpk
  refine crash_walk H hx (by omega) (hseg.whole fun k _ h2 => ?_) (by omega) fun w2 l2 hc H => ?_
  · rcases Nat.lt_or_ge k s with h | h
    · rw [hy k h]; exact Nat.le_refl _
    · have : k = s := by omega
      subst this
      rw [hys]; exact hfql
  obtain ⟨j, hj1, hj2, hseg2⟩ := hseg.crash (fun k _ h => hy k h) (by rw [hys]; exact hfql) (Nat.zero_le _) (by omega) hc
  have hgl : ∀ k, (framesB crc (G k)).length ≤ 1000000 := by
    intro k
    have h1 := frames_len14 (G k) (hkp.small k)
    rcases Nat.lt_or_ge s k with h | h
    · rw [hkp.above k h]; simp [framesB]
    · have h2 := flat_parts (G := G) h
      have h3 := flat_ge (G := G) (m := 0) (Nat.zero_le k) h
      rw [hkp.tell] at h2 h3
      rw [List.length_map] at h3
      omega
  have hwq : q ≤ wholeF crc (G s) j := (wholeF_iff hkp.ql).2 (by rw [← hys]; exact hj1)
  have hwl := wholeF_le (crc := crc) (G s) j
  have hrj := rdF_take (hkp.small s) hj2
  have hkj := kept_take (hkp.small s) hj2
  generalize wholeF crc (G s) j = m at hwq hwl hrj hkj
  have hG2 : ∀ k, ∀ b ∈ updG G s ((G s).take m) k, b.length ≤ 67108864 := by
    intro k b hb
    by_cases hk : k = s
    · subst hk; rw [updG_same] at hb; exact hkp.small k b (List.mem_of_mem_take hb)
    · rw [updG_ne _ _ hk] at hb; exact hkp.small k b hb
  have hfl2 : flat (updG G s ((G s).take m)) 0 s = (all.map (·.bs)).take (all.length - (G s).length + m) := by
    have h1 := hkp.tell
    rw [flat_last (Nat.zero_le _)] at h1
    rw [flat_last (Nat.zero_le _), updG_same, flatMap_congr' (g := G) fun x hx => updG_ne _ _ (by have := List.mem_range'_1.1 hx; omega)]
    have h2 : all.length - (G s).length = ((List.range' 0 (s - 0)).flatMap G).length := by
      have := congrArg List.length h1
      simp only [List.length_append, List.length_map] at this
      omega
    rw [← h1, h2, List.take_append, List.take_of_length_le (l := (List.range' 0 (s - 0)).flatMap G) (by omega), Nat.add_sub_cancel_left]
  have hgs := flat_ge (G := G) (m := 0) (Nat.zero_le s) (Nat.le_refl s)
  rw [hkp.tell, List.length_map] at hgs
  have hsyn := hkp.syn
  rw [List.length_map] at hsyn
  have hld : loads (fun k => if k = s then (framesB crc (G s)).take j else framesB crc (G k)) 0 (s + 1) = (all.map (·.bs)).take (all.length - (G s).length + m) := by
    rw [← hfl2]
    refine loads_flat fun k _ _ => ?_
    by_cases hk : k = s
    · subst hk; simp only [if_true, hrj, updG_same]
    · simp only [hk, if_false]; rw [updG_ne _ _ hk, rdF_all (hkp.small k)]
  have htl2 : total l2 ≤ 2000000 := Nat.le_trans hc.less htl
  have hll2 : l2.length ≤ 100000 := by
    have := congrArg List.length hc.keys
    simp [keysOf] at this; omega
  repeat (first | apply mInt_mk | apply mCons_mk | (apply xC H; rfl; (focus (repeat (first | exact List.Mem.head _ | apply List.Mem.tail | assumption))); rfl) | apply mStr_mk | apply mNil_mk | apply mSlice_mk | (apply xI H; rfl; (focus (repeat (first | exact List.Mem.head _ | apply List.Mem.tail | assumption))); rfl) | (apply xST H; rfl; (focus (repeat (first | exact Upd.here _ | apply Upd.there))); (focus (repeat (first | exact SetAt.zero _ _ | apply SetAt.succ))); rfl; intro w1 H) | (apply xSl H; rfl; (focus (repeat (first | exact List.Mem.head _ | apply List.Mem.tail | assumption))); rfl) | (apply xP H; rfl; (focus (repeat (first | exact List.Mem.head _ | apply List.Mem.tail | assumption))); rfl) | (apply xS H; rfl; (focus (repeat (first | exact List.Mem.head _ | apply List.Mem.tail | assumption))); rfl) | apply nn | (apply wLW H; intro w1 H) | apply mTup_mk | apply mAgg_mk | apply mPtr_mk | apply mBool_mk | (apply xM H; rfl; (focus (repeat (first | exact List.Mem.head _ | apply List.Mem.tail | assumption))); rfl) | (apply xB H; rfl; (focus (repeat (first | exact List.Mem.head _ | apply List.Mem.tail | assumption))); rfl) | apply wEq)
  have hkl : (framesB crc ((G s).take m)).length ≤ 1000000 := by
    have h1 := frames_take (ps := G s) m
    have h2 := congrArg List.length h1
    rw [List.length_take] at h2
    have := hgl s; omega
  refine Open_walk (nm := wNm) (f := 0) (s := s) (by decide) (by decide) (by decide) wNm_ok (hseg2.log (Nat.zero_le _) (by omega) fun k _ hk => by simp only [show ¬ k = s by omega, if_false]; rw [rdF_all (hkp.small k)])
    (fun k => by
      have h1 := hgl k; have h2 := hgl s
      by_cases hk : k = s
      · simp only [hk, if_true, List.length_take]; omega
      · simp only [hk, if_false]; omega) (by rw [hld]; simp; omega) (by omega) (by omega)
    (by simp only [if_true, hkj]; omega) H (.tail _ (.head _)) fun w3 p l3 qs qa qn qc hqs hop H => ?_
  rw [hld] at hqs
  repeat (first | apply mInt_mk | apply mCons_mk | (apply xC H; rfl; (focus (repeat (first | exact List.Mem.head _ | apply List.Mem.tail | assumption))); rfl) | apply mStr_mk | apply mNil_mk | apply mSlice_mk | (apply xI H; rfl; (focus (repeat (first | exact List.Mem.head _ | apply List.Mem.tail | assumption))); rfl) | (apply xST H; rfl; (focus (repeat (first | exact Upd.here _ | apply Upd.there))); (focus (repeat (first | exact SetAt.zero _ _ | apply SetAt.succ))); rfl; intro w1 H) | (apply xSl H; rfl; (focus (repeat (first | exact List.Mem.head _ | apply List.Mem.tail | assumption))); rfl) | (apply xP H; rfl; (focus (repeat (first | exact List.Mem.head _ | apply List.Mem.tail | assumption))); rfl) | (apply xS H; rfl; (focus (repeat (first | exact List.Mem.head _ | apply List.Mem.tail | assumption))); rfl) | apply nn | (apply wLW H; intro w1 H) | apply mTup_mk | apply mAgg_mk | apply mPtr_mk | apply mBool_mk | (apply xM H; rfl; (focus (repeat (first | exact List.Mem.head _ | apply List.Mem.tail | assumption))); rfl) | (apply xB H; rfl; (focus (repeat (first | exact List.Mem.head _ | apply List.Mem.tail | assumption))); rfl) | apply wEq)
  have htab : List.Mem (tabO o) (dO db bm 16777216 0 l3 :: logO p db wNm s :: partsO (.slice qa qn qc) qs :: [sliceO 41 1 (.slice aa an ac) (all.map PartR.hdr), tabO o]) := .tail _ (.tail _ (.tail _ (.tail _ (.head _))))
  have hqn : qn = qs.length := by simpa using (parts_reads (H.get (i := 2) rfl : (partsO (.slice qa qn qc) qs).holds w3)).1.len
  have hql : qs.length = all.length - (G s).length + m := by
    have := congrArg List.length hqs
    simp at this; omega
  have han : an = all.length := by
    have := (H.get (i := 3) rfl : SliceAt w3 41 1 (.slice aa an ac) _).len
    simpa using this
  subst hqn
  refine brF rfl (brF (by simp; omega) (brF (by simp; omega) ?_))
  have hard : ∀ w' (L' : List Own), St w [2] w' L' → List.Mem (tabO o) L' → List.Mem (sliceO 41 1 (.slice aa an ac) (all.map PartR.hdr)) L' → ReadsP w' (.slice aa an ac) all := fun w' L' H' ht hm =>
    ⟨(H'.has.all _ hm : SliceAt w' 41 1 (.slice aa an ac) _).reads, fun z hz => H'.readT h0 ht (by decide) (hal z hz)⟩
  refine headP_walk (hard _ _ H htab (.tail _ (.tail _ (.tail _ (.head _))))) (by omega) fun _ => mSlice_mk ?_
  refine same_walk (ps := qs) (qs := all.take qs.length) H (fun w' H' => parts_reads (H'.get (i := 2) rfl : (partsO (.slice qa qs.length qc) qs).holds w')) (fun w' H' => (hard _ _ H' htab (.tail _ (.tail _ (.tail _ (.head _))))).head (by omega)) (by omega) fun w4 H => mBool_mk ?_
  rw [decide_eq_true (by rw [hqs, List.map_take, hql])]
  refine brF rfl ?_
  have hseg3 : SegsAt l3 wNm 0 s (fun k => framesB crc (updG G s ((G s).take m) k)) (fun k => (framesB crc (updG G s ((G s).take m) k)).length) := by
    have e : ∀ k, kept (if k = s then (framesB crc (G s)).take j else framesB crc (G k)) = framesB crc (updG G s ((G s).take m) k) := by
      intro k
      by_cases hk : k = s
      · subst hk; rw [if_pos rfl, hkj, updG_same]
      · rw [if_neg hk, updG_ne _ _ hk, kept_all (hkp.small k)]
    exact (hseg2.opened hop).congr (fun k _ _ => e k) (fun k _ _ => by rw [e k])
  have hld3 : loads (fun k => framesB crc (updG G s ((G s).take m) k)) 0 (s + 1) = (all.map (·.bs)).take (all.length - (G s).length + m) := by
    rw [← hfl2]
    exact loads_flat fun k _ _ => by rw [rdF_all (hG2 k)]
  have hop1 := hop.total
  have hop2 := hop.len
  refine Open_walk (nm := wNm) (f := 0) (s := s) (by decide) (by decide) (by decide) wNm_ok (hseg3.log (Nat.zero_le _) (by omega) fun k _ _ => by rw [rdF_all (hG2 k)])
    (fun k => by
      have h1 := hgl k
      by_cases hk : k = s
      · subst hk; simp only [updG_same]; omega
      · simp only [updG_ne _ _ hk]; omega) (by rw [hld3]; simp; omega) (by omega) (by omega)
    (by have hkk : kept (framesB crc ((G s).take m)) = framesB crc ((G s).take m) := kept_all fun b hb => hkp.small s b (List.mem_of_mem_take hb)
        simp only [updG_same, hkk]; omega) H (.tail _ (.tail _ (.tail _ (.head _)))) fun w5 p2 l4 zs za zn zc hzs hop2 H => ?_
  rw [hld3] at hzs
  repeat (first | apply mInt_mk | apply mCons_mk | (apply xC H; rfl; (focus (repeat (first | exact List.Mem.head _ | apply List.Mem.tail | assumption))); rfl) | apply mStr_mk | apply mNil_mk | apply mSlice_mk | (apply xI H; rfl; (focus (repeat (first | exact List.Mem.head _ | apply List.Mem.tail | assumption))); rfl) | (apply xST H; rfl; (focus (repeat (first | exact Upd.here _ | apply Upd.there))); (focus (repeat (first | exact SetAt.zero _ _ | apply SetAt.succ))); rfl; intro w1 H) | (apply xSl H; rfl; (focus (repeat (first | exact List.Mem.head _ | apply List.Mem.tail | assumption))); rfl) | (apply xP H; rfl; (focus (repeat (first | exact List.Mem.head _ | apply List.Mem.tail | assumption))); rfl) | (apply xS H; rfl; (focus (repeat (first | exact List.Mem.head _ | apply List.Mem.tail | assumption))); rfl) | apply nn | (apply wLW H; intro w1 H) | apply mTup_mk | apply mAgg_mk | apply mPtr_mk | apply mBool_mk | (apply xM H; rfl; (focus (repeat (first | exact List.Mem.head _ | apply List.Mem.tail | assumption))); rfl) | (apply xB H; rfl; (focus (repeat (first | exact List.Mem.head _ | apply List.Mem.tail | assumption))); rfl) | apply wEq)
  refine brT rfl ?_
  have htab2 : List.Mem (tabO o) (dO db bm 16777216 0 l4 :: logO p2 db wNm s :: partsO (.slice za zn zc) zs :: logO p db wNm s :: partsO (.slice qa qs.length qc) qs :: [sliceO 41 1 (.slice aa an ac) (all.map PartR.hdr), tabO o]) := .tail _ (.tail _ (.tail _ (.tail _ (.tail _ (.tail _ (.head _))))))
  refine same_walk (ps := qs) (qs := zs) H (fun w' H' => parts_reads (H'.get (i := 4) rfl : (partsO (.slice qa qs.length qc) qs).holds w')) (fun w' H' => parts_reads (H'.get (i := 2) rfl : (partsO (.slice za zn zc) zs).holds w')) (by omega) fun w6 H => mBool_mk ?_
  rw [decide_eq_true (by rw [hqs, hzs])]
  exact fin _ _ H htab2
end
end Go.Proofs.YtnhjcjnjpciifaaDoor

/- WalKeeps, walked: its loop; all of it. -/
namespace Go.Proofs.YtnhjcjnjpciifaaDoor
open Go.Sh
attribute [local irreducible] rRun LDI LDB LDS LDP LDSl LDM LD Go.Sh.ST AL ALM LetW CallR CallV CallI NN IX SIX Br Req mInt mBool mStr mPtr mSlice mMap mAgg mTup mCons mNil mNth mPA LoopS
attribute [local irreducible] glacierlaw4_WalKeeps_b0
section
variable {w0 w : World} {F : List Nat} {L : List Own} {K : Value → World → Prop} {db bm p : Nat} {size born : Int} {l : Files} {o : Obj}
theorem heads_join {a a2 : Option Addr} {n c n2 c2 : Nat} {ps qs : List PartR} (hl : ps.length + qs.length ≤ 1000000000) (H : St w0 F w (sliceO 41 1 (.slice a n c) (ps.map PartR.hdr) :: L)) (hr : Reads w 1 (.slice a2 n2 c2) (qs.map PartR.hdr))
    (hK : ∀ w' a' n' c', St w0 F w' (sliceO 41 1 (.slice a' n' c') ((ps ++ qs).map PartR.hdr) :: L) → K (.slice a' n' c') w') :
    rRun Tryd.prog (Builtin.append_ #[40, 40] 40 #[.slice a n c, .slice a2 n2 c2]) w K := by
  obtain ⟨m, _, hsrc⟩ := hr.src (P := Tryd.prog) (tx := 40) elem_bytess.under (by intro u hu; obtain ⟨q, _, rfl⟩ := List.mem_map.1 hu; rfl)
  refine append_own (t := 40) (n := m) elem_bytess (i := 0) H rfl hsrc (by simp; omega) (by decide) fun v' w3 H hf _ => ?_
  obtain ⟨a', len, cap, rfl, _⟩ := (H.get (i := 0) rfl : SliceAt _ _ _ _ _)
  refine hK _ _ _ _ ?_
  rw [List.map_append]
  exact H
theorem plen_map (ps : List PartR) : ((ps.map (·.bs)).map List.length).sum = plen ps := by
  unfold plen; rw [List.map_map]; rfl
theorem part_le : ∀ {ps : List PartR} {q : PartR}, q ∈ ps → q.bs.length ≤ plen ps
  | [], _, h => by cases h
  | z :: t, q, h => by
    simp only [plen, List.map_cons, List.sum_cons]
    rcases List.mem_cons.1 h with rfl | h
    · omega
    · have := part_le h; simp only [plen] at this; omega
set_option maxHeartbeats 1600000 in
theorem WalKeeps_spec {la pa : Option Addr} {ln lc pn pc : Nat} {xs : List ActW} {picks : List Int} (h0 : (tabO o).holds w) (hl : ActsW w (.slice la ln lc) xs) (hpk : Reads w 1 (.slice pa pn pc) (ints picks)) (hw : wsum xs ≤ 1048576) (hxl : xs.length ≤ 1048576) :
    CallS Tryd.prog fn_glacierlaw4_WalKeeps #[.slice la ln lc, .slice pa pn pc] w [tabO o] fun r _ A => r = .bool true ∧ A = [tabO o] := by
  refine CallS_intro (tab_has h0) fun H => ?_
  have hln : ln = xs.length := hl.len
  subst hln
  have H : St w [2] w [tabO o] := H
  have fin : ∀ (w' : World) (L : List Own), St w [2] w' L → List.Mem (tabO o) L → ∃ A', ((Value.bool true) = .bool true ∧ A' = [tabO o]) ∧ St w (fps [tabO o]) w' A' := by
    intro w' L H hm
    obtain ⟨M, hp⟩ := mem_perm hm
    exact ⟨_, ⟨rfl, rfl⟩, Sh.St.left (L := [tabO o]) (M := M) (H.perm hp)⟩
  refine glacierlaw4_WalKeeps_sound _ _ _ _ _ _ _ _ ?_
  refine known_walk H (.head _) fun w1 H => mBool_mk (brF rfl ?_)
  refine few_walk (xs := xs) H (fun w' H' => hl.keep (H'.tabFr h0 (.head _))) hw hxl fun w2 q H hq => mBool_mk ?_
  refine br (fun _ => fin _ _ H (.head _)) (fun hq2 => ?_)
  obtain ⟨h300, h65⟩ := hq (by simpa using hq2)
  refine br (fun _ => fin _ _ H (.head _)) (fun _ => ?_)
  refine new_walk (by decide) H fun w3 db bm H => ?_
  repeat (first | apply mInt_mk | apply mCons_mk | (apply xC H; rfl; (focus (repeat (first | exact List.Mem.head _ | apply List.Mem.tail | assumption))); rfl) | apply mStr_mk | apply mNil_mk | apply mSlice_mk | (apply xI H; rfl; (focus (repeat (first | exact List.Mem.head _ | apply List.Mem.tail | assumption))); rfl) | (apply xST H; rfl; (focus (repeat (first | exact Upd.here _ | apply Upd.there))); (focus (repeat (first | exact SetAt.zero _ _ | apply SetAt.succ))); rfl; intro w1 H) | (apply xSl H; rfl; (focus (repeat (first | exact List.Mem.head _ | apply List.Mem.tail | assumption))); rfl) | (apply xP H; rfl; (focus (repeat (first | exact List.Mem.head _ | apply List.Mem.tail | assumption))); rfl) | (apply xS H; rfl; (focus (repeat (first | exact List.Mem.head _ | apply List.Mem.tail | assumption))); rfl) | apply nn | (apply wLW H; intro w1 H) | apply mTup_mk | apply mAgg_mk | apply mPtr_mk | apply mBool_mk | (apply xM H; rfl; (focus (repeat (first | exact List.Mem.head _ | apply List.Mem.tail | assumption))); rfl) | (apply xB H; rfl; (focus (repeat (first | exact List.Mem.head _ | apply List.Mem.tail | assumption))); rfl) | apply wEq)
  refine brF rfl (brF rfl ?_)
  refine Open_new_walk (nm := wNm) (f := 0) (by decide) (by decide) (by decide) wNm_ok (by decide) rfl (by decide) (by decide) H (.head _) fun w4 p l1 a n c' hl1 ht1 hn1 H => ?_
  rw [look_empty] at hl1
  have ht1 : total l1 = 0 := ht1
  have hn1 : l1.length ≤ 1 := hn1
  have hseg1 : SegsAt l1 wNm 0 0 (fun k => framesB crc ((fun _ => [] : Nat → List Bytes) k)) (fun _ => 0) := by
    refine ⟨fun k h1 h2 => ?_, fun t ht => ?_⟩
    · have : k = 0 := by omega
      subst this
      rw [hl1, upd_same]; rfl
    · rw [hl1, upd_ne _ _ (ht 0 (Nat.le_refl _) (Nat.le_refl _))]
  repeat (first | apply mInt_mk | apply mCons_mk | (apply xC H; rfl; (focus (repeat (first | exact List.Mem.head _ | apply List.Mem.tail | assumption))); rfl) | apply mStr_mk | apply mNil_mk | apply mSlice_mk | (apply xI H; rfl; (focus (repeat (first | exact List.Mem.head _ | apply List.Mem.tail | assumption))); rfl) | (apply xST H; rfl; (focus (repeat (first | exact Upd.here _ | apply Upd.there))); (focus (repeat (first | exact SetAt.zero _ _ | apply SetAt.succ))); rfl; intro w1 H) | (apply xSl H; rfl; (focus (repeat (first | exact List.Mem.head _ | apply List.Mem.tail | assumption))); rfl) | (apply xP H; rfl; (focus (repeat (first | exact List.Mem.head _ | apply List.Mem.tail | assumption))); rfl) | (apply xS H; rfl; (focus (repeat (first | exact List.Mem.head _ | apply List.Mem.tail | assumption))); rfl) | apply nn | (apply wLW H; intro w1 H) | apply mTup_mk | apply mAgg_mk | apply mPtr_mk | apply mBool_mk | (apply xM H; rfl; (focus (repeat (first | exact List.Mem.head _ | apply List.Mem.tail | assumption))); rfl) | (apply xB H; rfl; (focus (repeat (first | exact List.Mem.head _ | apply List.Mem.tail | assumption))); rfl) | apply wEq)
  refine brF rfl (brF rfl ?_)
  have H : St w [2] w4 [dO db bm 16777216 0 l1, logO p db wNm 0, tabO o] := (H.front (partsO (.slice a n c') [])).tail
  have H : St w [2] w4 [sliceO 41 1 (.slice none 0 0) (([] : List PartR).map PartR.hdr), dO db bm 16777216 0 l1, logO p db wNm 0, tabO o] := H.nothing 41 1 none
  refine wLoop (fun k t w' => ∃ (i s q sy : Nat) (li : Files) (all : List PartR) (G : Nat → List Bytes) (y : Nat → Nat) (aa : Option Addr) (an ac : Nat), k + i = xs.length ∧ t = (la, xs.length, lc, pa, pn, pc, some ⟨db, 0, none⟩, some ⟨p, 0, none⟩, aa, an, ac, (sy : Int), (i : Int)) ∧
    Keeps (all.map (·.bs)) sy s q G ∧ SegsAt li wNm 0 s (fun k => framesB crc (G k)) y ∧ (∀ k, k < s → y k = (framesB crc (G k)).length) ∧ y s = (framesB crc ((G s).take q)).length ∧ s ≤ i ∧ (∀ z ∈ all, Reads w 1 z.hdr (bvals z.bs)) ∧ all.length + plen all ≤ wsum (xs.take i) ∧
    total li ≤ plen all + 14 * all.length ∧ li.length ≤ 2 * i + 1 ∧ St w [2] w' [sliceO 41 1 (.slice aa an ac) (all.map PartR.hdr), dO db bm 16777216 0 li, logO p db wNm s, tabO o])
    ⟨xs.length, 0, 0, 0, 0, l1, [], fun _ => [], fun _ => 0, none, 0, 0, rfl, rfl, .zero, hseg1, fun k hk => by omega, rfl, Nat.le_refl _, fun z hz => (by cases hz), by simp [plen], by omega, by omega, H⟩ ?_
  clear H
  rintro k t w5 ⟨i, s, q, sy, li, all, G, y, aa, an, ac, hk, rfl, hkp, hseg, hy, hys, hsi, hal, hwt, htot, hlen, H⟩
  have hwi2 := wsum_le xs i
  have han : an = all.length := by
    have := (H.get (i := 0) rfl : SliceAt w5 41 1 (.slice aa an ac) _).len
    simpa using this
  subst han
  have H := H.front (dO db bm 16777216 0 li)
  refine br (fun h => ?_) (fun h => ?_)
  · have hi : i < xs.length := by simp at h; omega
    obtain ⟨x, hx⟩ : ∃ x, xs[i]? = some x := ⟨_, List.getElem?_eq_getElem hi⟩
    have hxm := List.mem_of_getElem? hx
    have hwi : IntKind.wrap .i64 ((i : Int) + 1) = ((i + 1 : Nat) : Int) := by rw [wrap_id (by omega) (by omega)]; rfl
    have hws := wsum_take hx
    have hws2 := wsum_le xs (i + 1)
    have hwx : x.wt = x.ps.length + x.pn + plen x.ps := rfl
    have hld : ∀ w' (L' : List Own), St w [2] w' L' → List.Mem (tabO o) L' → ActsW w' (.slice la xs.length lc) xs := fun w' L' H' ht => hl.keep (H'.tabFr h0 ht)
    have hmem : List.Mem (tabO o) [dO db bm 16777216 0 li, sliceO 41 1 (.slice aa all.length ac) (all.map PartR.hdr), logO p db wNm s, tabO o] := .tail _ (.tail _ (.tail _ (.head _)))
    have stay : ∀ (w' : World) (s' q' sy' : Nat) (li' : Files) (G' : Nat → List Bytes) (y' : Nat → Nat), Keeps (all.map (·.bs)) sy' s' q' G' → SegsAt li' wNm 0 s' (fun k => framesB crc (G' k)) y' → (∀ k, k < s' → y' k = (framesB crc (G' k)).length) → y' s' = (framesB crc ((G' s').take q')).length → s' ≤ i + 1 → total li' ≤ plen all + 14 * all.length → li'.length ≤ 2 * (i + 1) + 1 →
        St w [2] w' [dO db bm 16777216 0 li', logO p db wNm s', sliceO 41 1 (.slice aa all.length ac) (all.map PartR.hdr), tabO o] →
        ∃ k', k' < k ∧ ∃ (i' s q sy : Nat) (li : Files) (all_1 : List PartR) (G : Nat → List Bytes) (y : Nat → Nat) (aa_1 : Option Addr) (an ac_1 : Nat), k' + i' = xs.length ∧ (la, xs.length, lc, pa, pn, pc, (some ⟨db, 0, none⟩ : Option Addr), (some ⟨p, 0, none⟩ : Option Addr), aa, all.length, ac, (sy' : Int), IntKind.wrap .i64 ((i : Int) + 1)) = (la, xs.length, lc, pa, pn, pc, some ⟨db, 0, none⟩, some ⟨p, 0, none⟩, aa_1, an, ac_1, (sy : Int), (i' : Int)) ∧
          Keeps (all_1.map (·.bs)) sy s q G ∧ SegsAt li wNm 0 s (fun k => framesB crc (G k)) y ∧ (∀ k, k < s → y k = (framesB crc (G k)).length) ∧ y s = (framesB crc ((G s).take q)).length ∧ s ≤ i' ∧ (∀ z ∈ all_1, Reads w 1 z.hdr (bvals z.bs)) ∧ all_1.length + plen all_1 ≤ wsum (xs.take i') ∧
          total li ≤ plen all_1 + 14 * all_1.length ∧ li.length ≤ 2 * i' + 1 ∧ St w [2] w' [sliceO 41 1 (.slice aa_1 an ac_1) (all_1.map PartR.hdr), dO db bm 16777216 0 li, logO p db wNm s, tabO o] := by
      intro w' s' q' sy' li' G' y' g1 g2 g3 g4 g5 g6 g7 H'
      exact ⟨k - 1, by omega, i + 1, s', q', sy', li', all, G', y', aa, all.length, ac, by omega, by rw [hwi], g1, g2, g3, g4, g5, hal, by omega, g6, g7, (H'.front (sliceO 41 1 (.slice aa all.length ac) (all.map PartR.hdr)))⟩
    refine wIXel (hld _ _ H hmem) hx rfl fun a0 ha0 => ?_
    refine ldI (act_loads ha0).1 ?_
    refine br (fun hop => ?_) (fun hop => ?_)
    · refine wIXel (hld _ _ H hmem) hx rfl fun a1 ha1 => ?_
      refine ldSl (act_loads ha1).2.1 ?_
      have hxok := hl.oks x hxm
      have hbig : ∀ z ∈ x.ps, z.bs.length ≤ 67108864 := fun z hz => by have := part_le hz; omega
      have hfl := framesB_len_le x.ps fun z hz => by have := hbig z hz; omega
      refine log_append_walk (ps := x.ps) (nm := wNm) (last := s) (by omega) wNm_ok (by omega) (by omega) (by omega) hbig H (.tail _ (.head _)) (.tail _ (.tail _ (.head _)))
        (fun w' H' => H'.readPT h0 hmem hxok) (fun hf => by omega) fun w6 l2 hl2 ht2 hn2 H => mInt_mk (brT rfl ?_)
      have hmem2 : List.Mem (tabO o) [dO db bm 16777216 0 l2, sliceO 41 1 (.slice aa all.length ac) (all.map PartR.hdr), logO p db wNm s, tabO o] := .tail _ (.tail _ (.tail _ (.head _)))
      refine wIXel (hld _ _ H hmem2) hx rfl fun a2 ha2 => ?_
      refine ldSl (act_loads ha2).2.1 ?_
      have hrd := (H.readPT h0 hmem2 hxok).1
      have H := H.front (sliceO 41 1 (.slice aa all.length ac) (all.map PartR.hdr))
      refine heads_join (qs := x.ps) (by omega) H hrd fun w7 ja jn jc H => mSlice_mk ?_
      have hseg2 : SegsAt l2 wNm 0 s (fun k => framesB crc (updG G s (G s ++ x.ps.map (·.bs)) k)) y := by
        rw [bsOf_look, synOf_look, hseg.here s (Nat.zero_le _) (Nat.le_refl _)] at hl2
        refine (hseg.upd (by omega) (Nat.zero_le _) (Nat.le_refl _) hl2).congr (fun k h1 h2 => ?_) (fun k h1 h2 => ?_)
        · by_cases hk : k = s
          · subst hk; rw [updG_same, framesB_append]; simp
          · rw [updG_ne _ _ hk]; simp [hk]
        · by_cases hk : k = s
          · subst hk; simp
          · simp [hk]
      have hkp2 := hkp.add (v := x.ps.map (·.bs)) fun b hb => by
        obtain ⟨z, hz, rfl⟩ := List.mem_map.1 hb
        exact hbig z hz
      rw [← List.map_append] at hkp2
      have hpa : plen (all ++ x.ps) = plen all + plen x.ps := by simp [plen]
      refine ⟨k - 1, by omega, i + 1, s, q, sy, l2, all ++ x.ps, _, y, ja, jn, jc, by omega, by rw [hwi], hkp2, hseg2, fun k hk => by rw [updG_ne _ _ (by omega)]; exact hy k hk, ?_, by omega, fun z hz => ?_, by rw [hpa, List.length_append]; omega, by rw [hpa, List.length_append]; omega, by omega, H⟩
      · rw [updG_same, List.take_append_of_le_length hkp.ql]; exact hys
      · rcases List.mem_append.1 hz with hz | hz
        · exact hal z hz
        · exact hxok.2 z hz
    refine br (fun hop => ?_) (fun hop => ?_)
    · refine log_sync_walk (by omega) wNm_ok H (.tail _ (.head _)) (.tail _ (.tail _ (.head _))) (hseg.here s (Nat.zero_le _) (Nat.le_refl _)) fun w6 l2 hl2 ht2 hn2 H => mInt_mk (brT rfl ?_)
      have hseg2 : SegsAt l2 wNm 0 s (fun k => framesB crc (G k)) (fun k => if k = s then (framesB crc (G s)).length else y k) :=
        (hseg.upd (by omega) (Nat.zero_le _) (Nat.le_refl _) hl2).congr (fun k h1 h2 => by
          by_cases hk : k = s
          · subst hk; simp
          · simp [hk]) (fun _ _ _ => rfl)
      refine stay w6 s (G s).length _ l2 G _ hkp.sync hseg2 (fun k hk => by simp only [show ¬ k = s by omega, if_false]; exact hy k hk) (by simp) (by omega) (by omega) (by omega) ?_ |> fun h => by simpa using h
      exact (H.front (logO p db wNm s)).front (dO db bm 16777216 0 l2)
    refine br (fun hop => ?_) (fun hop => ?_)
    · have H := (H.front (logO p db wNm s)).front (dO db bm 16777216 0 li)
      refine log_rotate_walk (by omega) wNm_ok (by omega) (by omega) H (.tail _ (.head _)) (hseg.here s (Nat.zero_le _) (Nat.le_refl _)) (seg_none hseg (by omega)) fun w6 l2 hl2 ht2 hn2 H => mInt_mk (brT rfl ?_)
      have hseg2 := (hseg.next (Nat.zero_le _) (by omega) hl2).congr (c' := fun k => framesB crc (G k)) (fun k h1 h2 => by
        by_cases hk : k = s + 1
        · subst hk; rw [hkp.above _ (by omega)]; simp [framesB]
        · simp [hk]) (fun _ _ _ => rfl)
      refine stay w6 (s + 1) 0 _ l2 G _ hkp.turn hseg2 (fun k hk => ?_) (by simp [framesB]) (by omega) (by omega) (by omega) H |> fun h => by simpa using h
      by_cases hk2 : k = s
      · subst hk2; simp
      · simp only [show ¬ k = s + 1 by omega, hk2, if_false]
        exact hy k (by omega)
    · exact stay w5 s q sy li G y hkp hseg hy hys (by omega) htot (by omega) ((H.front (logO p db wNm s)).front (dO db bm 16777216 0 li))
  · have hi : i = xs.length := by simp at h; omega
    subst hi
    rw [List.take_length] at hwt
    have H : St w [2] w5 [dO db bm 16777216 0 li, sliceO 41 1 (.slice aa all.length ac) (all.map PartR.hdr), tabO o] := (H.front (logO p db wNm s)).tail
    exact keeps_0 h0 hpk hal hkp (by omega) hseg hy hys (by omega) (by omega) (by rw [plen_map]; omega) H fin
end
end Go.Proofs.YtnhjcjnjpciifaaDoor
