/- A log that is not there opened; the caller's memory beside the table; rows of payloads compared and cut; the plain law of a cut log. -/
import Derived.Test.YtnhjcjnjpciifaaDoorHWD
import Derived.Test.YtnhjcjnjpciifaaDoorShLaws4
namespace Go.Proofs.YtnhjcjnjpciifaaDoor
open Go.Sh
theorem frames_take {ps : List Bytes} (m : Nat) : (framesB crc ps).take (framesB crc (ps.take m)).length = framesB crc (ps.take m) := by
  conv => lhs; rw [← List.take_append_drop m ps, framesB_append]
  rw [List.take_append_drop, List.take_left' rfl]
theorem rdF_take {ps : List Bytes} {k : Nat} (hp : ∀ p ∈ ps, p.length ≤ 67108864) (hk : k ≤ (framesB crc ps).length) :
    rdF ((framesB crc ps).take k) = (ps.take (wholeF crc ps k), (framesB crc (ps.take (wholeF crc ps k))).length, if (framesB crc (ps.take (wholeF crc ps k))).length = k then 0 else 11) := by
  have := readFs_take (crc := crc) ps k ((framesB crc ps).take k).length hp hk (by rw [List.length_take]; omega)
  exact this
theorem kept_take {ps : List Bytes} {k : Nat} (hp : ∀ p ∈ ps, p.length ≤ 67108864) (hk : k ≤ (framesB crc ps).length) :
    kept ((framesB crc ps).take k) = framesB crc (ps.take (wholeF crc ps k)) := by
  have h := rdF_take hp hk
  have h2 := frames_take (ps := ps) (wholeF crc ps k)
  have h3 := rdF_le ((framesB crc ps).take k)
  rw [h] at h3
  simp only [List.length_take] at h3
  have hfin : kept ((framesB crc ps).take k) = if (if (framesB crc (ps.take (wholeF crc ps k))).length = k then 0 else 11) = 0 then (framesB crc ps).take k else ((framesB crc ps).take k).take (framesB crc (ps.take (wholeF crc ps k))).length := by unfold kept; rw [h]
  by_cases he : (framesB crc (ps.take (wholeF crc ps k))).length = k
  · rw [hfin, if_pos (by rw [if_pos he])]
    rw [he] at h2
    exact h2
  · rw [hfin, if_neg (by rw [if_neg he]; decide), List.take_take, Nat.min_eq_left (by omega)]
    exact h2
theorem rdF_all {ps : List Bytes} (hp : ∀ p ∈ ps, p.length ≤ 67108864) : rdF (framesB crc ps) = (ps, (framesB crc ps).length, 0) :=
  readFs_all ps _ hp (Nat.le_refl _)
theorem kept_all {ps : List Bytes} (hp : ∀ p ∈ ps, p.length ≤ 67108864) : kept (framesB crc ps) = framesB crc ps := by
  unfold kept; rw [rdF_all hp]; rfl
theorem wholeF_mono : ∀ (ps : List Bytes) (j k : Nat), j ≤ k → wholeF crc ps j ≤ wholeF crc ps k
  | [], _, _, _ => by simp [wholeF]
  | p :: t, j, k, h => by
    simp only [wholeF]
    by_cases h1 : (frameB crc p).length ≤ j
    · rw [if_pos h1, if_pos (by omega)]
      have := wholeF_mono t (j - (frameB crc p).length) (k - (frameB crc p).length) (by omega)
      omega
    · rw [if_neg h1]; omega
theorem wholeF_at (ps : List Bytes) (n : Nat) (hn : n ≤ ps.length) : n ≤ wholeF crc ps (framesB crc (ps.take n)).length := by
  induction ps generalizing n with
  | nil => simp at hn; omega
  | cons p t ih =>
    cases n with
    | zero => omega
    | succ n =>
      rw [List.take_succ_cons, framesB_cons, List.length_append]
      simp only [wholeF]
      rw [if_pos (by omega), show (frameB crc p).length + (framesB crc (t.take n)).length - (frameB crc p).length = (framesB crc (t.take n)).length by omega]
      have := ih n (by simpa using hn)
      omega
theorem wholeF_fits : ∀ (ps : List Bytes) (k : Nat), (framesB crc (ps.take (wholeF crc ps k))).length ≤ k
  | [], k => by simp [framesB, wholeF]
  | p :: t, k => by
    simp only [wholeF]
    by_cases h : (frameB crc p).length ≤ k
    · rw [if_pos h, List.take_succ_cons, framesB_cons, List.length_append]
      have := wholeF_fits t (k - (frameB crc p).length)
      omega
    · rw [if_neg h]; simp [framesB]
/-- How many payloads are whole: those whose ends lie within. -/
theorem wholeF_iff {ps : List Bytes} {n k : Nat} (hn : n ≤ ps.length) : n ≤ wholeF crc ps k ↔ (framesB crc (ps.take n)).length ≤ k := by
  constructor
  · intro h
    have h1 := wholeF_fits ps k
    have h2 : (framesB crc (ps.take n)).length ≤ (framesB crc (ps.take (wholeF crc ps k))).length := by
      have e : ps.take n = (ps.take (wholeF crc ps k)).take n := by rw [List.take_take, Nat.min_eq_left h]
      rw [e]
      have := frames_take (ps := ps.take (wholeF crc ps k)) n
      have h3 := congrArg List.length this
      rw [List.length_take] at h3
      omega
    omega
  · intro h
    exact Nat.le_trans (wholeF_at ps n hn) (wholeF_mono ps _ _ h)
attribute [local irreducible] rRun LDI LDB LDS LDP LDSl LDM LD Go.Sh.ST AL ALM LetW CallR CallV CallI NN IX SIX Br Req mInt mBool mStr mPtr mSlice mMap mAgg mTup mCons mNil mNth mPA LoopS
section
variable {w0 w : World} {F : List Nat} {L : List Own} {K : Value → World → Prop} {db bm : Nat} {size born : Int} {l : Files} {nm : List UInt8} {o : Obj}
theorem _root_.Go.Sh.St.tabFr {w' : World} (h0 : (tabO o).holds w) (H : St w [2] w' L) (ht : List.Mem (tabO o) L) : Fr [] w w' :=
  tab_drop (o := o) (by simpa [tabO, fps] using H.fr) h0 (H.has.all _ ht)
/-- What the caller showed is shown still. -/
theorem _root_.Go.Sh.St.readT {w' : World} {sz : Nat} {v : Value} {cs : List Value} (h0 : (tabO o).holds w) (H : St w [2] w' L) (ht : List.Mem (tabO o) L) (hsz : 0 < sz) (hr : Reads w sz v cs) : Reads w' sz v cs :=
  hr.of fun b hb => (H.tabFr h0 ht).block b (hr.lt hsz b hb) (by simp)
theorem _root_.Go.Sh.St.extT {w' : World} {A B : List Own} {sz : Nat} {v : Value} {cs : List Value} (h0 : (tabO o).holds w) (H : St w [2] w' (A ++ B)) (ht : List.Mem (tabO o) B) (hsz : 0 < sz) (hr : Reads w sz v cs) : Ext w' A sz v cs :=
  ⟨H.readT h0 (List.mem_append_right _ ht) hsz hr, fun b hb ha => by
    rcases H.own b (by rw [fps_append]; exact List.mem_append_left _ ha) with h | h
    · have h := List.mem_singleton.1 h
      exact H.has.apart ha (mem_fps.2 ⟨tabO o, ht, by simp [tabO, h]⟩)
    · have := hr.lt hsz b hb
      omega⟩
theorem _root_.Go.Sh.St.readPT {w' : World} {v : Value} {ps : List PartR} (h0 : (tabO o).holds w) (H : St w [2] w' L) (ht : List.Mem (tabO o) L) (hr : ReadsP w v ps) : ReadsP w' v ps :=
  ⟨H.readT h0 ht (by decide) hr.1, fun p hp => H.readT h0 ht (by decide) (hr.2 p hp)⟩
theorem headP_walk {a : Option Addr} {n c h : Nat} {ps : List PartR} (hr : ReadsP w (.slice a n c) ps) (hh : h ≤ ps.length) (hK : ReadsP w (.slice a h c) (ps.take h) → K (.slice a h c) w) :
    rRun Tryd.prog (Instr.sliceAt 40 (.slice a n c) none (some (.int .i64 (h : Int))) none) w K := by
  have hn : n = ps.length := by simpa using hr.1.len
  obtain ⟨_, _, _, he, h1, h2, h3⟩ := id hr.1
  cases he
  have ha : (if c = 0 then a else a.map (·.add (0 * 1))) = a := by
    split
    · rfl
    · cases a with
      | none => rfl
      | some a => simp [Addr.add]
  refine rRun_intro (sliceAt_run (P := Tryd.prog) elem_bytess (a := a) (len := n) (cap := c) (l := 0) (h := h) (m := c) (lo := none) (hi := some (.int .i64 h)) (mx := none) rfl ⟨rfl, by omega⟩ (fun h => by cases h) rfl) ?_
  rw [ha]
  refine hK ⟨?_, fun p hp => hr.2 p (List.mem_of_mem_take hp)⟩
  have h5 := hr.1.sub (l := 0) (h := h) (m := c) (by omega) (by omega) (by omega)
  rw [ha] at h5
  simpa [List.map_take] using h5
theorem tailP_walk {a : Option Addr} {n c k : Nat} {ps : List PartR} (hr : ReadsP w (.slice a n c) ps) (hk : k ≤ ps.length) (hK : ∀ a', ReadsP w (.slice a' (n - k) (c - k)) (ps.drop k) → K (.slice a' (n - k) (c - k)) w) :
    rRun Tryd.prog (Instr.sliceAt 40 (.slice a n c) (some (.int .i64 (k : Int))) none none) w K := by
  have hn : n = ps.length := by simpa using hr.1.len
  obtain ⟨_, _, _, he, h1, h2, h3⟩ := id hr.1
  cases he
  refine rRun_intro (sliceAt_run (P := Tryd.prog) elem_bytess (a := a) (len := n) (cap := c) (l := k) (h := n) (m := c) (lo := some (.int .i64 k)) (hi := none) (mx := none) rfl rfl (fun h => by cases h) ⟨rfl, by omega⟩) ?_
  refine hK _ ⟨?_, fun p hp => hr.2 p (List.mem_of_mem_drop hp)⟩
  have h5 := hr.1.sub (l := k) (h := n) (m := c) (by omega) (by omega) (by omega)
  rw [show ((ps.map PartR.hdr).drop (k * 1)).take ((n - k) * 1) = (ps.drop k).map PartR.hdr by
    rw [Nat.mul_one, Nat.mul_one, List.take_of_length_le (by simp; omega), List.map_drop]] at h5
  exact h5
theorem same_walk {a b : Option Addr} {n c n2 c2 : Nat} {ps qs : List PartR} (H : St w0 F w L) (hr : ∀ w', St w0 F w' L → ReadsP w' (.slice a n c) ps) (hr2 : ∀ w', St w0 F w' L → ReadsP w' (.slice b n2 c2) qs) (hl : ps.length ≤ 1000000000)
    (hK : ∀ w', St w0 F w' L → K (.bool (decide (ps.map (·.bs) = qs.map (·.bs)))) w') : CallR Tryd.prog fn_glacierlaw4_same #[.slice a n c, .slice b n2 c2] w K := by
  have hn : n = ps.length := by simpa using (hr w H).1.len
  have hn2 : n2 = qs.length := by simpa using (hr2 w H).1.len
  refine glacierlaw4_same_sound _ _ _ _ _ _ _ _ ?_
  refine br (fun h => ?_) (fun h => ?_)
  · have hne : ps.map (·.bs) ≠ qs.map (·.bs) := by
      intro he
      have := congrArg List.length he
      simp at this
      simp at h; omega
    have := hK w H
    rw [decide_eq_false hne] at this
    exact this
  have hlen : ps.length = qs.length := by simp at h; omega
  refine wLoop (fun k s w' => ∃ (i : Nat), k + i = ps.length ∧ s = (a, n, c, b, n2, c2, (i : Int)) ∧ (ps.map (·.bs)).take i = (qs.map (·.bs)).take i ∧ St w0 F w' L) ⟨ps.length, 0, rfl, rfl, rfl, H⟩ ?_
  clear H
  rintro k s w1 ⟨i, hk, rfl, he, H⟩
  refine br (fun h => ?_) (fun h => ?_)
  · have hi : i < ps.length := by simp at h; omega
    obtain ⟨q, hq⟩ : ∃ q, ps[i]? = some q := ⟨_, List.getElem?_eq_getElem hi⟩
    obtain ⟨z, hz⟩ : ∃ z, qs[i]? = some z := ⟨_, List.getElem?_eq_getElem (by omega)⟩
    have hwi : IntKind.wrap .i64 ((i : Int) + 1) = ((i + 1 : Nat) : Int) := by rw [wrap_id (by omega) (by omega)]; rfl
    refine wLW H ?_
    intro w2 H
    refine wIXr (hr w2 H).1 (i := i) (by simpa using hi) rfl fun ad had => ?_
    rw [List.getElem?_map, hq] at had
    refine ldSl (b := q.a) (l := q.n) (c := q.c) had ?_
    refine wConvS ((hr w2 H).2 q (List.mem_of_getElem? hq)) Tryd.underlying41 Tryd.underlying5 Tryd.underlying9 (mStr_mk (wEq ?_))
    refine wIXr (hr2 w2 H).1 (i := i) (by simp; omega) rfl fun ad had => ?_
    rw [List.getElem?_map, hz] at had
    refine ldSl (b := z.a) (l := z.n) (c := z.c) had ?_
    refine wConvS ((hr2 w2 H).2 z (List.mem_of_getElem? hz)) Tryd.underlying41 Tryd.underlying5 Tryd.underlying9 (mStr_mk (wEq ?_))
    have e1 : (⟨q.bs.toArray⟩ : ByteArray).toList = q.bs := bstr_toList q.bs
    have e2 : (⟨z.bs.toArray⟩ : ByteArray).toList = z.bs := bstr_toList z.bs
    rw [e1, e2]
    have hqi : (ps.map (·.bs))[i]? = some q.bs := by rw [List.getElem?_map, hq]; rfl
    have hzi : (qs.map (·.bs))[i]? = some z.bs := by rw [List.getElem?_map, hz]; rfl
    refine br (fun h => ?_) (fun h => ?_)
    · have hne : q.bs ≠ z.bs := by simpa using h
      have hne2 : ps.map (·.bs) ≠ qs.map (·.bs) := by
        intro he2
        rw [he2, hzi] at hqi
        exact hne (Option.some.inj hqi).symm
      have := hK w2 H
      rw [decide_eq_false hne2] at this
      exact this
    · have heq : q.bs = z.bs := by simpa using h
      refine ⟨k - 1, by omega, i + 1, by omega, by rw [hwi], ?_, H⟩
      obtain ⟨h1, e1⟩ := List.getElem?_eq_some_iff.1 hqi
      obtain ⟨h2, e2⟩ := List.getElem?_eq_some_iff.1 hzi
      rw [← List.take_append_getElem h1, ← List.take_append_getElem h2, he, e1, e2, heq]
  · have hi : ps.length ≤ i := by simp at h; omega
    rw [List.take_of_length_le (by simpa using hi), List.take_of_length_le (by simp; omega)] at he
    have := hK w1 H
    rw [decide_eq_true he] at this
    exact this
theorem Open_new_walk {f : Nat} (hne : 1 ≤ nm.length) (hnl : nm.length ≤ 32) (hnm : ∀ x ∈ nm, 97 ≤ x.toNat ∧ x.toNat ≤ 122) (hnk : nmOk nm) (hf6 : f < 999999) (hempty : keysOf l = []) (hsz : (total l : Int) ≤ size) (htl : total l ≤ 4000000000) (H : St w0 F w (dO db bm size born l :: L)) (ht : List.Mem (tabO o) L)
    (hK : ∀ w' p l' a n c', look l' = upd (look l) (seg nm f) (some ([], 0)) → total l' = total l → l'.length ≤ l.length + 1 → St w0 F w' (dO db bm size born l' :: logO p db nm f :: partsO (.slice a n c') [] :: L) → K (.tuple #[.pointer (some ⟨p, 0, none⟩), .slice a n c', .int .i64 0]) w') :
    CallR Tryd.prog fn_wal_Open #[.pointer (some ⟨db, 0, none⟩), .string (bstr nm), .int .i64 (f : Int)] w K := by
  have hnone : ∀ s, look l s = none := by
    intro s
    cases hg : look l s with
    | none => rfl
    | some x =>
      have : s ∈ keysOf l := keys_look.2 (by rw [hg]; rfl)
      rw [hempty] at this; cases this
  have hl0 : l.length = 0 := by have := congrArg List.length hempty; simpa [keysOf] using this
  refine wal_Open_sound _ _ _ _ _ ?_
  refine named_walk hne hnl hnm H fun w1 H => mBool_mk (brF rfl (brF (by simp) (brF (by simp; omega) ?_)))
  refine wAL H fun p w2 H => ?_
  have H : St w0 F w2 (partsO (.slice none 0 0) [] :: dO db bm size born l :: logO p db nm f :: L) := nothing_parts (H.front (dO db bm size born l))
  have H := (H.front (logO p db nm f)).front (dO db bm size born l)
  refine wLoop (fun k t w' => t = (bstr nm, (f : Int), ⟨p, 0, none⟩, none, 0, 0, (f : Int)) ∧ St w0 F w' (dO db bm size born l :: logO p db nm f :: partsO (.slice none 0 0) [] :: L)) ⟨0, rfl, H⟩ ?_
  clear H
  rintro k t w3 ⟨rfl, H⟩
  simp only
  unfold wal_Open_b5
  refine there_walk (by omega) (by omega) (by omega) H (.head _) (.tail _ (.tail _ ht)) fun w4 H => mBool_mk ?_
  rw [hnone]
  refine brF rfl ?_
  unfold wal_Open_b4
  refine there_walk (by omega) (by omega) (by omega) H (.head _) (.tail _ (.tail _ ht)) fun w5 H => mBool_mk ?_
  rw [hnone]
  refine brT rfl ?_
  refine wLW H ?_
  intro w6 H
  repeat (first | apply mInt_mk | apply mCons_mk | (apply xC H; rfl; (focus (repeat (first | exact List.Mem.head _ | apply List.Mem.tail | assumption))); rfl) | apply mStr_mk | apply mNil_mk | apply mSlice_mk | (apply xI H; rfl; (focus (repeat (first | exact List.Mem.head _ | apply List.Mem.tail | assumption))); rfl) | (apply xST H; rfl; (focus (repeat (first | exact Upd.here _ | apply Upd.there))); (focus (repeat (first | exact SetAt.zero _ _ | apply SetAt.succ))); rfl; intro w1 H) | (apply xSl H; rfl; (focus (repeat (first | exact List.Mem.head _ | apply List.Mem.tail | assumption))); rfl) | (apply xP H; rfl; (focus (repeat (first | exact List.Mem.head _ | apply List.Mem.tail | assumption))); rfl) | (apply xS H; rfl; (focus (repeat (first | exact List.Mem.head _ | apply List.Mem.tail | assumption))); rfl) | apply nn | (apply wLW H; intro w1 H) | apply mTup_mk | apply mAgg_mk | apply mPtr_mk | apply mBool_mk | (apply xM H; rfl; (focus (repeat (first | exact List.Mem.head _ | apply List.Mem.tail | assumption))); rfl) | (apply xB H; rfl; (focus (repeat (first | exact List.Mem.head _ | apply List.Mem.tail | assumption))); rfl) | apply wEq)
  refine Segment_walk (by omega) (by omega) H (.tail _ (.tail _ (.tail _ ht))) fun w7 H => mStr_mk ?_
  repeat (first | apply mInt_mk | apply mCons_mk | (apply xC H; rfl; (focus (repeat (first | exact List.Mem.head _ | apply List.Mem.tail | assumption))); rfl) | apply mStr_mk | apply mNil_mk | apply mSlice_mk | (apply xI H; rfl; (focus (repeat (first | exact List.Mem.head _ | apply List.Mem.tail | assumption))); rfl) | (apply xST H; rfl; (focus (repeat (first | exact Upd.here _ | apply Upd.there))); (focus (repeat (first | exact SetAt.zero _ _ | apply SetAt.succ))); rfl; intro w1 H) | (apply xSl H; rfl; (focus (repeat (first | exact List.Mem.head _ | apply List.Mem.tail | assumption))); rfl) | (apply xP H; rfl; (focus (repeat (first | exact List.Mem.head _ | apply List.Mem.tail | assumption))); rfl) | (apply xS H; rfl; (focus (repeat (first | exact List.Mem.head _ | apply List.Mem.tail | assumption))); rfl) | apply nn | (apply wLW H; intro w1 H) | apply mTup_mk | apply mAgg_mk | apply mPtr_mk | apply mBool_mk | (apply xM H; rfl; (focus (repeat (first | exact List.Mem.head _ | apply List.Mem.tail | assumption))); rfl) | (apply xB H; rfl; (focus (repeat (first | exact List.Mem.head _ | apply List.Mem.tail | assumption))); rfl) | apply wEq)
  refine append_walk H (no_parts _) (by simp [plen]) (by simp) (by omega) (seg_ok hnk _) (fun hf => by simp [plen] at hf; omega) (fun _ w8 l2 hl2 ht2 hn2 H => mInt_mk ?_)
  have hl2 : look l2 = upd (look l) (seg nm f) (some ([], 0)) := by
    rw [hl2, bsOf_look, synOf_look, hnone]; rfl
  unfold wal_Open_b3
  have hkeys : ∀ s, s ∈ keysOf l2 → s = seg nm f := by
    intro s hs
    rw [keys_look, hl2] at hs
    by_cases h : s = seg nm f
    · exact h
    · rw [upd_ne _ _ h, hnone] at hs; cases hs
  refine segments_walk (by omega) H (.head _) (.tail _ (.tail _ ht)) (by omega) (fun s hs _ => ⟨f, by omega, hkeys s hs⟩) fun w9 a n c2 ks hks he H => mSlice_mk ?_
  have hn : n = ks.length := by
    have := (H.get (i := 0) rfl : SliceAt w9 3 1 (.slice a n c2) _).len
    simpa [nats] using this
  subst hn
  have hkn : ks.length ≤ 1000000 := by
    have h1 := listed_len [preOf nm] l2
    rw [← he, List.length_map] at h1
    omega
  refine wLoop (fun k t w' => ∃ (i : Nat), k + i = ks.length ∧ t = (bstr nm, ⟨p, 0, none⟩, none, 0, 0, a, ks.length, c2, (ks.length : Int), (i : Int)) ∧ St w0 F w' (sliceO 3 1 (.slice a ks.length c2) (nats ks) :: dO db bm size born l2 :: logO p db nm f :: partsO (.slice none 0 0) [] :: L)) ⟨ks.length, 0, rfl, rfl, H⟩ ?_
  clear H
  rintro k t w10 ⟨i, hk, rfl, H⟩
  refine br (fun h => ?_) (fun h => hK w10 p l2 none 0 0 hl2 (by simpa [plen] using ht2) hn2 H.tail)
  have hi : i < ks.length := by simp at h; omega
  obtain ⟨q, hq⟩ : ∃ q, ks[i]? = some q := ⟨_, List.getElem?_eq_getElem hi⟩
  have hq6 := hks q (List.mem_of_getElem? hq)
  have hqf : q = f := seg_inj hq6 (by omega) (hkeys _ (keys_look.2 ((seg_listed hks he hq6).1 (List.mem_of_getElem? hq))))
  subst hqf
  have hwi : IntKind.wrap .i64 ((i : Int) + 1) = ((i + 1 : Nat) : Int) := by rw [wrap_id (by omega) (by omega)]; rfl
  refine wIXr (H.get (i := 0) rfl : SliceAt w10 3 1 (.slice a ks.length c2) _).reads (i := i) (by simpa [nats] using hi) rfl fun ad had => ?_
  rw [nats, List.getElem?_map, hq] at had
  refine ldI had ?_
  repeat (first | apply mInt_mk | apply mCons_mk | (apply xC H; rfl; (focus (repeat (first | exact List.Mem.head _ | apply List.Mem.tail | assumption))); rfl) | apply mStr_mk | apply mNil_mk | apply mSlice_mk | (apply xI H; rfl; (focus (repeat (first | exact List.Mem.head _ | apply List.Mem.tail | assumption))); rfl) | (apply xST H; rfl; (focus (repeat (first | exact Upd.here _ | apply Upd.there))); (focus (repeat (first | exact SetAt.zero _ _ | apply SetAt.succ))); rfl; intro w1 H) | (apply xSl H; rfl; (focus (repeat (first | exact List.Mem.head _ | apply List.Mem.tail | assumption))); rfl) | (apply xP H; rfl; (focus (repeat (first | exact List.Mem.head _ | apply List.Mem.tail | assumption))); rfl) | (apply xS H; rfl; (focus (repeat (first | exact List.Mem.head _ | apply List.Mem.tail | assumption))); rfl) | apply nn | (apply wLW H; intro w1 H) | apply mTup_mk | apply mAgg_mk | apply mPtr_mk | apply mBool_mk | (apply xM H; rfl; (focus (repeat (first | exact List.Mem.head _ | apply List.Mem.tail | assumption))); rfl) | (apply xB H; rfl; (focus (repeat (first | exact List.Mem.head _ | apply List.Mem.tail | assumption))); rfl) | apply wEq)
  refine brF (by simp) ?_
  exact ⟨k - 1, by omega, i + 1, by omega, by rw [hwi], H⟩
end
end Go.Proofs.YtnhjcjnjpciifaaDoor
