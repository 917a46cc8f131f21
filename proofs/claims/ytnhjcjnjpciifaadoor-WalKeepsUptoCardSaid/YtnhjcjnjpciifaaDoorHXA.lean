/- XA XB, laid together. -/
import Derived.Test.YtnhjcjnjpciifaaDoorHWJ
/- A log of several segments: the plain law; crashes of what is synced. -/
namespace Go.Proofs.YtnhjcjnjpciifaaDoor
open Go.Sh
/-- The payloads of the segments m .. s. -/
def flat (G : Nat → List Bytes) (m s : Nat) : List Bytes := (List.range' m (s + 1 - m)).flatMap G
theorem flat_last {G : Nat → List Bytes} {m s : Nat} (h : m ≤ s) : flat G m s = (List.range' m (s - m)).flatMap G ++ G s := by
  unfold flat
  rw [show s + 1 - m = (s - m) + 1 by omega, List.range'_1_concat, List.flatMap_append]
  simp [show m + (s - m) = s by omega]
theorem flatMap_congr' {f g : Nat → List Bytes} {l : List Nat} (h : ∀ x ∈ l, f x = g x) : l.flatMap f = l.flatMap g := by
  induction l with
  | nil => rfl
  | cons a t ih => rw [List.flatMap_cons, List.flatMap_cons, h a (List.mem_cons_self ..), ih fun x hx => h x (List.mem_cons_of_mem _ hx)]
def updG (G : Nat → List Bytes) (s : Nat) (v : List Bytes) : Nat → List Bytes := fun k => if k = s then v else G k
theorem updG_same (G : Nat → List Bytes) (s : Nat) (v : List Bytes) : updG G s v s = v := by simp [updG]
theorem updG_ne (G : Nat → List Bytes) {s k : Nat} (v : List Bytes) (h : k ≠ s) : updG G s v k = G k := by simp [updG, h]
theorem flat_upd {G : Nat → List Bytes} {m s : Nat} (v : List Bytes) (h : m ≤ s) : flat (updG G s (G s ++ v)) m s = flat G m s ++ v := by
  rw [flat_last h, flat_last h, updG_same]
  rw [flatMap_congr' (g := G) fun x hx => updG_ne _ _ (by have := List.mem_range'_1.1 hx; omega), List.append_assoc]
theorem flat_next {G : Nat → List Bytes} {m s : Nat} (h : m ≤ s + 1) (h0 : G (s + 1) = []) : flat G m (s + 1) = flat G m s := by
  rw [flat_last h, h0, List.append_nil]
  rfl
theorem flat_congr {G G' : Nat → List Bytes} {m s : Nat} (h : ∀ k, m ≤ k → k ≤ s → G k = G' k) : flat G m s = flat G' m s :=
  flatMap_congr' fun x hx => by have := List.mem_range'_1.1 hx; exact h x (by omega) (by omega)
theorem loads_flat {c : Nat → Bytes} {G : Nat → List Bytes} {m s : Nat} (h : ∀ k, m ≤ k → k ≤ s → (rdF (c k)).1 = G k) : loads c m (s + 1) = flat G m s := by
  unfold loads flat
  exact flatMap_congr' fun x hx => by have := List.mem_range'_1.1 hx; exact h x (by omega) (by omega)
/-- A disk that holds a log's segments f .. s and nothing else. -/
structure SegsAt (l : Files) (nm : List UInt8) (f s : Nat) (c : Nat → Bytes) (y : Nat → Nat) : Prop where
  here : ∀ k, f ≤ k → k ≤ s → look l (seg nm k) = some (c k, y k)
  rest : ∀ t, (∀ k, f ≤ k → k ≤ s → t ≠ seg nm k) → look l t = none
theorem SegsAt.log {l : Files} {nm : List UInt8} {f s : Nat} {c : Nat → Bytes} {y : Nat → Nat} (h : SegsAt l nm f s c y) (hfs : f ≤ s) (hs : s < 999999) (hg : ∀ k, f ≤ k → k < s → (rdF (c k)).2.2 = 0) : LogAt l nm f s c := by
  refine ⟨hfs, hs, fun k h1 h2 => ⟨y k, h.here k h1 h2⟩, fun k hk hk2 => ?_, h.rest _ fun k _ _ he => seg_tmp nm k he.symm, hg, fun t ht _ => ?_⟩
  · by_cases hx : ∃ q, f ≤ q ∧ q ≤ s ∧ seg nm k = seg nm q
    · obtain ⟨q, _, h2, h3⟩ := hx
      have := seg_inj hk (by omega) h3
      omega
    · rw [h.rest _ fun q h1 h2 h3 => hx ⟨q, h1, h2, h3⟩] at hk2; cases hk2
  · rw [keys_look] at ht
    by_cases hx : ∃ q, f ≤ q ∧ q ≤ s ∧ t = seg nm q
    · obtain ⟨q, _, h2, h3⟩ := hx
      exact ⟨q, by omega, h3⟩
    · rw [h.rest _ fun q h1 h2 h3 => hx ⟨q, h1, h2, h3⟩] at ht; cases ht
theorem SegsAt.names {l : Files} {nm : List UInt8} {f s : Nat} {c : Nat → Bytes} {y : Nat → Nat} (h : SegsAt l nm f s c y) (hs : s < 999999) : ∀ t, t ∈ keysOf l → hasPre t (preOf nm) = true → ∃ k, k < 1000000 ∧ t = seg nm k := by
  intro t ht _
  rw [keys_look] at ht
  by_cases hx : ∃ q, f ≤ q ∧ q ≤ s ∧ t = seg nm q
  · obtain ⟨q, _, h2, h3⟩ := hx
    exact ⟨q, by omega, h3⟩
  · rw [h.rest _ fun q h1 h2 h3 => hx ⟨q, h1, h2, h3⟩] at ht; cases ht
theorem SegsAt.opened {l l' : Files} {nm : List UInt8} {f s : Nat} {c : Nat → Bytes} {y : Nat → Nat} (h : SegsAt l nm f s c y) (ho : Opened l l' nm f s c) : SegsAt l' nm f s (fun k => kept (c k)) (fun k => (kept (c k)).length) :=
  ⟨ho.segs, fun t ht => by rw [ho.rest t ht]; exact h.rest t ht⟩
theorem SegsAt.upd {l l' : Files} {nm : List UInt8} {f s : Nat} {c : Nat → Bytes} {y : Nat → Nat} (h : SegsAt l nm f s c y) (hs : s < 999999) {k : Nat} (h1 : f ≤ k) (h2 : k ≤ s) {b : Bytes} {z : Nat} (e : look l' = Proofs.YtnhjcjnjpciifaaDoor.upd (look l) (seg nm k) (some (b, z))) :
    SegsAt l' nm f s (fun q => if q = k then b else c q) (fun q => if q = k then z else y q) := by
  refine ⟨fun q h3 h4 => ?_, fun t ht => ?_⟩
  · rw [e]
    by_cases hq : q = k
    · subst hq; rw [upd_same]; simp
    · rw [upd_ne _ _ fun he => hq (seg_inj (by omega) (by omega) he), h.here q h3 h4]; simp [hq]
  · rw [e, upd_ne _ _ (ht k h1 h2)]
    exact h.rest t ht
theorem SegsAt.next {l l' : Files} {nm : List UInt8} {f s : Nat} {c : Nat → Bytes} {y : Nat → Nat} (h : SegsAt l nm f s c y) (hfs : f ≤ s) (hs : s < 999998) {z : Nat}
    (e : look l' = Proofs.YtnhjcjnjpciifaaDoor.upd (Proofs.YtnhjcjnjpciifaaDoor.upd (look l) (seg nm s) (some (c s, z))) (seg nm (s + 1)) (some ([], 0))) :
    SegsAt l' nm f (s + 1) (fun q => if q = s + 1 then [] else c q) (fun q => if q = s + 1 then 0 else if q = s then z else y q) := by
  refine ⟨fun q h3 h4 => ?_, fun t ht => ?_⟩
  · rw [e]
    by_cases hq : q = s + 1
    · subst hq; rw [upd_same]; simp
    · rw [upd_ne _ _ fun he => hq (seg_inj (by omega) (by omega) he)]
      by_cases hq2 : q = s
      · subst hq2; rw [upd_same]; simp
      · rw [upd_ne _ _ fun he => hq2 (seg_inj (by omega) (by omega) he), h.here q h3 (by omega)]; simp [hq, hq2]
  · rw [e, upd_ne _ _ (ht (s + 1) (by omega) (Nat.le_refl _)), upd_ne _ _ (ht s hfs (by omega))]
    exact h.rest t fun k h1 h2 => ht k h1 (by omega)
theorem SegsAt.whole {l : Files} {nm : List UInt8} {f s : Nat} {c : Nat → Bytes} {y : Nat → Nat} (h : SegsAt l nm f s c y) (hy : ∀ k, f ≤ k → k ≤ s → y k ≤ (c k).length) : whole l := by
  refine whole_of fun t x ht => ?_
  by_cases hx : ∃ q, f ≤ q ∧ q ≤ s ∧ t = seg nm q
  · obtain ⟨q, h1, h2, rfl⟩ := hx
    rw [h.here q h1 h2] at ht
    cases ht
    exact hy q h1 h2
  · rw [h.rest _ fun q h1 h2 h3 => hx ⟨q, h1, h2, h3⟩] at ht; cases ht
theorem crash_synced (p : Option Int) (b : Bytes) : crashF p (b, b.length) = (b, b.length) := by
  have := pickK_le p (b.length - b.length)
  unfold crashF
  have hz : pickK p (b.length - b.length) = 0 := by omega
  simp only [hz, Nat.add_zero, List.take_length]
/-- Behind a crash: what is synced stays; of the last segment some front. -/
theorem SegsAt.crash {l l' : Files} {nm : List UInt8} {f s : Nat} {c : Nat → Bytes} {y : Nat → Nat} {picks : List Int} (h : SegsAt l nm f s c y) (hs : ∀ k, f ≤ k → k < s → y k = (c k).length) (hy : y s ≤ (c s).length) (hfs : f ≤ s) (hs6 : s < 999999)
    (hc : Crashed picks (sortB (keysOf l)) (sortB (keysOf l)).length l l') :
    ∃ j, y s ≤ j ∧ j ≤ (c s).length ∧ SegsAt l' nm f s (fun k => if k = s then (c s).take j else c k) (fun k => if k = s then j else (c k).length) := by
  obtain ⟨p, hp⟩ := crash_look hc (seg nm s)
  rw [h.here s hfs (Nat.le_refl _)] at hp
  have hle := pickK_le p ((c s).length - y s)
  refine ⟨y s + pickK p ((c s).length - y s), by omega, by omega, fun k h1 h2 => ?_, fun t ht => ?_⟩
  · by_cases hk : k = s
    · subst hk
      rw [hp]; simp [crashF]
    · obtain ⟨q, hq⟩ := crash_look hc (seg nm k)
      rw [h.here k h1 h2, hs k h1 (by omega)] at hq
      rw [hq]
      simp only [Option.map_some, crash_synced, hk, if_false]
  · obtain ⟨q, hq⟩ := crash_look hc t
    rw [hq, h.rest t ht]; rfl
end Go.Proofs.YtnhjcjnjpciifaaDoor

/- WalSpans, walked. -/
namespace Go.Proofs.YtnhjcjnjpciifaaDoor
open Go.Sh
theorem SegsAt.congr {l : Files} {nm : List UInt8} {f s : Nat} {c c' : Nat → Bytes} {y y' : Nat → Nat} (h : SegsAt l nm f s c y) (hc : ∀ k, f ≤ k → k ≤ s → c k = c' k) (hy : ∀ k, f ≤ k → k ≤ s → y k = y' k) : SegsAt l nm f s c' y' :=
  ⟨fun k h1 h2 => by rw [h.here k h1 h2, hc k h1 h2, hy k h1 h2], h.rest⟩
def bools (l : List Bool) : List Value := l.map Value.bool
theorem seg_none {l : Files} {nm : List UInt8} {f s : Nat} {c : Nat → Bytes} {y : Nat → Nat} (h : SegsAt l nm f s c y) (hs : s < 999998) : look l (seg nm (s + 1)) = none :=
  h.rest _ fun k _ h2 he => by have := seg_inj (by omega) (by omega) he; omega
theorem countP_split {inn : List Nat} {m n : Nat} (h1 : ∀ j q, j < n → inn[j]? = some q → q < m) (h2 : ∀ j q, n ≤ j → inn[j]? = some q → m ≤ q) (hn : n ≤ inn.length) : inn.countP (fun q => decide (q < m)) = n := by
  conv => lhs; rw [← List.take_append_drop n inn, List.countP_append]
  have e1 : (inn.take n).countP (fun q => decide (q < m)) = n := by
    rw [List.countP_eq_length.2 fun q hq => ?_]
    · rw [List.length_take]; omega
    · obtain ⟨j, hj⟩ := List.mem_iff_getElem?.1 hq
      have hjn := (List.getElem?_eq_some_iff.1 hj).1
      rw [List.length_take] at hjn
      rw [List.getElem?_take_of_lt (by omega)] at hj
      exact decide_eq_true (h1 j q (by omega) hj)
  have e2 : (inn.drop n).countP (fun q => decide (q < m)) = 0 := by
    rw [List.countP_eq_zero]
    intro q hq
    obtain ⟨j, hj⟩ := List.mem_iff_getElem?.1 hq
    rw [List.getElem?_drop] at hj
    have := h2 (n + j) q (by omega) hj
    simp; omega
  rw [e1, e2]; rfl
/-- What the law holds of a log of several segments as it goes over the payloads. -/
structure Spans (ps : List Bytes) (i s : Nat) (inn : List Nat) (G : Nat → List Bytes) : Prop where
  ile : i ≤ ps.length
  si : s ≤ i
  len : inn.length = i
  top : ∀ q ∈ inn, q ≤ s
  srt : inn.Pairwise (· ≤ ·)
  above : ∀ k, s < k → G k = []
  tell : ∀ m, m ≤ s → flat G m s = (ps.take i).drop (inn.countP fun q => decide (q < m))
  small : ∀ k, ∀ b ∈ G k, b.length ≤ 1000
theorem Spans.zero (ps : List Bytes) : Spans ps 0 0 [] (fun _ => []) :=
  ⟨Nat.zero_le _, Nat.le_refl _, rfl, fun _ h => (by cases h), .nil, fun _ _ => rfl, fun m _ => by simp [flat], fun _ _ h => (by cases h)⟩
theorem Spans.add {ps : List Bytes} {i s : Nat} {inn : List Nat} {G : Nat → List Bytes} (h : Spans ps i s inn G) {b : Bytes} (hb : ps[i]? = some b) (hbl : b.length ≤ 1000) : Spans ps (i + 1) s (inn ++ [s]) (updG G s (G s ++ [b])) := by
  obtain ⟨hi, he⟩ := List.getElem?_eq_some_iff.1 hb
  refine ⟨hi, by have := h.si; omega, by simp [h.len], fun q hq => ?_, ?_, fun k hk => ?_, fun m hm => ?_, fun k z hz => ?_⟩
  · rcases List.mem_append.1 hq with hq | hq
    · exact h.top q hq
    · rw [List.mem_singleton.1 hq]; exact Nat.le_refl _
  · rw [List.pairwise_append]
    exact ⟨h.srt, List.pairwise_singleton _ _, fun a ha b hb => by rw [List.mem_singleton.1 hb]; exact h.top a ha⟩
  · rw [updG_ne _ _ (by omega)]; exact h.above k hk
  · rw [flat_upd _ hm, h.tell m hm]
    have hc : (inn ++ [s]).countP (fun q => decide (q < m)) = inn.countP (fun q => decide (q < m)) := by
      rw [List.countP_append]
      have : [s].countP (fun q => decide (q < m)) = 0 := by simp; omega
      omega
    have hle : inn.countP (fun q => decide (q < m)) ≤ (ps.take i).length := by
      rw [List.length_take, ← h.len]
      have := List.countP_le_length (p := fun q => decide (q < m)) (l := inn)
      have := h.ile; have := h.len
      omega
    rw [hc, ← List.take_append_getElem hi, he, List.drop_append_of_le_length hle]
  · by_cases hk : k = s
    · subst hk
      rw [updG_same] at hz
      rcases List.mem_append.1 hz with hz | hz
      · exact h.small k z hz
      · rw [List.mem_singleton.1 hz]; exact hbl
    · rw [updG_ne _ _ hk] at hz; exact h.small k z hz
theorem Spans.turn {ps : List Bytes} {i s : Nat} {inn : List Nat} {G : Nat → List Bytes} (h : Spans ps i s inn G) (hsi : s + 1 ≤ i) : Spans ps i (s + 1) inn G := by
  refine ⟨h.ile, hsi, h.len, fun q hq => Nat.le_succ_of_le (h.top q hq), h.srt, fun k hk => h.above k (by omega), fun m hm => ?_, h.small⟩
  rcases Nat.lt_or_ge m (s + 1) with hlt | hge
  · rw [flat_next (by omega) (h.above _ (by omega))]
    exact h.tell m (by omega)
  · have : m = s + 1 := by omega
    subst this
    rw [flat_last (Nat.le_refl _), h.above _ (by omega), Nat.sub_self]
    have hc : inn.countP (fun q => decide (q < s + 1)) = inn.length := List.countP_eq_length.2 fun q hq => decide_eq_true (by have := h.top q hq; omega)
    rw [hc, h.len]
    have := h.ile
    simp
attribute [local irreducible] rRun LDI LDB LDS LDP LDSl LDM LD Go.Sh.ST AL ALM LetW CallR CallV CallI NN IX SIX Br Req mInt mBool mStr mPtr mSlice mMap mAgg mTup mCons mNil mNth mPA LoopS
attribute [local irreducible] glacierlaw4_WalSpans_b0 glacierlaw4_WalSpans_b3
section
variable {w0 w : World} {F : List Nat} {L : List Own} {K : Value → World → Prop} {db bm p : Nat} {size born : Int} {l : Files} {o : Obj}
theorem frames_small {G : List Bytes} (h : ∀ b ∈ G, b.length ≤ 1000) : (framesB crc G).length ≤ 1014 * G.length := by
  induction G with
  | nil => simp [framesB]
  | cons b t ih =>
    have h1 := ih fun x hx => h x (List.mem_cons_of_mem _ hx)
    have h2 := h b (List.mem_cons_self ..)
    have h3 : (numB b.length).length ≤ 10 := numB_len _ 0 (by decide) (by simp; omega)
    rw [framesB_cons, List.length_append, frameB_len, List.length_cons]
    omega
theorem le_sum {l : List Nat} {x : Nat} (h : x ∈ l) : x ≤ l.sum := by
  induction l with
  | nil => cases h
  | cons a t ih =>
    rw [List.sum_cons]
    rcases List.mem_cons.1 h with rfl | h
    · omega
    · have := ih h; omega
theorem flat_ge {G : Nat → List Bytes} {m s k : Nat} (h1 : m ≤ k) (h2 : k ≤ s) : (G k).length ≤ (flat G m s).length := by
  unfold flat
  rw [List.length_flatMap]
  have hm : (G k).length ∈ (List.range' m (s + 1 - m)).map fun a => (G a).length := List.mem_map.2 ⟨k, List.mem_range'_1.2 (by omega), rfl⟩
  exact le_sum hm
theorem ReadsP.tail {a : Option Addr} {n c k : Nat} {ps : List PartR} (hr : ReadsP w (.slice a n c) ps) (hk : k ≤ ps.length) : ReadsP w (.slice (if c = k then a else a.map (·.add (k * 1))) (n - k) (c - k)) (ps.drop k) := by
  have hn : n = ps.length := by simpa using hr.1.len
  obtain ⟨_, _, _, he, h1, h2, h3⟩ := id hr.1
  cases he
  have h5 := hr.1.sub (l := k) (h := n) (m := c) (by omega) (by omega) (by omega)
  rw [show ((ps.map PartR.hdr).drop (k * 1)).take ((n - k) * 1) = (ps.drop k).map PartR.hdr by
    rw [Nat.mul_one, Nat.mul_one, List.take_of_length_le (by simp; omega), List.map_drop]] at h5
  exact ⟨h5, fun p hp => hr.2 p (List.mem_of_mem_drop hp)⟩
theorem tail2_walk {a : Option Addr} {n c k : Nat} {ps : List PartR} (hr : ReadsP w (.slice a n c) ps) (hk : k ≤ ps.length) (hK : K (.slice (if c = k then a else a.map (·.add (k * 1))) (n - k) (c - k)) w) :
    rRun Tryd.prog (Instr.sliceAt 40 (.slice a n c) (some (.int .i64 (k : Int))) none none) w K := by
  have hn : n = ps.length := by simpa using hr.1.len
  obtain ⟨_, _, _, he, h1, h2, h3⟩ := id hr.1
  cases he
  exact rRun_intro (sliceAt_run (P := Tryd.prog) elem_bytess (a := a) (len := n) (cap := c) (l := k) (h := n) (m := c) (lo := some (.int .i64 k)) (hi := none) (mx := none) rfl rfl (fun h => by cases h) ⟨rfl, by omega⟩) hK
theorem spans_0 {la : Option Addr} {ln lc m : Nat} {ps : List PartR} {s : Nat} {inn : List Nat} {G : Nat → List Bytes} {RR : Value → World → Prop} (h0 : (tabO o).holds w) (hl : ReadsP w (.slice la ln lc) ps) (hpl : ps.length ≤ 60) (hms : m ≤ s)
    {w1 : World} (hsp : Spans (ps.map (·.bs)) ps.length s inn G) (hseg : SegsAt l wNm m s (fun k => framesB crc (G k)) (fun k => (framesB crc (G k)).length)) (htl : total l ≤ 100000) (hll : l.length ≤ 1000)
    (H : St w [2] w1 [dO db bm 16777216 0 l, tabO o]) (fin : ∀ w' L, St w [2] w' L → List.Mem (tabO o) L → RR (.bool true) w') :
    glacierlaw4_WalSpans_b0 la ln lc (m : Int) (some ⟨db, 0, none⟩) (inn.countP (fun q => decide (q < m)) : Int) RR w1 := by
  unfold glacierlaw4_WalSpans_b0
  have hs60 : s ≤ 60 := by have := hsp.si; omega
  have hpm : (ps.map (·.bs)).length = ps.length := by simp
  refine crash_walk (picks := []) H ⟨⟨_, _, _, rfl, rfl, Nat.le_refl _, .inl rfl⟩, fun b hb => by simp [sblk] at hb⟩ (by omega) (hseg.whole fun _ _ _ => Nat.le_refl _) (by omega) fun w2 l2 hc H => ?_
  obtain ⟨j, hj1, hj2, hseg2⟩ := hseg.crash (fun _ _ _ => rfl) (Nat.le_refl _) hms (by omega) hc
  have hj : j = (framesB crc (G s)).length := by omega
  have hseg2 : SegsAt l2 wNm m s (fun k => framesB crc (G k)) (fun k => (framesB crc (G k)).length) := by
    refine hseg2.congr (fun k h1 h2 => ?_) (fun k h1 h2 => ?_)
    · by_cases hk : k = s
      · subst hk; simp [hj]
      · simp [hk]
    · by_cases hk : k = s
      · subst hk; simp [hj]
      · simp [hk]
  have hbig : ∀ k, ∀ b ∈ G k, b.length ≤ 67108864 := fun k b hb => by have := hsp.small k b hb; omega
  have htl2 : total l2 ≤ 100000 := Nat.le_trans hc.less htl
  have hll2 : l2.length ≤ 1000 := by
    have := congrArg List.length hc.keys
    simp [keysOf] at this; omega
  repeat (first | apply mInt_mk | apply mCons_mk | (apply xC H; rfl; (focus (repeat (first | exact List.Mem.head _ | apply List.Mem.tail | assumption))); rfl) | apply mStr_mk | apply mNil_mk | apply mSlice_mk | (apply xI H; rfl; (focus (repeat (first | exact List.Mem.head _ | apply List.Mem.tail | assumption))); rfl) | (apply xST H; rfl; (focus (repeat (first | exact Upd.here _ | apply Upd.there))); (focus (repeat (first | exact SetAt.zero _ _ | apply SetAt.succ))); rfl; intro w1 H) | (apply xSl H; rfl; (focus (repeat (first | exact List.Mem.head _ | apply List.Mem.tail | assumption))); rfl) | (apply xP H; rfl; (focus (repeat (first | exact List.Mem.head _ | apply List.Mem.tail | assumption))); rfl) | (apply xS H; rfl; (focus (repeat (first | exact List.Mem.head _ | apply List.Mem.tail | assumption))); rfl) | apply nn | (apply wLW H; intro w1 H) | apply mTup_mk | apply mAgg_mk | apply mPtr_mk | apply mBool_mk | (apply xM H; rfl; (focus (repeat (first | exact List.Mem.head _ | apply List.Mem.tail | assumption))); rfl) | (apply xB H; rfl; (focus (repeat (first | exact List.Mem.head _ | apply List.Mem.tail | assumption))); rfl) | apply wEq)
  have hfl : flat G m s = (ps.map (·.bs)).drop (inn.countP fun q => decide (q < m)) := by
    rw [hsp.tell m hms, ← hpm, List.take_length]
  have hcp : inn.countP (fun q => decide (q < m)) ≤ ps.length := by
    have := List.countP_le_length (p := fun q => decide (q < m)) (l := inn)
    have := hsp.len; omega
  have hld : loads (fun k => framesB crc (G k)) m (s + 1) = (ps.map (·.bs)).drop (inn.countP fun q => decide (q < m)) := by
    rw [loads_flat fun k _ _ => by rw [rdF_all (hbig k)], hfl]
  have hgl : ∀ k, m ≤ k → k ≤ s → (framesB crc (G k)).length ≤ 61000 := by
    intro k h1 h2
    have h3 := frames_small (hsp.small k)
    have h4 := flat_ge (G := G) h1 h2
    rw [hfl, List.length_drop] at h4
    omega
  have hgl2 : ∀ k, (framesB crc (G k)).length ≤ 100000000 := by
    intro k
    rcases Nat.lt_or_ge s k with h | h
    · rw [hsp.above k h]; simp [framesB]
    · rcases Nat.lt_or_ge k m with h' | h'
      · have h3 := frames_small (hsp.small k)
        have h4 := flat_ge (G := G) (m := 0) (Nat.zero_le k) h
        rw [hsp.tell 0 (Nat.zero_le _), List.length_drop, List.length_take] at h4
        omega
      · have := hgl k h' h; omega
  refine Open_walk (nm := wNm) (f := m) (s := s) (by decide) (by decide) (by decide) wNm_ok (hseg2.log hms (by omega) fun k _ _ => by rw [rdF_all (hbig k)]) (fun k => by have := hgl2 k; show (framesB crc (G k)).length ≤ _; omega) (by rw [hld]; simp; omega) (by omega) (by omega)
    (by show (total l2 : Int) + (kept (framesB crc (G s))).length ≤ _; rw [kept_all (hbig s)]; have := hgl s hms (Nat.le_refl _); omega) H (.head _) fun w3 p l3 qs qa qn qc hqs hop H => ?_
  rw [hld] at hqs
  repeat (first | apply mInt_mk | apply mCons_mk | (apply xC H; rfl; (focus (repeat (first | exact List.Mem.head _ | apply List.Mem.tail | assumption))); rfl) | apply mStr_mk | apply mNil_mk | apply mSlice_mk | (apply xI H; rfl; (focus (repeat (first | exact List.Mem.head _ | apply List.Mem.tail | assumption))); rfl) | (apply xST H; rfl; (focus (repeat (first | exact Upd.here _ | apply Upd.there))); (focus (repeat (first | exact SetAt.zero _ _ | apply SetAt.succ))); rfl; intro w1 H) | (apply xSl H; rfl; (focus (repeat (first | exact List.Mem.head _ | apply List.Mem.tail | assumption))); rfl) | (apply xP H; rfl; (focus (repeat (first | exact List.Mem.head _ | apply List.Mem.tail | assumption))); rfl) | (apply xS H; rfl; (focus (repeat (first | exact List.Mem.head _ | apply List.Mem.tail | assumption))); rfl) | apply nn | (apply wLW H; intro w1 H) | apply mTup_mk | apply mAgg_mk | apply mPtr_mk | apply mBool_mk | (apply xM H; rfl; (focus (repeat (first | exact List.Mem.head _ | apply List.Mem.tail | assumption))); rfl) | (apply xB H; rfl; (focus (repeat (first | exact List.Mem.head _ | apply List.Mem.tail | assumption))); rfl) | apply wEq)
  refine brT rfl ?_
  have htab : List.Mem (tabO o) _ := (.tail _ (.tail _ (.tail _ (.head _))) : List.Mem (tabO o) (dO db bm 16777216 0 l3 :: logO p db wNm s :: partsO (.slice qa qn qc) qs :: [tabO o]))
  refine tail2_walk (H.readPT h0 htab hl) (by simpa using hcp) (mSlice_mk ?_)
  refine same_walk (ps := qs) (qs := ps.drop (inn.countP fun q => decide (q < m))) H (fun w' H' => parts_reads (H'.get (i := 2) rfl : (partsO (.slice qa qn qc) qs).holds w')) (fun w' H' => (H'.readPT h0 htab hl).tail (by simpa using hcp)) (by have := congrArg List.length hqs; simp at this; omega) fun w4 H => mBool_mk ?_
  rw [decide_eq_true (by rw [hqs, List.map_drop])]
  exact fin _ _ H htab
end
end Go.Proofs.YtnhjcjnjpciifaaDoor
