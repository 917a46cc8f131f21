/- Codec's frame, Frame, Frames, ReadFrames. -/
import Derived.Test.YtnhjcjnjpciifaaDoorHCC
namespace Go.Proofs.YtnhjcjnjpciifaaDoor
open Go.Sh
attribute [local irreducible] rRun LDI LDB LDS LDP LDSl LDM LD Go.Sh.ST AL ALM LetW CallR CallV CallI NN IX SIX Br Req mInt mBool mStr mPtr mSlice mMap mAgg mTup mCons mNil mNth mPA LoopS
def partO (p : PartR) : Own := sliceO 5 1 p.hdr (bvals p.bs)
/-- Parts that are owned, with the row of their heads. -/
def partsO (v : Value) (ps : List PartR) : Own := starO (sliceO 41 1 v (ps.map PartR.hdr) :: ps.map partO)
theorem part_reads {w : World} {p : PartR} (h : (partO p).holds w) : Reads w 1 p.hdr (bvals p.bs) := SliceAt.reads (E := 5) h
theorem parts_reads {w : World} {v : Value} {ps : List PartR} (h : (partsO v ps).holds w) : ReadsP w v ps :=
  ⟨SliceAt.reads (E := 41) (h _ (List.mem_cons_self ..)), fun p hp => part_reads (h (partO p) (List.mem_cons_of_mem _ (List.mem_map.2 ⟨p, hp, rfl⟩)))⟩
theorem bvals_sub (bs : Bytes) (l k : Nat) : ((bvals bs).drop (l * 1)).take (k * 1) = bvals ((bs.drop l).take k) := by simp [bvals]
section
variable {w0 w : World} {F : List Nat} {L : List Own} {K : Value → World → Prop} {a : Option Addr} {n c : Nat} {bs : Bytes}
theorem nothing_parts (H : St w0 F w L) : St w0 F w (partsO (.slice none 0 0) [] :: L) := by
  have H := H.nothing 41 1 none
  exact Sh.St.close (M := [_]) H
theorem parts_snoc {ps : List PartR} {p : PartR} {b : Nat} (hl : ps.length ≤ 1000000000) (H : St w0 F w (partsO (.slice a n c) ps :: partO p :: L)) (hb : w.heap[b]? = some (.cells #[p.hdr] 41))
    (hK : ∀ w' a' n' c', St w0 F w' (partsO (.slice a' n' c') (ps ++ [p]) :: L) → K (.slice a' n' c') w') :
    rRun Tryd.prog (Builtin.append_ #[40, 40] 40 #[.slice a n c, .slice (some ⟨b, 0, none⟩) 1 1]) w K := by
  have H := Sh.St.open (M := sliceO 41 1 (.slice a n c) (ps.map PartR.hdr) :: ps.map partO) H
  have hr : Reads w 1 (.slice (some ⟨b, 0, none⟩) 1 1) [p.hdr] := by
    refine ⟨_, _, _, rfl, rfl, Nat.le_refl _, .inr ⟨_, rfl, fun j hj => ?_⟩⟩
    have : j = 0 := by simp at hj; omega
    subst this
    rw [Addr.add_mk, Nat.zero_add, cell_blk hb]
    rfl
  obtain ⟨m, _, hsrc⟩ := hr.src (P := Tryd.prog) (tx := 40) elem_bytess.under (by simp [PartR.hdr, Value.oneCell'])
  refine append_own (t := 40) (n := m) elem_bytess (i := 0) H rfl hsrc (by simp; omega) (by decide) fun v' w3 H hf _ => ?_
  obtain ⟨a', len, cap, rfl, _⟩ := (H.get (i := 0) rfl : SliceAt _ _ _ _ _)
  refine hK _ _ _ _ ?_
  have H : St w0 F w3 ((sliceO 41 1 (.slice a' len cap) ((ps ++ [p]).map PartR.hdr) :: ps.map partO) ++ partO p :: L) := by simpa using H
  refine Sh.St.close (M := sliceO 41 1 (.slice a' len cap) ((ps ++ [p]).map PartR.hdr) :: (ps ++ [p]).map partO) (H.perm ?_)
  rw [List.map_append]
  simp
theorem sub_walk {l h : Nat} {hi : Option Value} (hr : Reads w 1 (.slice a n c) (bvals bs)) (hl : l ≤ h) (hh : h ≤ bs.length) (hhi : hi = some (.int .i64 (h : Int)) ∨ (hi = none ∧ h = bs.length))
    (hK : Reads w 1 (.slice (if c = l then a else a.map (·.add (l * 1))) (h - l) (c - l)) (bvals ((bs.drop l).take (h - l))) → K (.slice (if c = l then a else a.map (·.add (l * 1))) (h - l) (c - l)) w) :
    rRun Tryd.prog (Instr.sliceAt 41 (.slice a n c) (some (.int .i64 (l : Int))) hi none) w K := by
  have hn : n = bs.length := by simpa using hr.len
  obtain ⟨_, _, _, he, h1, h2, h3⟩ := id hr
  cases he
  have hsub := hr.sub (l := l) (h := h) (m := c) hl (by omega) (by omega)
  rw [bvals_sub] at hsub
  refine rRun_intro (sliceAt_run (P := Tryd.prog) elem_bytes (a := a) (len := n) (cap := c) (l := l) (h := h) (m := c) (lo := some (.int .i64 l)) (hi := hi) (mx := none) rfl ?_ (fun h => by cases h) ⟨rfl, hl⟩) (hK hsub)
  rcases hhi with rfl | ⟨rfl, rfl⟩
  · exact ⟨rfl, by omega⟩
  · exact hn.symm
theorem one_part {b : Nat} (hb : w.heap[b]? = some (.cells #[.slice a n c] 41)) (hr : Reads w 1 (.slice a n c) (bvals bs)) : ReadsP w (.slice (some ⟨b, 0, none⟩) 1 1) [⟨a, n, c, bs⟩] := by
  refine ⟨⟨_, _, _, rfl, rfl, Nat.le_refl _, .inr ⟨_, rfl, fun j hj => ?_⟩⟩, fun p hp => ?_⟩
  · have : j = 0 := by simp at hj; omega
    subst this
    rw [Addr.add_mk, Nat.zero_add, cell_blk hb]
    rfl
  · rw [List.mem_singleton.1 hp]; exact hr
theorem wrap_nat {m : Nat} (h : m < 9223372036854775808) : IntKind.wrap .i64 (m : Int) = (m : Int) := wrap_id (by omega) (by omega)
theorem frame_walk (H : St w0 F w L) (hr : ∀ w', St w0 F w' L → Reads w' 1 (.slice a n c) (bvals bs)) (hl : bs.length ≤ 60000000000)
    (hK : ∀ w', St w0 F w' L → K (.tuple #[.int .i64 ((readFr crc bs).1 : Int), .int .i64 ((readFr crc bs).2.1 : Int), .int .i64 ((readFr crc bs).2.2 : Int)]) w') :
    CallR Tryd.prog fn_codec_frame #[.slice a n c] w K := by
  have hn : n = bs.length := by simpa using (hr w H).len
  refine codec_frame_sound _ _ _ _ _ ?_
  refine ReadNumber_walk H hr hl fun w1 H => ?_
  have hle := (readNum_le bs 0 0).1
  unfold readFr at hK
  generalize readNum bs 0 0 = r at hK hle ⊢
  obtain ⟨v, at_, e⟩ := r
  simp only at hK hle ⊢
  refine mTup_mk (mCons_mk (mInt_mk (mCons_mk (mInt_mk (mCons_mk (mInt_mk (mNil_mk ?_)))))))
  refine br (fun h => ?_) (fun h => ?_)
  · have h : e ≠ 0 := by simp at h; omega
    rw [if_pos h] at hK
    exact hK w1 H
  have h : e = 0 := by simp at h; omega
  subst h
  rw [if_neg (by simp)] at hK
  refine br (fun h => ?_) (fun h => ?_)
  · rw [if_pos (by simp at h; omega)] at hK
    exact hK w1 H
  have hv : v ≤ 67108864 := by simp at h; omega
  rw [if_neg (by omega)] at hK
  have e1 : IntKind.wrap .i64 (v : Int) = (v : Int) := wrap_nat (by omega)
  have e2 : IntKind.wrap .i64 ((v : Int) + 4) = ((v + 4 : Nat) : Int) := by rw [wrap_id (by omega) (by omega)]; omega
  have e3 : IntKind.wrap .i64 ((n : Int) - (at_ : Int)) = ((bs.length - at_ : Nat) : Int) := by rw [hn, wrap_id (by omega) (by omega)]; omega
  have e4 : IntKind.wrap .i64 ((at_ : Int) + 4) = ((at_ + 4 : Nat) : Int) := by rw [wrap_id (by omega) (by omega)]; omega
  have e5 : IntKind.wrap .i64 (((at_ + 4 : Nat) : Int) + (v : Int)) = ((at_ + 4 + v : Nat) : Int) := by rw [wrap_id (by omega) (by omega)]; omega
  simp only [e1, e2, e3, e4, e5]
  refine br (fun h => ?_) (fun h => ?_)
  · rw [if_pos (by simp at h; omega)] at hK
    exact hK w1 H
  have hlen : v + 4 ≤ bs.length - at_ := by simp at h; omega
  rw [if_neg (by omega)] at hK
  refine wLW H ?_
  intro w2 H
  refine sub_walk (h := at_ + 4) (hr w2 H) (by omega) (by omega) (.inl rfl) fun hs1 => mSlice_mk (wEq ?_)
  refine sub_walk (l := at_ + 4) (h := at_ + 4 + v) (hr w2 H) (by omega) (by omega) (.inl rfl) fun hs2 => mSlice_mk (wEq ?_)
  have ht1 : ∀ w', St w0 F w' L → Reads w' 1 (.slice (if c = at_ then a else a.map (·.add (at_ * 1))) (at_ + 4 - at_) (c - at_)) (bvals ((bs.drop at_).take (at_ + 4 - at_))) := by
    intro w' H'
    have h1 := (hr w' H').sub (l := at_) (h := at_ + 4) (m := c) (by omega) (by omega) (by obtain ⟨_, _, _, he, _, h2, _⟩ := hr w' H'; cases he; omega)
    rwa [bvals_sub] at h1
  have ht2 : ∀ w', St w0 F w' L → Reads w' 1 (.slice (if c = at_ + 4 then a else a.map (·.add ((at_ + 4) * 1))) (at_ + 4 + v - (at_ + 4)) (c - (at_ + 4))) (bvals ((bs.drop (at_ + 4)).take (at_ + 4 + v - (at_ + 4)))) := by
    intro w' H'
    have h1 := (hr w' H').sub (l := at_ + 4) (h := at_ + 4 + v) (m := c) (by omega) (by omega) (by obtain ⟨_, _, _, he, _, h2, _⟩ := hr w' H'; cases he; omega)
    rwa [bvals_sub] at h1
  refine wAL H fun b1 w3 H => ?_
  refine ⟨sub_walk (h := at_ + 4) (hr w3 H.tail) (by omega) (by omega) (.inl rfl) fun _ => mSlice_mk ⟨rfl, rfl⟩, ?_⟩
  refine Sum_walk (ps := [⟨_, _, _, (bs.drop (at_ + 4)).take (at_ + 4 + v - (at_ + 4))⟩]) H (fun w' H' => one_part (H'.get (i := 0) rfl) (ht2 w' H'.tail)) (by simp) (by simp; omega) fun w4 H => mInt_mk ?_
  refine ⟨sub_walk (h := at_ + 4) (hr w4 H.tail) (by omega) (by omega) (.inl rfl) fun _ => mSlice_mk ⟨rfl, rfl⟩, ⟨trivial, ?_⟩⟩
  have hp1 : pbs [(⟨if c = at_ + 4 then a else a.map (·.add ((at_ + 4) * 1)), at_ + 4 + v - (at_ + 4), c - (at_ + 4), (bs.drop (at_ + 4)).take (at_ + 4 + v - (at_ + 4))⟩ : PartR)] = (bs.drop (at_ + 4)).take v := by
    simp [pbs, Nat.add_sub_cancel_left]
  rw [hp1]
  have hcl := (crc_eq ((bs.drop (at_ + 4)).take v)).2
  rw [wrap_u64, Nat.mod_eq_of_lt (by omega)]
  have H := (H.tail).nothing 5 1 none
  refine low_walk (bs := []) (m := 4) (by decide) (by simp) H fun w5 ra rn rc H => mSlice_mk ?_
  refine ⟨sub_walk (h := at_ + 4) (hr w5 H.tail) (by omega) (by omega) (.inl rfl) fun _ => mSlice_mk ⟨rfl, rfl⟩, ?_⟩
  refine Equal_walk H (fun w' H' => ht1 w' H'.tail) (fun w' H' => (H'.get (i := 0) rfl : SliceAt w' 5 1 (.slice ra rn rc) _).reads) (by simp; omega) fun w6 H => mBool_mk ⟨trivial, ?_⟩
  rw [List.nil_append, Nat.add_sub_cancel_left]
  refine br (fun h => ?_) (fun h => ?_)
  · have h : ¬ ((bs.drop at_).take 4 = lowB (crc ((bs.drop (at_ + 4)).take v)) 4) := by simpa using h
    rw [if_neg h] at hK
    exact hK w6 H.tail
  · have h : ((bs.drop at_).take 4 = lowB (crc ((bs.drop (at_ + 4)).take v)) 4) := by simpa using h
    rw [if_pos h] at hK
    exact hK w6 H.tail
theorem Frame_walk (H : St w0 F w L) (hr : ∀ w', St w0 F w' L → Reads w' 1 (.slice a n c) (bvals bs)) (hl : bs.length ≤ 50000000000)
    (hK : ∀ w' a' n' c', St w0 F w' (sliceO 5 1 (.slice a' n' c') (bvals (frameB crc bs)) :: L) → K (.slice a' n' c') w') : CallR Tryd.prog fn_codec_Frame #[.slice a n c] w K := by
  have hn : n = bs.length := by simpa using (hr w H).len
  refine codec_Frame_sound _ _ _ _ _ ?_
  unfold codec_Frame_b0
  rw [wrap_u64, Nat.mod_eq_of_lt (by omega)]
  have H := H.nothing 5 1 none
  refine Number_walk (bs := []) (by omega) (by simp) H fun w1 a1 n1 c1 H => mSlice_mk ?_
  refine wAL H fun b w2 H => ?_
  refine Sum_walk (ps := [⟨a, n, c, bs⟩]) H (fun w' H' => one_part (H'.get (i := 0) rfl) (hr w' H'.tail.tail)) (by simp) (by simp; omega) fun w3 H => mInt_mk ?_
  have hp1 : pbs [(⟨a, n, c, bs⟩ : PartR)] = bs := by simp [pbs]
  rw [hp1]
  have hcl := (crc_eq bs).2
  rw [wrap_u64, Nat.mod_eq_of_lt (by omega)]
  have hnb : (numB n).length ≤ 10 := numB_len n 0 (by decide) (by simp; omega)
  refine low_walk (m := 4) (by decide) (by simp; omega) H.tail fun w4 a4 n4 c4 H => mSlice_mk ?_
  refine appendB_walk H (hr w4 H.tail) (by simp; omega) fun w5 a5 n5 c5 H => mSlice_mk ?_
  refine hK _ _ _ _ ?_
  rw [hn] at H
  simpa [frameB] using H
theorem framesB_len_le : ∀ ps : List PartR, (∀ p ∈ ps, p.bs.length ≤ 60000000000) → (framesB crc (ps.map (·.bs))).length ≤ plen ps + 14 * ps.length
  | [], _ => by simp [framesB]
  | p :: t, h => by
    have := framesB_len_le t fun q hq => h q (List.mem_cons_of_mem _ hq)
    have h1 := h p (List.mem_cons_self ..)
    have h2 : (numB p.bs.length).length ≤ 10 := numB_len _ 0 (by decide) (by simp; omega)
    rw [List.map_cons, framesB_cons, List.length_append, frameB_len]
    simp only [plen, List.map_cons, List.sum_cons, List.length_cons] at this ⊢
    omega
theorem Frames_walk {ps : List PartR} (H : St w0 F w L) (hr : ∀ w', St w0 F w' L → ReadsP w' (.slice a n c) ps) (hpl : ps.length ≤ 1000000000) (hbl : plen ps ≤ 40000000000)
    (hK : ∀ w' a' n' c', St w0 F w' (sliceO 5 1 (.slice a' n' c') (bvals (framesB crc (ps.map (·.bs)))) :: L) → K (.slice a' n' c') w') : CallR Tryd.prog fn_codec_Frames #[.slice a n c] w K := by
  have hn : n = ps.length := by simpa using (hr w H).1.len
  have hone : ∀ (i : Nat) (p : PartR), ps[i]? = some p → plen (ps.take i) + p.bs.length ≤ plen ps := fun i p h => by
    have h1 := plen_take h
    have h2 := plen_le ps (i + 1)
    omega
  have hall : ∀ p ∈ ps, p.bs.length ≤ 60000000000 := by
    intro p hp
    obtain ⟨i, hi⟩ := List.mem_iff_getElem?.1 hp
    have := hone i p hi
    omega
  refine codec_Frames_sound _ _ _ _ _ ?_
  refine wLoop (fun k s w' => ∃ (i : Nat) (a1 : Option Addr) (n1 c1 : Nat), k + i = ps.length ∧ s = (a1, n1, c1, a, n, c, (n : Int), (i : Int)) ∧ St w0 F w' (sliceO 5 1 (.slice a1 n1 c1) (bvals (framesB crc ((ps.take i).map (·.bs)))) :: L)) ⟨ps.length, 0, none, 0, 0, rfl, rfl, H.nothing 5 1 none⟩ ?_
  clear H
  rintro k s w2 ⟨i, a1, n1, c1, hk, rfl, H⟩
  refine br (fun h => ?_) (fun h => ?_)
  · have hi : i < ps.length := by simp at h; omega
    obtain ⟨p, hpi⟩ : ∃ p, ps[i]? = some p := ⟨_, List.getElem?_eq_getElem hi⟩
    have hpm := List.mem_of_getElem? hpi
    have hwi : IntKind.wrap .i64 ((i : Int) + 1) = ((i + 1 : Nat) : Int) := by rw [wrap_id (by omega) (by omega)]; rfl
    refine wIXr (hr w2 H.tail).1 (i := i) (by simpa using hi) rfl fun ad had => ?_
    rw [List.getElem?_map, hpi] at had
    refine ldSl (b := p.a) (l := p.n) (c := p.c) had ?_
    have h1 := hone i p hpi
    have h2 := framesB_len_le (ps.take i) fun q hq => hall q (List.mem_of_mem_take hq)
    have h3 : (ps.take i).length ≤ ps.length := by rw [List.length_take]; omega
    have h4 : (frameB crc p.bs).length ≤ p.bs.length + 14 := by
      have := numB_len p.bs.length 0 (by decide) (by simp; omega)
      rw [frameB_len]; omega
    refine Frame_walk (bs := p.bs) H (fun w' H' => (hr w' H'.tail).2 p hpm) (by omega) fun w3 a3 n3 c3 H => mSlice_mk ?_
    have H := H.front (sliceO 5 1 (.slice a1 n1 c1) (bvals (framesB crc ((ps.take i).map (·.bs)))))
    refine appendB_walk H (H.get (i := 1) rfl : SliceAt w3 5 1 (.slice a3 n3 c3) _).reads (by omega) fun w4 a4 n4 c4 H => mSlice_mk ?_
    have H := (H.front (sliceO 5 1 (.slice a3 n3 c3) (bvals (frameB crc p.bs)))).tail
    refine ⟨k - 1, by omega, i + 1, a4, n4, c4, by omega, by rw [hwi], ?_⟩
    obtain ⟨h5, e5⟩ := List.getElem?_eq_some_iff.1 hpi
    have e : framesB crc ((ps.take (i + 1)).map (·.bs)) = framesB crc ((ps.take i).map (·.bs)) ++ frameB crc p.bs := by
      rw [← List.take_append_getElem h5, e5, List.map_append, framesB_append]
      simp [framesB]
    rw [e]
    exact H
  · have hi : ps.length ≤ i := by simp at h; omega
    rw [List.take_of_length_le hi] at H
    exact hK _ _ _ _ H
theorem ReadFrames_walk (H : St w0 F w L) (hr : ∀ w', St w0 F w' L → Reads w' 1 (.slice a n c) (bvals bs)) (hl : bs.length ≤ 1000000000)
    (hK : ∀ w' ps a' n' c', ps.map (·.bs) = (readFs crc bs.length bs).1 → St w0 F w' (partsO (.slice a' n' c') ps :: L) → K (.tuple #[.slice a' n' c', .int .i64 ((readFs crc bs.length bs).2.1 : Int), .int .i64 ((readFs crc bs.length bs).2.2 : Int)]) w') :
    CallR Tryd.prog fn_codec_ReadFrames #[.slice a n c] w K := by
  have hn : n = bs.length := by simpa using (hr w H).len
  refine codec_ReadFrames_sound _ _ _ _ _ ?_
  refine wLoop (fun k s w' => ∃ (at_ : Nat) (ps : List PartR) (a1 : Option Addr) (n1 c1 : Nat), k + at_ = bs.length ∧ s = (a, n, c, a1, n1, c1, (at_ : Int)) ∧ ps.length ≤ at_ ∧ (ps.map (·.bs) ++ (readFs crc bs.length (bs.drop at_)).1, at_ + (readFs crc bs.length (bs.drop at_)).2.1, (readFs crc bs.length (bs.drop at_)).2.2) = readFs crc bs.length bs ∧ St w0 F w' (partsO (.slice a1 n1 c1) ps :: L))
    ⟨bs.length, 0, [], none, 0, 0, rfl, rfl, Nat.le_refl _, by simp, nothing_parts H⟩ ?_
  clear H
  rintro k s w2 ⟨at_, ps, a1, n1, c1, hk, rfl, hps, he, H⟩
  refine br (fun h => ?_) (fun h => ?_)
  · have hi : at_ < bs.length := by simp at h; omega
    refine sub_walk (h := bs.length) (hr w2 H.tail) (by omega) (Nat.le_refl _) (.inr ⟨rfl, rfl⟩) fun hs => mSlice_mk ?_
    have htk : (bs.drop at_).take (bs.length - at_) = bs.drop at_ := List.take_of_length_le (by simp)
    rw [htk] at hs
    have hsl : ∀ w', St w0 F w' L → Reads w' 1 (.slice (if c = at_ then a else a.map (·.add (at_ * 1))) (bs.length - at_) (c - at_)) (bvals (bs.drop at_)) := by
      intro w' H'
      have h1 := (hr w' H').sub (l := at_) (h := bs.length) (m := c) (by omega) (by omega) (by obtain ⟨_, _, _, he, _, h2, _⟩ := hr w' H'; cases he; omega)
      rw [bvals_sub, htk] at h1
      exact h1
    refine frame_walk (bs := bs.drop at_) H (fun w' H' => hsl w' H'.tail) (by simp; omega) fun w3 H => ?_
    have hfl := readFr_le (crc := crc) (bs.drop at_)
    rw [List.length_drop] at hfl
    obtain ⟨q, hq⟩ : ∃ q, bs.length = q + 1 := ⟨bs.length - 1, by omega⟩
    have hne : bs.drop at_ ≠ [] := by
      intro h
      have := congrArg List.length h
      rw [List.length_drop, List.length_nil] at this
      omega
    have hstep := readFs_step (crc := crc) q hne
    rw [← hq] at hstep
    rw [hstep] at he
    generalize hfr : readFr crc (bs.drop at_) = r at hfl he ⊢
    obtain ⟨from_, to_, e⟩ := r
    simp only at hfl he ⊢
    refine mTup_mk (mCons_mk (mInt_mk (mCons_mk (mInt_mk (mCons_mk (mInt_mk (mNil_mk ?_)))))))
    refine br (fun h => ?_) (fun h => ?_)
    · have h : e ≠ 0 := by simp at h; omega
      rw [if_pos h] at he
      have hk := hK w3 ps a1 n1 c1 (by rw [← he]; simp) H
      rw [← he] at hk
      exact hk
    · have h : e = 0 := by simp at h; omega
      rw [if_neg (by simp [h])] at he
      have h5 := hfl.2.2 h
      have e1 : IntKind.wrap .i64 ((at_ : Int) + (from_ : Int)) = ((at_ + from_ : Nat) : Int) := by rw [wrap_id (by omega) (by omega)]; omega
      have e2 : IntKind.wrap .i64 ((at_ : Int) + (to_ : Int)) = ((at_ + to_ : Nat) : Int) := by rw [wrap_id (by omega) (by omega)]; omega
      simp only [e1, e2]
      refine sub_walk (l := at_ + from_) (h := at_ + to_) (hr w3 H.tail) (by omega) (by omega) (.inl rfl) fun hs2 => mSlice_mk ?_
      have e3 : (bs.drop (at_ + from_)).take (at_ + to_ - (at_ + from_)) = ((bs.drop at_).drop from_).take (to_ - from_) := by
        rw [List.drop_drop]; congr 1; omega
      rw [e3] at hs2
      refine wCall H (A := []) (fun _ => Clone_spec hs2 (by simp; omega)) (hK := ?_)
      rintro _ w4 _ ⟨rfl, a4, n4, c4, rfl⟩ _ H
      refine mSlice_mk ?_
      refine al H fun b3 w5 hb _ H => ?_
      have H : St w0 F w5 (partO ⟨a4, n4, c4, ((bs.drop at_).drop from_).take (to_ - from_)⟩ :: partsO (.slice a1 n1 c1) ps :: L) := H.tail
      have H := H.front (partsO (.slice a1 n1 c1) ps)
      refine parts_snoc (p := ⟨a4, n4, c4, ((bs.drop at_).drop from_).take (to_ - from_)⟩) (by omega) H hb fun w6 a6 n6 c6 H => mSlice_mk ?_
      refine ⟨k - to_, by omega, at_ + to_, _, a6, n6, c6, by omega, rfl, by simp; omega, ?_, H⟩
      have e9 : (bs.drop at_).drop to_ = bs.drop (at_ + to_) := by rw [List.drop_drop]
      rw [← he, e9]
      have hfu : readFs crc q (bs.drop (at_ + to_)) = readFs crc bs.length (bs.drop (at_ + to_)) := readFs_fuel q _ _ (by simp; omega) (by simp)
      rw [hfu]
      simp [List.drop_drop, Nat.add_assoc]
  · have hi : bs.length ≤ at_ := by simp at h; omega
    rw [List.drop_of_length_le hi] at he
    have hz : readFs crc bs.length ([] : Bytes) = ([], 0, 0) := by cases bs.length <;> simp [readFs]
    rw [hz] at he
    have hk := hK w2 ps a1 n1 c1 (by rw [← he]; simp) H
    rw [← he] at hk
    exact hk
end
end Go.Proofs.YtnhjcjnjpciifaaDoor
