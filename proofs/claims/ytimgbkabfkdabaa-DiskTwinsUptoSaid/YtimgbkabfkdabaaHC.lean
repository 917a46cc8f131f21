/- Append. -/
import Derived.Test.YtimgbkabfkdabaaHB
namespace Go.Proofs.Ytimgbkabfkdabaa
open Go.Sh
attribute [local irreducible] rRun LDI LDB LDS LDP LDSl LDM LD Go.Sh.ST AL ALM LetW CallR CallV CallI NN IX SIX Br Req mInt mBool mStr mPtr mSlice mMap mAgg mTup mCons mNil mNth mPA LoopS

structure PartR where
  (a : Option Addr) (n c : Nat) (bs : List UInt8)
def PartR.hdr (p : PartR) : Value := .slice p.a p.n p.c
def ExtP (w : World) (A : List Own) (v : Value) (ps : List PartR) : Prop := Ext w A 1 v (ps.map PartR.hdr) ∧ ∀ p ∈ ps, Ext w A 1 p.hdr (bvals p.bs)
def plen (ps : List PartR) : Nat := (ps.map fun p => p.bs.length).sum
def pbs (ps : List PartR) : List UInt8 := ps.flatMap fun p => p.bs
theorem plen_take {ps : List PartR} {i : Nat} {p : PartR} (h : ps[i]? = some p) : plen (ps.take (i + 1)) = plen (ps.take i) + p.bs.length := by
  obtain ⟨hi, he⟩ := List.getElem?_eq_some_iff.1 h
  unfold plen
  rw [← List.take_append_getElem hi, List.map_append, List.sum_append, he]
  simp
theorem pbs_take {ps : List PartR} {i : Nat} {p : PartR} (h : ps[i]? = some p) : pbs (ps.take (i + 1)) = pbs (ps.take i) ++ p.bs := by
  obtain ⟨hi, he⟩ := List.getElem?_eq_some_iff.1 h
  unfold pbs
  rw [← List.take_append_getElem hi, List.flatMap_append, he]
  simp
theorem plen_le (ps : List PartR) (i : Nat) : plen (ps.take i) ≤ plen ps := by
  unfold plen
  conv => rhs; rw [← List.take_append_drop i ps, List.map_append, List.sum_append]
  omega
theorem pbs_len (ps : List PartR) : (pbs ps).length = plen ps := by
  unfold pbs plen
  rw [List.length_flatMap]

def bsOf (l : Files) (s : ByteArray) : List UInt8 := ((aget l s).map (·.bs)).getD []
def synOf (l : Files) (s : ByteArray) : Nat := ((aget l s).map (·.syn)).getD 0
def ptrs (l : Files) : List (ByteArray × Value) := l.map fun e => (e.1, .pointer (some ⟨e.2.fb, 0, none⟩))

section
variable {w0 w : World} {F : List Nat} {L R : List Own}
theorem append_rest {w1 : World} {db bm : Nat} {size used born : Int} {l : Files} {s : ByteArray} {f0 : FileR} {pa : Option Addr} {pn pc : Nat} {ps : List PartR} {A : List Own} {K : Value → World → Prop}
    (hp : ExtP w A (.slice pa pn pc) ps) (hps : plen ps ≤ 1000000000) (hf0 : f0.bs.length ≤ 10000000000) (hpl : ps.length ≤ 1000000000) (hu : 0 ≤ used ∧ used ≤ 10000000000)
    (H : St w (fps A) w1 [pt f0.fb (.cells #[.slice f0.a f0.n f0.c, .int .i64 f0.syn] 71), sliceO 5 1 (.slice f0.a f0.n f0.c) (bvals f0.bs), filesO (adel l s),
      pt db (.cells #[.int .i64 size, .int .i64 used, .int .i64 born, .map (some bm)] 67), mapO strV bm (aput (ptrs l) s (.pointer (some ⟨f0.fb, 0, none⟩)))])
    (hK : ∀ w' f, f.bs = f0.bs ++ pbs ps → f.syn = f0.syn → St w (fps A) w' [diskO db bm size (used + plen ps) born (aput l s f)] → K (.int .i64 0) w') :
    disk_Disk_Append_b3 (some ⟨db, 0, none⟩) pa pn pc (plen ps : Int) (some ⟨f0.fb, 0, none⟩) K w1 := by
  have hpn : pn = ps.length := by
    obtain ⟨⟨_, _, _, he, h1, _⟩, _⟩ := hp.1
    cases he
    simpa using h1
  subst hpn
  refine wLoop (fun k x w' => ∃ (i : Nat) (f : FileR), k + i = ps.length ∧ x = (some ⟨db, 0, none⟩, (plen ps : Int), some ⟨f0.fb, 0, none⟩, pa, ps.length, pc, (ps.length : Int), (i : Int)) ∧
    f.fb = f0.fb ∧ f.syn = f0.syn ∧ f.bs = f0.bs ++ pbs (ps.take i) ∧
    St w (fps A) w' [pt f.fb (.cells #[.slice f.a f.n f.c, .int .i64 f.syn] 71), sliceO 5 1 (.slice f.a f.n f.c) (bvals f.bs), filesO (adel l s),
      pt db (.cells #[.int .i64 size, .int .i64 used, .int .i64 born, .map (some bm)] 67), mapO strV bm (aput (ptrs l) s (.pointer (some ⟨f0.fb, 0, none⟩)))]) ?_ ?_
  · exact ⟨ps.length, 0, f0, by omega, rfl, rfl, rfl, by simp [pbs], H⟩
  rintro k x w2 ⟨i, f, hk, rfl, hfb, hsyn, hbs, H⟩
  refine br (fun h => ?_) (fun h => ?_)
  · have hi : i < ps.length := by simp at h; omega
    obtain ⟨p, hpi⟩ : ∃ p, ps[i]? = some p := ⟨_, List.getElem?_eq_getElem hi⟩
    refine wIXr (hp.1.reads (by decide) H.fr) (i := i) (by simpa using hi) rfl fun ad had => ?_
    rw [List.getElem?_map, hpi] at had
    refine ldSl (b := p.a) (l := p.n) (c := p.c) had (nn ?_)
    rw [← hfb]
    repeat (first | refine nn ?_ | refine wI H (hK := ?_) | refine wP H (hK := ?_) | refine wM H (hK := ?_) | refine wSl H (hK := ?_) | refine wB H (hK := ?_) | refine wS H (hK := ?_) | refine wEq ?_ | refine wC H (hK := ?_) | (refine wLW H ?_; intro w1 H) | (refine wST H (hK := ?_); intro w1 H _) | refine mSlice_mk ?_ | refine mInt_mk ?_ | refine mBool_mk ?_ | refine mTup_mk ?_ | refine mCons_mk ?_ | refine mNil_mk ?_ | refine mAgg_mk ?_ | refine mPtr_mk ?_ | refine mStr_mk ?_)
    have hr := (hp.2 p (List.mem_of_getElem? hpi)).reads (by decide) H.fr
    obtain ⟨m, _, hsrc⟩ := hr.src (P := Try.prog) (tx := 30) elem_bytes.under (bvals_one p.bs)
    have hl := plen_le ps (i + 1)
    have htk := plen_take hpi
    have hbl : f.bs.length = f0.bs.length + plen (ps.take i) := by rw [hbs, List.length_append, pbs_len]
    refine append_own (t := 30) (n := m) elem_bytes (i := 1) H rfl hsrc (by simp; omega) (by decide) fun v' w3 H hf _ => ?_
    obtain ⟨a', len, cap, rfl, _⟩ := (H.get (i := 1) rfl : SliceAt _ _ _ _ _)
    rw [← bvals_append] at H
    repeat (first | refine nn ?_ | refine wI H (hK := ?_) | refine wP H (hK := ?_) | refine wM H (hK := ?_) | refine wSl H (hK := ?_) | refine wB H (hK := ?_) | refine wS H (hK := ?_) | refine wEq ?_ | refine wC H (hK := ?_) | (refine wLW H ?_; intro w1 H) | (refine wST H (hK := ?_); intro w1 H _) | refine mSlice_mk ?_ | refine mInt_mk ?_ | refine mBool_mk ?_ | refine mTup_mk ?_ | refine mCons_mk ?_ | refine mNil_mk ?_ | refine mAgg_mk ?_ | refine mPtr_mk ?_ | refine mStr_mk ?_)
    have hw : IntKind.wrap .i64 ((i : Int) + 1) = ((i + 1 : Nat) : Int) := by rw [wrap_id (by omega) (by omega)]; rfl
    show ∃ k', k' < k ∧ _
    rw [← hfb] at H
    exact ⟨k - 1, by omega, i + 1, ⟨f.fb, a', len, cap, f.bs ++ p.bs, f.syn⟩, by omega, by rw [hw], rfl, hsyn, by rw [pbs_take hpi, hbs, List.append_assoc], H⟩
  · have hi : ps.length ≤ i := by simp at h; omega
    rw [List.take_of_length_le hi] at hbs
    repeat (first | refine nn ?_ | refine wI H (hK := ?_) | refine wP H (hK := ?_) | refine wM H (hK := ?_) | refine wSl H (hK := ?_) | refine wB H (hK := ?_) | refine wS H (hK := ?_) | refine wEq ?_ | refine wC H (hK := ?_) | (refine wLW H ?_; intro w1 H) | (refine wST H (hK := ?_); intro w1 H _) | refine mSlice_mk ?_ | refine mInt_mk ?_ | refine mBool_mk ?_ | refine mTup_mk ?_ | refine mCons_mk ?_ | refine mNil_mk ?_ | refine mAgg_mk ?_ | refine mPtr_mk ?_ | refine mStr_mk ?_)
    have hw : IntKind.wrap .i64 (used + (plen ps : Int)) = used + (plen ps : Int) := wrap_id (by omega) (by omega)
    rw [hw] at H
    refine hK _ f hbs hsyn ?_
    have H := file_in H
    rw [← hfb] at H
    have e : aput (ptrs l) s (.pointer (some ⟨f.fb, 0, none⟩)) = ptrs (aput l s f) := aput_map (fun f : FileR => (.pointer (some ⟨f.fb, 0, none⟩) : Value)) l s f
    rw [e] at H
    have H := (H.front (mapO strV bm (ptrs (aput l s f)))).front (pt db (.cells #[.int .i64 size, .int .i64 (used + plen ps), .int .i64 born, .map (some bm)] 67))
    exact St.diskClose H

theorem Append_spec {db bm : Nat} {size used born : Int} {l : Files} {s : ByteArray} {pa : Option Addr} {pn pc : Nat} {ps : List PartR} (hA : Has w [diskO db bm size used born l])
    (hp : ExtP w [diskO db bm size used born l] (.slice pa pn pc) ps) (hps : plen ps ≤ 1000000000) (hpl : ps.length ≤ 1000000000) (hu : 0 ≤ used ∧ used ≤ 10000000000) (hf0 : (bsOf l s).length ≤ 10000000000) :
    CallS Try.prog fn_disk_Disk_Append #[.pointer (some ⟨db, 0, none⟩), .string s, .slice pa pn pc] w [diskO db bm size used born l] fun r _ A =>
      (nameOk s = false ∧ r = .int .i64 1 ∧ A = [diskO db bm size used born l]) ∨
      (nameOk s = true ∧ used + plen ps > size ∧ r = .int .i64 5 ∧ A = [diskO db bm size used born l]) ∨
      (nameOk s = true ∧ used + plen ps ≤ size ∧ r = .int .i64 0 ∧ ∃ f, f.bs = bsOf l s ++ pbs ps ∧ f.syn = synOf l s ∧ A = [diskO db bm size (used + plen ps) born (aput l s f)]) := by
  have hpn : pn = ps.length := by
    obtain ⟨⟨_, _, _, he, h1, _⟩, _⟩ := hp.1
    cases he
    simpa using h1
  subst hpn
  refine CallS_intro hA fun H => disk_Disk_Append_sound _ _ _ _ _ _ _ ?_
  refine wLoop (fun k x w' => ∃ i : Nat, k + i = ps.length ∧ x = (some ⟨db, 0, none⟩, s, pa, ps.length, pc, (plen (ps.take i) : Int), pa, ps.length, pc, (ps.length : Int), (i : Int)) ∧
    St w (fps [diskO db bm size used born l]) w' [diskO db bm size used born l]) ?_ ?_
  · exact ⟨ps.length, 0, by omega, rfl, H⟩
  rintro k x w1 ⟨i, hk, rfl, H⟩
  refine br (fun h => ?_) (fun h => ?_)
  · have hi : i < ps.length := by simp at h; omega
    obtain ⟨p, hpi⟩ : ∃ p, ps[i]? = some p := ⟨_, List.getElem?_eq_getElem hi⟩
    refine wIXr (hp.1.reads (by decide) H.fr) (i := i) (by simpa using hi) rfl fun ad had => ?_
    rw [List.getElem?_map, hpi] at had
    refine ldSl (b := p.a) (l := p.n) (c := p.c) had ?_
    have hpn : p.n = p.bs.length := by
      obtain ⟨⟨_, _, _, he, h1, _⟩, _⟩ := hp.2 p (List.mem_of_getElem? hpi)
      cases he
      simpa using h1
    have hl := plen_le ps (i + 1)
    have htk := plen_take hpi
    have hw : IntKind.wrap .i64 ((i : Int) + 1) = ((i + 1 : Nat) : Int) := by rw [wrap_id (by omega) (by omega)]; rfl
    have hw2 : IntKind.wrap .i64 ((plen (ps.take i) : Int) + (p.n : Int)) = (plen (ps.take (i + 1)) : Int) := by rw [wrap_id (by omega) (by omega)]; omega
    show ∃ k', k' < k ∧ _
    exact ⟨k - 1, by omega, i + 1, by omega, by rw [hw, hw2], H⟩
  have hi : ps.length ≤ i := by simp at h; omega
  simp only [List.take_of_length_le hi]
  refine wCall H (fun _ => Name_spec s w1) (hK := ?_)
  rintro r w1 A' ⟨rfl, rfl⟩ _ H
  repeat (first | refine nn ?_ | refine wI H (hK := ?_) | refine wP H (hK := ?_) | refine wM H (hK := ?_) | refine wSl H (hK := ?_) | refine wB H (hK := ?_) | refine wS H (hK := ?_) | refine wEq ?_ | refine wC H (hK := ?_) | (refine wLW H ?_; intro w1 H) | (refine wST H (hK := ?_); intro w1 H _) | refine mSlice_mk ?_ | refine mInt_mk ?_ | refine mBool_mk ?_ | refine mTup_mk ?_ | refine mCons_mk ?_ | refine mNil_mk ?_ | refine mAgg_mk ?_ | refine mPtr_mk ?_ | refine mStr_mk ?_)
  refine br (fun hno => ⟨_, .inl ⟨by simpa using hno, rfl, rfl⟩, H⟩) (fun hok => ?_)
  have hok : nameOk s = true := by simpa using hok
  have H := St.diskOpen (R := []) H
  repeat (first | refine nn ?_ | refine wI H (hK := ?_) | refine wP H (hK := ?_) | refine wM H (hK := ?_) | refine wSl H (hK := ?_) | refine wB H (hK := ?_) | refine wS H (hK := ?_) | refine wEq ?_ | refine wC H (hK := ?_) | (refine wLW H ?_; intro w1 H) | (refine wST H (hK := ?_); intro w1 H _) | refine mSlice_mk ?_ | refine mInt_mk ?_ | refine mBool_mk ?_ | refine mTup_mk ?_ | refine mCons_mk ?_ | refine mNil_mk ?_ | refine mAgg_mk ?_ | refine mPtr_mk ?_ | refine mStr_mk ?_)
  have hw : IntKind.wrap .i64 (used + (plen ps : Int)) = used + (plen ps : Int) := wrap_id (by omega) (by omega)
  rw [hw]
  refine br (fun hf => ⟨_, .inr (.inl ⟨hok, by simpa using hf, rfl, rfl⟩), H.diskClose⟩) (fun hf => ?_)
  have hfit : used + plen ps ≤ size := by simpa using hf
  repeat (first | refine nn ?_ | refine wI H (hK := ?_) | refine wP H (hK := ?_) | refine wM H (hK := ?_) | refine wSl H (hK := ?_) | refine wB H (hK := ?_) | refine wS H (hK := ?_) | refine wEq ?_ | refine wC H (hK := ?_) | (refine wLW H ?_; intro w1 H) | (refine wST H (hK := ?_); intro w1 H _) | refine mSlice_mk ?_ | refine mInt_mk ?_ | refine mBool_mk ?_ | refine mTup_mk ?_ | refine mCons_mk ?_ | refine mNil_mk ?_ | refine mAgg_mk ?_ | refine mPtr_mk ?_ | refine mStr_mk ?_)
  refine wLookupF H (hK := ?_)
  cases hg : aget l s with
  | none =>
    refine mPtr_mk (br (fun _ => ?_) (fun h => by cases h))
    refine wAL H fun fb w1 H => ?_
    repeat (first | refine nn ?_ | refine wI H (hK := ?_) | refine wP H (hK := ?_) | refine wM H (hK := ?_) | refine wSl H (hK := ?_) | refine wB H (hK := ?_) | refine wS H (hK := ?_) | refine wEq ?_ | refine wC H (hK := ?_) | (refine wLW H ?_; intro w1 H) | (refine wST H (hK := ?_); intro w1 H _) | refine mSlice_mk ?_ | refine mInt_mk ?_ | refine mBool_mk ?_ | refine mTup_mk ?_ | refine mCons_mk ?_ | refine mNil_mk ?_ | refine mAgg_mk ?_ | refine mPtr_mk ?_ | refine mStr_mk ?_)
    refine mapUpdate_own map_str (i := 2) H rfl s _ fun w1 H _ => ?_
    have H := H.front (filesO l)
    rw [show filesO l = filesO (adel l s) by rw [adel_none hg]] at H
    have H := ((H.nothing 5 1 none).front (pt fb (.cells #[.slice none 0 0, .int .i64 0] 71)))
    refine append_rest (f0 := ⟨fb, none, 0, 0, [], 0⟩) hp hps (by simp) hpl hu H fun w' f h1 h2 H => ?_
    exact ⟨_, .inr (.inr ⟨hok, hfit, rfl, f, by simpa [bsOf, hg] using h1, by simpa [synOf, hg] using h2, rfl⟩), H⟩
  | some f0 =>
    refine mPtr_mk (br (fun h => by cases h) (fun _ => ?_))
    have H := file_out (H.front (filesO l)) hg
    have e : aput (ptrs l) s (.pointer (some ⟨f0.fb, 0, none⟩)) = ptrs l := aput_self (by
      have := aget_map (fun f : FileR => (.pointer (some ⟨f.fb, 0, none⟩) : Value)) l s
      rw [hg] at this
      exact this)
    have H : St w (fps [diskO db bm size used born l]) _ [pt f0.fb (.cells #[.slice f0.a f0.n f0.c, .int .i64 f0.syn] 71), sliceO 5 1 (.slice f0.a f0.n f0.c) (bvals f0.bs), filesO (adel l s),
      pt db (.cells #[.int .i64 size, .int .i64 used, .int .i64 born, .map (some bm)] 67), mapO strV bm (ptrs l)] := H
    rw [← e] at H
    refine append_rest hp hps (by simpa [bsOf, hg] using hf0) hpl hu H fun w' f h1 h2 H => ?_
    exact ⟨_, .inr (.inr ⟨hok, hfit, rfl, f, by simpa [bsOf, hg] using h1, by simpa [synOf, hg] using h2, rfl⟩), H⟩
end
end Go.Proofs.Ytimgbkabfkdabaa
