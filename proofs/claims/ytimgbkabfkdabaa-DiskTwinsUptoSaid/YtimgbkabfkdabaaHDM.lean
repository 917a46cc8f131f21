/- DM DN DO, laid together. -/
import Derived.Test.YtimgbkabfkdabaaHDJ
/- Alike, equal: two disks that hold the same. -/
namespace Go.Proofs.Ytimgbkabfkdabaa
open Go.Sh
attribute [local irreducible] rRun LDI LDB LDS LDP LDSl LDM LD Go.Sh.ST AL ALM LetW CallR CallV CallI NN IX SIX Br Req mInt mBool mStr mPtr mSlice mMap mAgg mTup mCons mNil mNth mPA LoopS

theorem ext_none {w : World} {A : List Own} {sz : Nat} : Ext w A sz (.slice none 0 0) [] := ⟨⟨_, 0, _, rfl, by simp, Nat.le_refl _, .inl rfl⟩, fun b hb => by simp [sblk] at hb⟩
theorem Rep.bs {l : Files} {A : List AF} (hr : Rep l A) (s : ByteArray) : bsOf l s = (usedOf A s).1 := by
  rw [bsOf_look, hr.look]; unfold usedOf; cases aget A s <;> rfl
theorem Rep.syn {l : Files} {A : List AF} (hr : Rep l A) (s : ByteArray) : synOf l s = (usedOf A s).2 := by
  rw [synOf_look, hr.look]; unfold usedOf; cases aget A s <;> rfl
theorem Rep.get {l : Files} {A : List AF} (hr : Rep l A) {s : ByteArray} {f : FileR} (hf : aget l s = some f) : aget A s = some (f.bs, f.syn) := by
  rw [← hr.look]; unfold Proofs.Ytimgbkabfkdabaa.look; rw [hf]; rfl
theorem Rep.have {l : Files} {A : List AF} (hr : Rep l A) {s : ByteArray} {x : List UInt8 × Nat} (hx : aget A s = some x) : ∃ f, aget l s = some f ∧ f.bs = x.1 ∧ f.syn = x.2 := by
  rw [← hr.look] at hx
  obtain ⟨f, hf, h1, h2⟩ := look_some hx
  exact ⟨f, hf, h1, h2⟩
theorem Rep.no {l : Files} {A : List AF} (hr : Rep l A) {s : ByteArray} (hx : aget A s = none) : aget l s = none := by
  rw [← hr.look] at hx; unfold Proofs.Ytimgbkabfkdabaa.look at hx
  cases hq : aget l s with
  | none => rfl
  | some f => rw [hq] at hx; cases hx
theorem names_get {A : List AF} {i : Nat} {x : AF} (h : A[i]? = some x) : (strs (namesA A))[i]? = some (.string x.1) := by
  simp [strs, namesA, h]
theorem names_len {A : List AF} : (strs (namesA A)).length = A.length := by simp [strs, namesA]
theorem filter_all {A : List AF} : (namesA A).filter (want []) = namesA A := List.filter_eq_self.2 fun _ _ => rfl
theorem SliceAt.cell {w : World} {E n c b i : Nat} {cs : List Value} (h : SliceAt w E 1 (.slice (some ⟨b, 0, none⟩) n c) cs) (hi : i < cs.length) : w.cell? ⟨b, i, none⟩ = cs[i]? := by
  obtain ⟨_, _, _, he, h1, h2, h3⟩ := h
  cases he
  rcases h3 with h3 | ⟨b, cc, fz', h4, hblk, hcs, hcells, hfz⟩
  · omega
  · cases h4
    rw [cell_blk hblk]
    exact hcells i hi
theorem Good.file {size : Int} {A : List AF} (h : Good size A) {i : Nat} {x : AF} (hi : A[i]? = some x) : aget A x.1 = some x.2 ∧ x.2.2 ≤ x.2.1.length ∧ (x.2.1.length : Int) ≤ size := by
  have h1 := aget_of_get h.srt.nodup hi
  have h2 := h.wh x (List.mem_of_getElem? hi)
  have h3 := used_le h.srt x.1
  rw [usedOf_some h1] at h3
  have := h.fits
  exact ⟨h1, h2, by omega⟩

section
variable {w0 w : World} {F : List Nat} {L M : List Own} {rb db bm : Nat} {size born : Int} {R : RD} {l : Files} {A : List AF}
/-- All of a disk's names. -/
theorem List_all {L : List Own} (hr : Rep l A) (hlA : A.length ≤ 800000) {K : Value → World → Prop} (H : St w0 F w (diskO db bm size (total l) born l :: L))
    (hK : ∀ w' a n c, St w0 F w' (sliceO 9 1 (.slice a n c) (strs (namesA A)) :: diskO db bm size (total l) born l :: L) → n = A.length → K (.slice a n c) w') :
    CallR Try.prog fn_disk_Disk_List #[.pointer (some ⟨db, 0, none⟩), .slice none 0 0] w K := by
  have hnd : (keysOf l).Nodup := keys_nodup (H.get (i := 0) rfl)
  have hlen := hr.len hnd
  refine wCall H (fun hA => List_spec (l := l) (ps := []) hA ext_none (by simp) (by omega)) (hK := ?_)
  rintro r w1 A' ⟨a, n, c, rfl, rfl⟩ _ H
  rw [hr.listed hnd, filter_all] at H
  refine hK _ _ _ _ H ?_
  have := (H.get (i := 0) rfl : SliceAt _ 9 1 _ _).len
  rw [names_len] at this
  exact this

set_option maxHeartbeats 4000000 in
theorem Alike_spec (hA : Has w [diskO db bm size (total l) born l, rdO rb size born R]) (hr : Rep l A) (hRA : R.A = A) (hg : Good size A) (hsz : 0 ≤ size ∧ size ≤ 1073741824) (hlA : A.length ≤ 800000) :
    CallS Try.prog fn_glacierlaw2_Alike #[.pointer (some ⟨db, 0, none⟩), .pointer (some ⟨rb, 0, none⟩)] w [diskO db bm size (total l) born l, rdO rb size born R] fun r _ A' =>
      r = .bool true ∧ A' = [diskO db bm size (total l) born l, rdO rb size born R] := by
  refine CallS_intro hA fun H => glacierlaw2_Alike_sound _ _ _ _ ?_
  have hnd : (keysOf l).Nodup := keys_nodup (H.get (i := 0) rfl)
  have htot := hr.tot hnd
  have hlen := hr.len hnd
  have hfit := hg.fits
  have hR9 : R.l.length ≤ 900000 := by rw [← RD.len, hRA]; omega
  have hlR : R.l.length = A.length := by rw [← RD.len, hRA]
  refine List_all hr hlA H fun w1 a n c H hn => ?_
  subst hn
  refine mSlice_mk (wLW H ?_)
  intro w2 H
  refine wEq (nn ?_)
  have HR : St w (fps [diskO db bm size (total l) born l, rdO rb size born R]) w2 (rdP rb size born R :: rdS R :: rdM R.l :: [sliceO 9 1 (.slice a A.length c) (strs (namesA A)), diskO db bm size (total l) born l]) := (H.front (rdO rb size born R)).rdOpen
  have hn2 := rd_n HR
  have HRp : St w (fps [diskO db bm size (total l) born l, rdO rb size born R]) w2 (pt rb (.cells #[.int .i64 size, .slice R.a R.n R.c, .int .i64 born] 56) :: rdS R :: rdM R.l :: [sliceO 9 1 (.slice a A.length c) (strs (namesA A)), diskO db bm size (total l) born l]) := HR
  refine wSl HRp (b := rb) (j := 1) (hK := wEq ?_)
  refine br (fun h => ?_) (fun _ => ?_)
  · simp only [bne_iff_ne, ne_eq] at h
    omega
  have H := H.front (diskO db bm size (total l) born l)
  refine wCall H (fun hA => Used_spec hA) (hK := ?_)
  rintro r w3 A' ⟨rfl, rfl⟩ _ H
  refine mInt_mk ?_
  have HR := (H.front (rdO rb size born R)).rdOpen
  refine rUsed_walk HR (by omega) (by rw [hRA]; omega) (mInt_mk ?_)
  refine br (fun h => ?_) (fun _ => nn ?_)
  · simp only [bne_iff_ne, ne_eq] at h
    rw [hRA] at h
    omega
  have HRp : St w (fps [diskO db bm size (total l) born l, rdO rb size born R]) w3 (pt rb (.cells #[.int .i64 size, .slice R.a R.n R.c, .int .i64 born] 56) :: rdS R :: rdM R.l :: [diskO db bm size (total l) born l, sliceO 9 1 (.slice a A.length c) (strs (namesA A))]) := HR
  refine wI HRp (b := rb) (j := 2) (hK := ?_)
  refine wCall H (fun hA => Born_spec hA) (hK := ?_)
  rintro r w4 A' ⟨rfl, rfl⟩ _ H
  refine mInt_mk ?_
  have HR := (H.front (rdO rb size born R)).rdOpen
  have HRp : St w (fps [diskO db bm size (total l) born l, rdO rb size born R]) w4 (pt rb (.cells #[.int .i64 size, .slice R.a R.n R.c, .int .i64 born] 56) :: rdS R :: rdM R.l :: [diskO db bm size (total l) born l, sliceO 9 1 (.slice a A.length c) (strs (namesA A))]) := HR
  refine wC HRp (b := rb) (j := 2) (hK := ?_)
  refine br (fun h => ?_) (fun _ => ?_)
  · simp at h
  clear HR HRp
  refine wLoop (fun k s w' => ∃ i : Nat, k + i = A.length ∧ s = (some ⟨db, 0, none⟩, some ⟨rb, 0, none⟩, a, A.length, c, (i : Int)) ∧
    St w (fps [diskO db bm size (total l) born l, rdO rb size born R]) w' [diskO db bm size (total l) born l, sliceO 9 1 (.slice a A.length c) (strs (namesA A)), rdO rb size born R]) ⟨A.length, 0, by omega, rfl, H⟩ ?_
  clear H
  rintro k s w5 ⟨i, hk, rfl, H⟩
  refine br (fun h => ?_) (fun h => ?_)
  · have hi : i < A.length := by simp at h; omega
    obtain ⟨x, hx⟩ : ∃ x, A[i]? = some x := ⟨_, List.getElem?_eq_getElem hi⟩
    obtain ⟨hgx, hwx, hbx⟩ := hg.file hx
    obtain ⟨f, hf, hfb, hfs⟩ := hr.have hgx
    have hwi : IntKind.wrap .i64 ((i : Int) + 1) = ((i + 1 : Nat) : Int) := by rw [wrap_id (by omega) (by omega)]; rfl
    have hnm : (strs (namesA A))[i]? = some (.string x.1) := names_get hx
    refine wIX (H.get (i := 1) rfl : SliceAt _ 9 1 _ _) (by rw [names_len]; exact hi) rfl fun a0 ha0 => ldS (ha0.trans hnm) ?_
    refine wCall H (fun hA => Read_spec (s := x.1) hA (fun f' hf' => by rw [hf] at hf'; cases hf'; rw [hfb]; omega)) (hK := ?_)
    rintro r w6 A' (⟨hc, _⟩ | ⟨f', va, vn, vc, hf', rfl, rfl⟩) _ H
    · rw [hf] at hc; cases hc
    rw [hf] at hf'; cases hf'
    rw [hfb] at H
    have H : St w (fps [diskO db bm size (total l) born l, rdO rb size born R]) w6 [sliceO 5 1 (.slice va vn vc) (bvals x.2.1), diskO db bm size (total l) born l, sliceO 9 1 (.slice a A.length c) (strs (namesA A)), rdO rb size born R] := H
    refine mTup_mk (mCons_mk (mSlice_mk (mCons_mk (mInt_mk (mNil_mk ?_)))))
    refine wLW H ?_
    intro w7 H
    refine wIX (H.get (i := 2) rfl : SliceAt _ 9 1 _ _) (by rw [names_len]; exact hi) rfl fun a1 ha1 => ldS (ha1.trans hnm) (nn ?_)
    have HR : St w (fps [diskO db bm size (total l) born l, rdO rb size born R]) w7 (rdP rb size born R :: rdS R :: rdM R.l :: [sliceO 5 1 (.slice va vn vc) (bvals x.2.1), diskO db bm size (total l) born l, sliceO 9 1 (.slice a A.length c) (strs (namesA A))]) := (H.front (rdO rb size born R)).rdOpen
    have HRp : St w (fps [diskO db bm size (total l) born l, rdO rb size born R]) w7 (pt rb (.cells #[.int .i64 size, .slice R.a R.n R.c, .int .i64 born] 56) :: rdS R :: rdM R.l :: [sliceO 5 1 (.slice va vn vc) (bvals x.2.1), diskO db bm size (total l) born l, sliceO 9 1 (.slice a A.length c) (strs (namesA A))]) := HR
    obtain ⟨g, hgi, hgv⟩ : ∃ g, R.l[i]? = some g ∧ g.fv = x := by
      have := R.get i
      rw [hRA, hx] at this
      cases hq : R.l[i]? with
      | none => rw [hq] at this; cases this
      | some g => rw [hq] at this; cases this; exact ⟨g, rfl, rfl⟩
    have hgm := List.mem_of_getElem? hgi
    have hgn : g.name = x.1 := by rw [← hgv]; rfl
    have hgb : g.bs = x.2.1 := by rw [← hgv]; rfl
    obtain ⟨ga, gc, hgV⟩ := file_val HR hgm
    refine wSl HRp (b := rb) (j := 1) (hK := ?_)
    refine wIXf HR hgi rfl fun ad c0 c1 c2 => ldS c0 ?_
    rw [hgn]
    refine br (fun h => ?_) (fun _ => ?_)
    · simp at h
    refine br (fun h => ?_) (fun _ => ?_)
    · simp at h
    have hread := (H.get (i := 0) rfl : SliceAt w7 5 1 (.slice va vn vc) (bvals x.2.1)).reads
    refine wConvS hread elem_bytes.under (by kernel_rfl) (by kernel_rfl) (mStr_mk (wEq (nn ?_)))
    refine wSl HRp (b := rb) (j := 1) (hK := ?_)
    refine wIXf HR hgi rfl fun ad c0 c1 c2 => ldSl (by rw [c1, hgV]) ?_
    have hgr := (file_slice HR hgm).reads
    rw [hgV, hgb] at hgr
    rw [hgb]
    refine wConvS hgr elem_bytes.under (by kernel_rfl) (by kernel_rfl) (mStr_mk (wEq ?_))
    refine br (fun h => ?_) (fun _ => ?_)
    · simp at h
    refine wIX (H.get (i := 2) rfl : SliceAt _ 9 1 _ _) (by rw [names_len]; exact hi) rfl fun a1 ha1 => ldS (ha1.trans hnm) ?_
    refine wIXe (H.get (i := 2) rfl : SliceAt _ 9 1 _ _) (by rw [names_len]; exact hi) rfl fun b2 hb2 ha2 => ldS (ha2.trans hnm) ?_
    subst hb2
    have H := H.tail
    refine wCall H (fun hA => Unsynced_spec (s := x.1) hA (fun f' hf' => by rw [hf] at hf'; cases hf'; rw [hfb, hfs]; omega)) (hK := ?_)
    rintro r w8 A' ⟨rfl, rfl⟩ hfr H
    refine mInt_mk ⟨(SliceAt.cell (H.get (i := 1) rfl) (by rw [names_len]; exact hi)).trans hnm, ?_⟩
    have H := H.front (rdO rb size born R)
    refine rUnsynced_walk (s := x.1) H hR9 (by rw [hRA]; exact hg.srt) (by rw [hRA]; exact hg.wh) (by rw [hRA]; omega) fun w9 H => mInt_mk ?_
    refine br (fun h => ?_) (fun _ => ?_)
    · simp only [bne_iff_ne, ne_eq] at h
      rw [hr.bs, hr.syn, hRA] at h
      exact absurd rfl h
    refine ⟨k - 1, by omega, i + 1, by omega, by rw [hwi], ?_⟩
    exact ((H.front (sliceO 9 1 (.slice (some ⟨b2, 0, none⟩) A.length c) (strs (namesA A)))).front (diskO db bm size (total l) born l))
  · exact ⟨_, ⟨rfl, rfl⟩, (H.front (rdO rb size born R)).front (diskO db bm size (total l) born l) |>.left (L := [_, _])⟩
end
end Go.Proofs.Ytimgbkabfkdabaa

/- equal; play; same. -/
namespace Go.Proofs.Ytimgbkabfkdabaa
open Go.Sh
attribute [local irreducible] rRun LDI LDB LDS LDP LDSl LDM LD Go.Sh.ST AL ALM LetW CallR CallV CallI NN IX SIX Br Req mInt mBool mStr mPtr mSlice mMap mAgg mTup mCons mNil mNth mPA LoopS

section
variable {w0 w : World} {F : List Nat} {L M : List Own} {rb db bm eb em : Nat} {size born used : Int} {R : RD} {l m : Files} {A : List AF} {s : ByteArray}
theorem dRead_walk {x : List UInt8 × Nat} {K : Value → World → Prop} (hr : Rep l A) (hx : aget A s = some x) (hb : x.1.length ≤ 70000000000) (H : St w0 F w (diskO db bm size used born l :: L))
    (hK : ∀ w' a c, St w0 F w' (sliceO 5 1 (.slice a x.1.length c) (bvals x.1) :: diskO db bm size used born l :: L) → K (.tuple #[.slice a x.1.length c, .int .i64 0]) w') :
    CallR Try.prog fn_disk_Disk_Read #[.pointer (some ⟨db, 0, none⟩), .string s] w K := by
  obtain ⟨f, hf, hfb, hfs⟩ := hr.have hx
  refine wCall H (fun hA => Read_spec (s := s) hA (fun f' hf' => by rw [hf] at hf'; cases hf'; rw [hfb]; omega)) (hK := ?_)
  rintro r w6 A' (⟨hc, _⟩ | ⟨f', va, vn, vc, hf', rfl, rfl⟩) _ H
  · rw [hf] at hc; cases hc
  rw [hf] at hf'; cases hf'
  rw [hfb] at H
  have hn : vn = x.1.length := by have := (H.get (i := 0) rfl : SliceAt _ 5 1 (.slice va vn vc) _).len; simpa using this
  subst hn
  exact hK _ _ _ H
theorem dRead_none {K : Value → World → Prop} (hr : Rep l A) (hx : aget A s = none) (H : St w0 F w (diskO db bm size used born l :: L))
    (hK : ∀ w', St w0 F w' (diskO db bm size used born l :: L) → K (.tuple #[.slice none 0 0, .int .i64 4]) w') :
    CallR Try.prog fn_disk_Disk_Read #[.pointer (some ⟨db, 0, none⟩), .string s] w K := by
  have hn := hr.no hx
  refine wCall H (fun hA => Read_spec (s := s) hA (fun f' hf' => by rw [hn] at hf'; cases hf')) (hK := ?_)
  rintro r w6 A' (⟨_, rfl, rfl⟩ | ⟨f', va, vn, vc, hf', rfl, rfl⟩) _ H
  · exact hK _ H
  · rw [hn] at hf'; cases hf'
theorem dUnsynced_walk {K : Value → World → Prop} (hr : Rep l A) (hg : Good size A) (hsz : size ≤ 1073741824) (H : St w0 F w (diskO db bm size used born l :: L))
    (hK : ∀ w', St w0 F w' (diskO db bm size used born l :: L) → K (.int .i64 (((usedOf A s).1.length : Int) - ((usedOf A s).2 : Int))) w') :
    CallR Try.prog fn_disk_Disk_Unsynced #[.pointer (some ⟨db, 0, none⟩), .string s] w K := by
  have h1 := used_le hg.srt s
  have h2 := usedOf_wh hg.srt hg.wh s
  have h3 := hg.fits
  refine wCall H (fun hA => Unsynced_spec (s := s) hA (fun f' hf' => by
    have := hr.get hf'
    rw [usedOf_some this] at h1 h2
    simp only at h1 h2
    omega)) (hK := ?_)
  rintro r w8 A' ⟨rfl, rfl⟩ hfr H
  rw [hr.bs, hr.syn]
  exact hK _ H

set_option maxHeartbeats 4000000 in
theorem equal_walk {K : Value → World → Prop} (hr : Rep l A) (hs : Rep m A) (hg : Good size A) (hsz : 0 ≤ size ∧ size ≤ 1073741824) (hlA : A.length ≤ 800000)
    (H : St w0 F w (diskO db bm size (total l) born l :: diskO eb em size (total m) born m :: L))
    (hK : ∀ w', St w0 F w' (diskO db bm size (total l) born l :: diskO eb em size (total m) born m :: L) → K (.bool true) w') :
    CallR Try.prog fn_glacierlaw2_equal #[.pointer (some ⟨db, 0, none⟩), .pointer (some ⟨eb, 0, none⟩)] w K := by
  refine glacierlaw2_equal_sound _ _ _ _ ?_
  have hfit := hg.fits
  refine List_all hr hlA H fun w1 a n c H hn => ?_
  subst hn
  refine mSlice_mk ?_
  have H := (H.front (diskO eb em size (total m) born m))
  refine List_all hs hlA H fun w2 a' n c' H hn => ?_
  subst hn
  refine mSlice_mk ?_
  refine br (fun h => ?_) (fun _ => ?_)
  · simp at h
  have H := H.front (diskO db bm size (total l) born l)
  refine wCall H (fun hA => Born_spec hA) (hK := ?_)
  rintro r w4 A' ⟨rfl, rfl⟩ _ H
  refine mInt_mk ?_
  have H := H.front (diskO eb em size (total m) born m)
  refine wCall H (fun hA => Born_spec hA) (hK := ?_)
  rintro r w5 A' ⟨rfl, rfl⟩ _ H
  refine mInt_mk ?_
  refine br (fun h => ?_) (fun _ => ?_)
  · simp at h
  have H := ((H.front (sliceO 9 1 (.slice a A.length c) (strs (namesA A)))).front (sliceO 9 1 (.slice a' A.length c') (strs (namesA A)))).front (diskO db bm size (total l) born l)
  refine wLoop (fun k s w' => ∃ i : Nat, k + i = A.length ∧ s = (some ⟨db, 0, none⟩, some ⟨eb, 0, none⟩, a, A.length, c, a', A.length, c', (i : Int)) ∧
    St w0 F w' (diskO db bm size (total l) born l :: sliceO 9 1 (.slice a' A.length c') (strs (namesA A)) :: sliceO 9 1 (.slice a A.length c) (strs (namesA A)) :: diskO eb em size (total m) born m :: L)) ⟨A.length, 0, by omega, rfl, H⟩ ?_
  clear H
  rintro k s w5 ⟨i, hk, rfl, H⟩
  refine br (fun h => ?_) (fun h => ?_)
  · have hi : i < A.length := by simp at h; omega
    obtain ⟨x, hx⟩ : ∃ x, A[i]? = some x := ⟨_, List.getElem?_eq_getElem hi⟩
    obtain ⟨hgx, hwx, hbx⟩ := hg.file hx
    have hwi : IntKind.wrap .i64 ((i : Int) + 1) = ((i + 1 : Nat) : Int) := by rw [wrap_id (by omega) (by omega)]; rfl
    have hnm : (strs (namesA A))[i]? = some (.string x.1) := names_get hx
    have hnl : i < (strs (namesA A)).length := by rw [names_len]; exact hi
    refine wIX (H.get (i := 2) rfl : SliceAt _ 9 1 _ _) hnl rfl fun a0 ha0 => ldS (ha0.trans hnm) ?_
    refine dRead_walk hr hgx (by omega) H fun w6 va vc H => ?_
    refine mTup_mk (mCons_mk (mSlice_mk (mCons_mk (mInt_mk (mNil_mk ?_)))))
    refine wIX (H.get (i := 3) rfl : SliceAt _ 9 1 _ _) hnl rfl fun a0 ha0 => ldS (ha0.trans hnm) ?_
    have H := H.front (diskO eb em size (total m) born m)
    refine dRead_walk hs hgx (by omega) H fun w6 ua uc H => ?_
    refine mTup_mk (mCons_mk (mSlice_mk (mCons_mk (mInt_mk (mNil_mk (wLW H ?_))))))
    intro w7 H
    refine wIX (H.get (i := 5) rfl : SliceAt _ 9 1 _ _) hnl rfl fun a0 ha0 => ldS (ha0.trans hnm) ?_
    refine wIX (H.get (i := 4) rfl : SliceAt _ 9 1 _ _) hnl rfl fun a0 ha0 => ldS (ha0.trans hnm) ?_
    refine br (fun h => ?_) (fun _ => ?_)
    · simp at h
    refine wConvS (H.get (i := 2) rfl : SliceAt _ 5 1 _ _).reads elem_bytes.under (by kernel_rfl) (by kernel_rfl) (mStr_mk (wEq ?_))
    refine wConvS (H.get (i := 0) rfl : SliceAt _ 5 1 _ _).reads elem_bytes.under (by kernel_rfl) (by kernel_rfl) (mStr_mk (wEq ?_))
    refine br (fun h => ?_) (fun _ => ?_)
    · simp at h
    refine wIX (H.get (i := 5) rfl : SliceAt _ 9 1 _ _) hnl rfl fun a0 ha0 => ldS (ha0.trans hnm) ?_
    refine wIXe (H.get (i := 5) rfl : SliceAt _ 9 1 _ _) hnl rfl fun b2 hb2 ha2 => ldS (ha2.trans hnm) ?_
    subst hb2
    have H := H.tail.front (diskO db bm size (total l) born l)
    refine dUnsynced_walk hr hg hsz.2 H fun w8 H => mInt_mk ⟨(SliceAt.cell (H.get (i := 4) rfl) hnl).trans hnm, ?_⟩
    have H := H.front (diskO eb em size (total m) born m)
    refine dUnsynced_walk hs hg hsz.2 H fun w9 H => mInt_mk ?_
    refine br (fun h => ?_) (fun _ => ?_)
    · simp at h
    refine ⟨k - 1, by omega, i + 1, by omega, by rw [hwi], ?_⟩
    exact ((((H.front (sliceO 5 1 (.slice va x.2.1.length vc) (bvals x.2.1))).tail.front (sliceO 9 1 (.slice (some ⟨b2, 0, none⟩) A.length c) (strs (namesA A)))).front (sliceO 9 1 (.slice a' A.length c') (strs (namesA A)))).front (diskO db bm size (total l) born l))
  · exact hK _ ((H.front (sliceO 9 1 (.slice a A.length c) (strs (namesA A)))).tail.front (sliceO 9 1 (.slice a' A.length c') (strs (namesA A)))).tail
end
end Go.Proofs.Ytimgbkabfkdabaa

/- play; same. -/
namespace Go.Proofs.Ytimgbkabfkdabaa
open Go.Sh
attribute [local irreducible] rRun LDI LDB LDS LDP LDSl LDM LD Go.Sh.ST AL ALM LetW CallR CallV CallI NN IX SIX Br Req mInt mBool mStr mPtr mSlice mMap mAgg mTup mCons mNil mNth mPA LoopS
attribute [local irreducible] nextA

def runA (size : Int) (A : List AF) (xs : List ActD) : List AF := xs.foldl (nextA size) A
def runB (b : Int) (xs : List ActD) : Int := xs.foldl nextB b
structure Ok (size : Int) (A : List AF) (b : Int) (k : Nat) : Prop where
  good : Good size A
  len : A.length ≤ k
  born : 0 ≤ b ∧ b ≤ k
theorem Ok.next {size b : Int} {A : List AF} {k : Nat} (h : Ok size A b k) (hsz : 0 ≤ size) (x : ActD) : Ok size (nextA size A x) (nextB b x) (k + 1) := by
  obtain ⟨h1, h2⟩ := h.good.next hsz x
  have := h.len
  have := h.born
  refine ⟨h1, by omega, ?_⟩
  unfold nextB
  split <;> omega
theorem Ok.mono {size b : Int} {A : List AF} {k k' : Nat} (h : Ok size A b k) (hk : k ≤ k') : Ok size A b k' := by
  have := h.len
  have := h.born
  exact ⟨h.good, by omega, by omega⟩
theorem Ok.run {size : Int} (hsz : 0 ≤ size) {xs : List ActD} : ∀ {A : List AF} {b : Int} {k : Nat}, Ok size A b k → Ok size (runA size A xs) (runB b xs) (k + xs.length) := by
  induction xs with
  | nil => intro A b k h; exact h
  | cons x t ih =>
    intro A b k h
    have := ih (h.next hsz x)
    simp only [List.length_cons]
    rw [show k + (t.length + 1) = k + 1 + t.length by omega]
    exact this
theorem Ok.zero {size : Int} (hsz : 0 ≤ size) : Ok size [] 0 0 := ⟨⟨.nil, fun y hy => (by cases hy), by simp [totA]; exact hsz⟩, Nat.le_refl _, by decide⟩
theorem take_next {α : Type} {xs : List α} {i : Nat} {x : α} (h : xs[i]? = some x) : xs.take (i + 1) = xs.take i ++ [x] := by
  obtain ⟨hi, he⟩ := List.getElem?_eq_some_iff.1 h
  rw [← List.take_append_getElem hi, he]
theorem runA_next {size : Int} {A : List AF} {xs : List ActD} {i : Nat} {x : ActD} (h : xs[i]? = some x) : runA size A (xs.take (i + 1)) = nextA size (runA size A (xs.take i)) x := by
  rw [take_next h]; unfold runA; rw [List.foldl_append]; rfl
theorem runB_next {b : Int} {xs : List ActD} {i : Nat} {x : ActD} (h : xs[i]? = some x) : runB b (xs.take (i + 1)) = nextB (runB b (xs.take i)) x := by
  rw [take_next h]; unfold runB; rw [List.foldl_append]; rfl
theorem runA_app {size : Int} {A : List AF} {xs ys : List ActD} : runA size A (xs ++ ys) = runA size (runA size A xs) ys := by unfold runA; rw [List.foldl_append]

section
variable {w0 w : World} {F : List Nat} {L M : List Own} {rb db bm eb em : Nat} {size size2 born born2 used : Int} {R : RD} {l m : Files} {A : List AF} {s : ByteArray}
theorem step_ext {x : ActD} {k k2 : Nat} {K : Value → World → Prop} (H : St w0 F w (diskO db bm size (total l) born l :: rdO rb size2 born2 R :: L)) (hr : Rep l A) (hg : Ok size A born k) (hg2 : Ok size2 R.A born2 k2) (hk : k ≤ 800000 ∧ k2 ≤ 800000)
    (hsz : 0 ≤ size ∧ size ≤ 1073741824) (hsz2 : 0 ≤ size2 ∧ size2 ≤ 1073741824) (hsm : x.small)
    (hxn : Ext w [diskO db bm size (total l) born l, rdO rb size2 born2 R] 1 (.slice x.na x.nn' x.nc) (strs x.names)) (hxb : Ext w [diskO db bm size (total l) born l, rdO rb size2 born2 R] 1 (.slice x.ba x.bn x.bc) (bvals x.bs)) (hxp : Ext w [diskO db bm size (total l) born l, rdO rb size2 born2 R] 1 (.slice x.pa x.pn x.pc) (ints x.picks))
    (hK : ∀ (q : Bool) w' bm' l' R', (size = size2 → A = R.A → q = true) → Rep l' (nextA size A x) → R'.A = nextA size2 R.A x →
      St w0 F w' (diskO db bm' size (total l') (nextB born x) l' :: rdO rb size2 (nextB born2 x) R' :: L) → K (.bool q) w') :
    CallR Try.prog fn_glacierlaw2_step #[.pointer (some ⟨db, 0, none⟩), .pointer (some ⟨rb, 0, none⟩), .agg #[.int .i64 x.op, .string x.name, .string x.to, .slice x.na x.nn' x.nc, .slice x.ba x.bn x.bc, .slice x.pa x.pn x.pc]] w K := by
  have h1 := hg.len
  have h2 := hg2.len
  have h3 := hg.born
  have h4 := hg2.born
  refine wCall (A := [diskO db bm size (total l) born l, rdO rb size2 born2 R]) H (fun hA => step_spec (x := x) hA hr hg.good hg2.good hsz hsz2 (by omega) (by omega) (by omega) (by omega) hsm hxn hxb hxp) (hK := ?_)
  rintro r w1 A' ⟨q, bm', l', R', rfl, hq, hr', hR', rfl⟩ _ H
  exact hK q w1 bm' l' R' hq hr' hR' H
theorem step_walk {x : ActD} {k k2 : Nat} {K : Value → World → Prop} (H : St w0 [] w (diskO db bm size (total l) born l :: rdO rb size2 born2 R :: L)) (hr : Rep l A) (hg : Ok size A born k) (hg2 : Ok size2 R.A born2 k2) (hk : k ≤ 800000 ∧ k2 ≤ 800000)
    (hsz : 0 ≤ size ∧ size ≤ 1073741824) (hsz2 : 0 ≤ size2 ∧ size2 ≤ 1073741824) (hsm : x.small) (hx : x.ok w0)
    (hK : ∀ (q : Bool) w' bm' l' R', (size = size2 → A = R.A → q = true) → Rep l' (nextA size A x) → R'.A = nextA size2 R.A x →
      St w0 [] w' (diskO db bm' size (total l') (nextB born x) l' :: rdO rb size2 (nextB born2 x) R' :: L) → K (.bool q) w') :
    CallR Try.prog fn_glacierlaw2_step #[.pointer (some ⟨db, 0, none⟩), .pointer (some ⟨rb, 0, none⟩), .agg #[.int .i64 x.op, .string x.name, .string x.to, .slice x.na x.nn' x.nc, .slice x.ba x.bn x.bc, .slice x.pa x.pn x.pc]] w K :=
  step_ext H hr hg hg2 hk hsz hsz2 hsm (St.extC (B := L) H (by decide) hx.1) (St.extC (B := L) H (by decide) hx.2.1) (St.extC (B := L) H (by decide) hx.2.2) hK
theorem act_load {b : Option Addr} {n c i : Nat} {v : Int} {xs : List ActD} {x : ActD} {K : Int → ByteArray → ByteArray → Option Addr → Nat → Nat → Option Addr → Nat → Nat → Option Addr → Nat → Nat → Prop}
    (hb : ActsD w (.slice b n c) xs) (hx : xs[i]? = some x) (hv : v = (i : Int)) (hK : K x.op x.name x.to x.na x.nn' x.nc x.ba x.bn x.bc x.pa x.pn x.pc) :
    IX b n v 6 fun a => LDI .i64 w a fun op => LDS w (Addr.add a 1) fun nm => LDS w (Addr.add a 2) fun to => LDSl w (Addr.add a 3) fun na nn nc => LDSl w (Addr.add a 4) fun ba bn bc => LDSl w (Addr.add a 5) fun pa pn pc => K op nm to na nn nc ba bn bc pa pn pc := by
  refine wIXel hb hx hv fun a ha => ?_
  have e0 : Addr.add a 0 = a := by simp [Addr.add]
  have h0 := ha 0 _ rfl
  rw [e0] at h0
  exact ldI h0 (ldS (ha 1 _ rfl) (ldS (ha 2 _ rfl) (ldSl (ha 3 _ rfl) (ldSl (ha 4 _ rfl) (ldSl (ha 5 _ rfl) hK)))))

set_option maxHeartbeats 4000000 in
theorem play_walk {b : Option Addr} {n c k : Nat} {xs : List ActD} {K : Value → World → Prop} (hb : ActsD w0 (.slice b n c) xs) (hlen : xs.length ≤ 150000) (hsm : ∀ x ∈ xs, x.small) (hr : Rep l A) (hg : Ok 1048576 A born k) (hk : k ≤ 600000)
    (H : St w0 [] w (diskO db bm 1048576 (total l) born l :: L))
    (hK : ∀ w' bm' l', Rep l' (runA 1048576 A xs) → St w0 [] w' (diskO db bm' 1048576 (total l') (runB born xs) l' :: L) → K (.tuple #[]) w') :
    CallR Try.prog fn_glacierlaw2_play #[.pointer (some ⟨db, 0, none⟩), .slice b n c] w K := by
  have hn := hb.len
  subst hn
  refine glacierlaw2_play_sound _ _ _ _ _ _ ?_
  refine wCall (A := []) (B := diskO db bm 1048576 (total l) born l :: L) H (fun hA => rdNew_spec 1048576 w) (hK := ?_)
  rintro r w1 A' ⟨hr0, _⟩ _ H
  obtain ⟨rb, rfl, rfl⟩ := hr0 (by decide)
  refine mTup_mk (mCons_mk (mPtr_mk (mCons_mk (mInt_mk (mNil_mk ?_)))))
  refine wLoop (fun k' s w' => ∃ (i : Nat) (bm' : Nat) (l' : Files) (R' : RD) (b2 : Int), k' + i = xs.length ∧ s = (some ⟨db, 0, none⟩, b, xs.length, c, some ⟨rb, 0, none⟩, (i : Int)) ∧ Rep l' (runA 1048576 A (xs.take i)) ∧ Ok 1048576 R'.A b2 i ∧
    St w0 [] w' (diskO db bm' 1048576 (total l') (runB born (xs.take i)) l' :: rdO rb 1048576 b2 R' :: L)) ?_ ?_
  · exact ⟨xs.length, 0, bm, l, ⟨none, 0, 0, []⟩, 0, by omega, rfl, hr, Ok.zero (by decide), H.front (diskO db bm 1048576 (total l) born l)⟩
  clear H
  rintro k' s w2 ⟨i, bm', l', R', b2, hk', rfl, hr', hR', H⟩
  refine br (fun h => ?_) (fun h => ?_)
  · have hi : i < xs.length := by simp at h; omega
    obtain ⟨x, hx⟩ : ∃ x, xs[i]? = some x := ⟨_, List.getElem?_eq_getElem hi⟩
    have hwi : IntKind.wrap .i64 ((i : Int) + 1) = ((i + 1 : Nat) : Int) := by rw [wrap_id (by omega) (by omega)]; rfl
    have hxm := List.mem_of_getElem? hx
    refine act_load (hb.keep H.fr) hx rfl ?_
    have hOk : Ok 1048576 (runA 1048576 A (xs.take i)) (runB born (xs.take i)) (k + i) := by
      have := Ok.run (xs := xs.take i) (by decide) hg
      rw [List.length_take, Nat.min_eq_left (Nat.le_of_lt hi)] at this
      exact this
    refine step_walk (x := x) H hr' hOk hR' ⟨by omega, by omega⟩ (by decide) (by decide) (hsm x hxm) (hb.oks x hxm) ?_
    intro q w3 bm'' l'' R'' _ hr'' hR'' H
    refine mBool_mk ⟨k' - 1, by omega, i + 1, bm'', l'', R'', nextB b2 x, by omega, by rw [hwi], ?_, ?_, ?_⟩
    · rw [runA_next hx]; exact hr''
    · rw [hR'']; exact hR'.next (by decide) x
    · rw [runB_next hx]; exact H
  · have hi : i = xs.length := by simp at h; omega
    subst hi
    rw [List.take_length] at hr' H
    exact hK w2 bm' l' hr' ((H.front (rdO rb 1048576 b2 R')).tail)

theorem same_walk {b : Option Addr} {n c : Nat} {xs : List ActD} {K : Value → World → Prop} (hb : ActsD w0 (.slice b n c) xs) (hlen : xs.length ≤ 150000) (hsm : ∀ x ∈ xs, x.small) (hr : Rep l (runA 1048576 [] xs))
    (H : St w0 [] w (diskO db bm 1048576 (total l) (runB 0 xs) l :: L))
    (hK : ∀ w', St w0 [] w' (diskO db bm 1048576 (total l) (runB 0 xs) l :: L) → K (.bool true) w') :
    CallR Try.prog fn_glacierlaw2_same #[.pointer (some ⟨db, 0, none⟩), .slice b n c] w K := by
  refine glacierlaw2_same_sound _ _ _ _ _ _ ?_
  refine wCall (A := []) (B := diskO db bm 1048576 (total l) (runB 0 xs) l :: L) H (fun hA => New_spec 1048576 w) (hK := ?_)
  rintro r w1 A' ⟨hr0, _⟩ _ H
  obtain ⟨eb, em, rfl, rfl⟩ := hr0 (by decide)
  refine mTup_mk (mCons_mk (mPtr_mk (mCons_mk (mInt_mk (mNil_mk ?_)))))
  refine play_walk (l := []) (A := []) hb hlen hsm Rep.nil (Ok.zero (by decide)) (by decide) H fun w2 em' m hm H => mTup_mk (mNil_mk ?_)
  have hok := (Ok.run (size := 1048576) (xs := xs) (by decide) (Ok.zero (by decide)))
  have := hok.len
  have H := H.front (diskO db bm 1048576 (total l) (runB 0 xs) l)
  refine equal_walk hr hm hok.good (by decide) (by omega) H fun w3 H => mBool_mk (hK _ ?_)
  exact (H.front (diskO eb em' 1048576 (total m) (runB 0 xs) m)).tail
end
end Go.Proofs.Ytimgbkabfkdabaa
