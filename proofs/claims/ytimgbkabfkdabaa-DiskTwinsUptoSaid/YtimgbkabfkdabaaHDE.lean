/- DE DF, laid together. -/
import Derived.Test.YtimgbkabfkdabaaHDC
/- The reference's disk in memory: drop, Name, begins, Append, all, Lose, Read, Unsynced. -/
namespace Go.Proofs.Ytimgbkabfkdabaa
open Go.Sh
attribute [local irreducible] rRun LDI LDB LDS LDP LDSl LDM LD Go.Sh.ST AL ALM LetW CallR CallV CallI NN IX SIX Br Req mInt mBool mStr mPtr mSlice mMap mAgg mTup mCons mNil mNth mPA LoopS

section
variable {w0 w : World} {F : List Nat} {L M : List Own} {rb : Nat} {size born : Int} {R : RD}
theorem drop_walk {s : ByteArray} {K : Value → World → Prop} (hl : R.l.length ≤ 900000) (hs : Srt R.A) (H : St w0 F w (rdO rb size born R :: L))
    (h0 : aget R.A s = none → ∀ w', St w0 F w' (rdO rb size born R :: L) → K (.tuple #[]) w')
    (hK : ∀ f, R.l[fnd s R.A]? = some f → f.name = s → ∀ w' R', R'.A = adel R.A s → R'.l.length ≤ R.l.length → St w0 F w' (rdO rb size born R' :: f.own :: L) → K (.tuple #[]) w') :
    CallR Try.prog fn_glacierref2_Disk_drop #[.pointer (some ⟨rb, 0, none⟩), .string s] w K := by
  refine glacierref2_Disk_drop_sound _ _ _ _ ?_
  have H := H.rdOpen
  refine find_walk H (by omega) hs fun w2 _ H => ?_
  have hn := rd_n H
  have hone := fcells_one (l := R.l) fun x hx => file_slice H hx
  refine mTup_mk (mCons_mk (mInt_mk (mCons_mk (mBool_mk (mNil_mk ?_)))))
  refine br (fun hg => ?_) (fun hg => ?_)
  · obtain ⟨x, hx⟩ := Option.isSome_iff_exists.1 hg
    have hA := (fnd_spec hs).1 x hx
    rw [RD.get] at hA
    obtain ⟨f, hf, hfx⟩ := Option.map_eq_some_iff.1 hA
    have hname : f.name = s := congrArg Prod.fst hfx
    have hlt := (List.getElem?_eq_some_iff.1 hf).1
    have hc : R.n ≤ R.c := by
      obtain ⟨_, _, _, he, _, h2, _⟩ := (H.get (i := 1) rfl : SliceAt _ 82 3 (.slice R.a R.n R.c) _)
      cases he
      exact h2
    generalize hi : fnd s R.A = i at hf hlt
    have hw1 : IntKind.wrap .i64 ((i : Int) + 1) = ((i + 1 : Nat) : Int) := by rw [wrap_id (by omega) (by omega)]; rfl
    rw [hw1]
    have H : St w0 F w2 (pt rb (.cells #[.int .i64 size, .slice R.a R.n R.c, .int .i64 born] 56) :: rdS R :: rdM R.l :: L) := H
    refine wLW H ?_
    intro w3 H
    refine nn ?_
    refine wSl H (j := 1) (hK := ?_)
    refine rRun_intro (s_head (by omega) hc _) (mSlice_mk (wEq (nn ?_)))
    refine wSl H (j := 1) (hK := ?_)
    refine rRun_intro (s_rest (by omega) _) (mSlice_mk (wEq ?_))
    refine wAL H fun b w4 H => ?_
    refine ⟨rRun_intro (s_rest (by omega) _) (mSlice_mk ⟨rfl, rfl⟩), ?_⟩
    refine wC H (b := rb) (j := 1) (hK := ?_)
    refine ⟨rRun_intro (s_head (by omega) hc _) (mSlice_mk ⟨rfl, rfl⟩), ?_⟩
    refine wC H (b := rb) (j := 1) (hK := ?_)
    have H := H.tail.nothing 82 3 (some ⟨b, 0, none⟩)
    have l1 : ((R.l.take i).flatMap RFile.cells).length = i * 3 := by rw [flat_length fcells_len, List.length_take]; omega
    have l2 : ((R.l.drop (i + 1)).flatMap RFile.cells).length = (R.l.length - (i + 1)) * 3 := by rw [flat_length fcells_len, List.length_drop]
    have hrs : Reads w4 3 (.slice R.a R.n R.c) (R.l.flatMap RFile.cells) := (H.get (i := 2) rfl : SliceAt _ 82 3 (.slice R.a R.n R.c) _).reads
    obtain ⟨n1, hn1, hs1⟩ := (r_head hrs (show i ≤ R.n by omega) hc).src (P := Try.prog) (tx := 54) elem_file.under (fun u hu => hone u (by obtain ⟨x, hx, hu⟩ := List.mem_flatMap.1 hu; exact List.mem_flatMap.2 ⟨x, List.mem_of_mem_take hx, hu⟩))
    refine append_own (t := 54) (n := n1) elem_file (i := 0) H rfl hs1 (by rw [l1]; simp; omega) (by decide) fun v' w5 H _ _ => ?_
    obtain ⟨ya, yn, yc, rfl, _⟩ := (H.get (i := 0) rfl : SliceAt _ _ _ _ _)
    rw [List.nil_append] at H
    refine mSlice_mk ⟨rRun_intro (s_rest (by omega) _) (mSlice_mk ⟨rfl, rfl⟩), ?_⟩
    have H : St w0 F w5 (sliceO 82 3 (.slice ya yn yc) ((R.l.take i).flatMap RFile.cells) :: pt rb (.cells #[.int .i64 size, .slice R.a R.n R.c, .int .i64 born] 56) :: rdS R :: rdM R.l :: L) := H
    refine wC H (b := rb) (j := 1) (hK := ?_)
    have hrs : Reads w5 3 (.slice R.a R.n R.c) (R.l.flatMap RFile.cells) := (H.get (i := 2) rfl : SliceAt _ 82 3 (.slice R.a R.n R.c) _).reads
    obtain ⟨n2, hn2, hs2⟩ := (r_rest hrs hn (show i + 1 ≤ R.n by omega) hc).src (P := Try.prog) (tx := 54) elem_file.under (fun u hu => hone u (by obtain ⟨x, hx, hu⟩ := List.mem_flatMap.1 hu; exact List.mem_flatMap.2 ⟨x, List.mem_of_mem_drop hx, hu⟩))
    refine append_own (t := 54) (n := n2) elem_file (i := 0) H rfl hs2 (by rw [l1, l2]; omega) (by decide) fun v' w6 H _ _ => ?_
    obtain ⟨za, zn, zc, rfl, _⟩ := (H.get (i := 0) rfl : SliceAt _ _ _ _ _)
    have e2 : (R.l.take i).flatMap RFile.cells ++ (R.l.drop (i + 1)).flatMap RFile.cells = (R.l.eraseIdx i).flatMap RFile.cells := by
      rw [← List.flatMap_append, List.eraseIdx_eq_take_drop_succ]
    rw [e2] at H
    have H : St w0 F w6 (sliceO 82 3 (.slice za zn zc) ((R.l.eraseIdx i).flatMap RFile.cells) :: pt rb (.cells #[.int .i64 size, .slice R.a R.n R.c, .int .i64 born] 56) :: rdS R :: rdM R.l :: L) := H
    refine mSlice_mk (nn ?_)
    refine wST H (j := 1) (hK := ?_)
    intro w7 H _
    have H := ((H.front (rdS R)).tail.front (rdM R.l))
    have hp : (R.l.map RFile.own).Perm (f.own :: (R.l.eraseIdx i).map RFile.own) := by
      have := (perm_front (L := R.l) hf).map RFile.own
      simpa using this
    have H := St.out H hp
    have H := ((H.front (rdM (R.l.eraseIdx i))).front (sliceO 82 3 (.slice za zn zc) ((R.l.eraseIdx i).flatMap RFile.cells))).front (pt rb (.cells #[.int .i64 size, .slice za zn zc, .int .i64 born] 56))
    refine hK f (by rw [hi]; exact hf) hname _ ⟨za, zn, zc, R.l.eraseIdx i⟩ ?_ (List.eraseIdx_sublist R.l i).length_le (St.rdClose (R := ⟨za, zn, zc, R.l.eraseIdx i⟩) H)
    rw [adel_fnd hs hg, hi]
    unfold RD.A
    rw [map_eraseIdx']
  · have hg : aget R.A s = none := by
      cases hq : aget R.A s with
      | none => rfl
      | some x => rw [hq] at hg; cases hg
    exact h0 hg w2 H.rdClose

theorem rName_walk (s : ByteArray) {K : Value → World → Prop} (hK : K (.bool (nameOk s)) w) : CallR Try.prog fn_glacierref2_Name #[.string s] w K := by
  refine glacierref2_Name_sound _ _ _ ?_
  have no : nameOk s = false → K (.bool false) w := fun h => by rw [h] at hK; exact hK
  have yes : nameOk s = true → K (.bool true) w := fun h => by rw [h] at hK; exact hK
  refine br (fun h => no ?_) (fun h1 => br (fun h => no ?_) (fun h2 => ?_))
  · have h1 : s.size < 1 := by simp at h; omega
    simp [nameOk, show ¬ 1 ≤ s.size by omega]
  · have h1 : ¬ s.size ≤ 64 := by simp at h; omega
    simp [nameOk, h1]
  have hl1 : 1 ≤ s.size := by simp at h1; omega
  have hl2 : s.size ≤ 64 := by simp at h2; omega
  refine wLoop (fun k x w' => w' = w ∧ ∃ i : Nat, k + i = s.size ∧ x = (s, (i : Int)) ∧ (∀ j c, j < i → s.data.toList[j]? = some c → okc c = true)) ⟨s.size, rfl, 0, by omega, rfl, fun j c hj _ => by omega⟩ ?_
  rintro k x w' ⟨rfl, i, hk, rfl, hall⟩
  have hlen : s.data.toList.length = s.size := Array.length_toList
  refine br (fun h => ?_) (fun h => ?_)
  · have hi : i < s.size := by simp at h; omega
    obtain ⟨c, hc⟩ : ∃ c, s.data.toList[i]? = some c := ⟨_, List.getElem?_eq_getElem (by omega)⟩
    refine wSIX hc rfl ?_
    have hw : IntKind.wrap .i64 ((i : Int) + 1) = ((i + 1 : Nat) : Int) := by rw [wrap_id (by omega) (by omega)]; rfl
    have good : okc c = true → ∃ k', k' < k ∧ w' = w' ∧ ∃ i' : Nat, k' + i' = s.size ∧ (s, IntKind.wrap .i64 ((i : Int) + 1)) = (s, (i' : Int)) ∧ (∀ j c, j < i' → s.data.toList[j]? = some c → okc c = true) := by
      intro hok
      refine ⟨k - 1, by omega, rfl, i + 1, by omega, by rw [hw], fun j d hj hd => ?_⟩
      by_cases hji : j = i
      · subst hji; rw [hc] at hd; cases hd; exact hok
      · exact hall j d (by omega) hd
    have bad : okc c = false → K (.bool false) w' := by
      intro hno
      refine no ?_
      have : s.data.toList.all okc = false := List.all_eq_false.2 ⟨c, List.mem_of_getElem? hc, by rw [hno]; decide⟩
      simp [nameOk, this]
    have e : okc c = (decide ((c.toNat : Int) ≥ 97) && decide ((c.toNat : Int) ≤ 122) || decide ((c.toNat : Int) ≥ 48) && decide ((c.toNat : Int) ≤ 57) || (c.toNat : Int) == 45 || (c.toNat : Int) == 46) := by
      unfold okc
      have a1 : decide (97 ≤ c.toNat) = decide ((c.toNat : Int) ≥ 97) := by simp; omega
      have a2 : decide (c.toNat ≤ 122) = decide ((c.toNat : Int) ≤ 122) := by simp; omega
      have a3 : decide (48 ≤ c.toNat) = decide ((c.toNat : Int) ≥ 48) := by simp; omega
      have a4 : decide (c.toNat ≤ 57) = decide ((c.toNat : Int) ≤ 57) := by simp; omega
      have a5 : (c.toNat == 45) = ((c.toNat : Int) == 45) := by rw [Bool.eq_iff_iff]; simp; omega
      have a6 : (c.toNat == 46) = ((c.toNat : Int) == 46) := by rw [Bool.eq_iff_iff]; simp; omega
      rw [a1, a2, a3, a4, a5, a6]
    rw [e] at good bad
    clear e hall hc hK no yes
    cases x1 : decide ((c.toNat : Int) ≥ 97) <;> cases x2 : decide ((c.toNat : Int) ≤ 122) <;> cases x3 : decide ((c.toNat : Int) ≥ 48) <;> cases x4 : decide ((c.toNat : Int) ≤ 57) <;> cases x5 : ((c.toNat : Int) == 45) <;> cases x6 : ((c.toNat : Int) == 46) <;>
      simp only [x1, x2, x3, x4, x5, x6] at good bad ⊢ <;>
      (repeat (first | exact good rfl | exact bad rfl | refine br (fun hx => ?_) (fun hx => ?_) | (cases hx)))
  · have hi : s.size ≤ i := by simp at h; omega
    refine yes ?_
    have : s.data.toList.all okc = true := List.all_eq_true.2 fun c hc => by
      obtain ⟨j, hj⟩ := List.getElem?_of_mem hc
      exact hall j c (by have := (List.getElem?_eq_some_iff.1 hj).1; omega) hj
    simp [nameOk, this, hl1, hl2]
theorem begins_walk {s p : ByteArray} {K : Value → World → Prop} (hK : K (.bool (hasPre s p)) w) : CallR Try.prog fn_glacierref2_begins #[.string s, .string p] w K := by
  refine glacierref2_begins_sound _ _ _ _ ?_
  refine br (fun h => ?_) (fun h => ?_)
  · have hle : p.size ≤ s.size := by simpa using h
    refine rRun_intro (v := .string (s.extract 0 p.size)) (w' := w) ?_ (mStr_mk ?_)
    · rw [run_sliceAt_string w 9 _ _ _ _ Try.underlying9]
      rw [run_slice_string_h w 9 s Try.underlying9 .i64 (p.size : Int) (by omega) (by omega)]
      simp
    · have e : ((s.extract 0 p.size).toList == p.toList) = hasPre s p := by
        rw [Bool.eq_iff_iff, beq_iff_eq]
        unfold hasPre lettersOf
        rw [List.isPrefixOf_iff_prefix, List.prefix_iff_eq_take]
        rw [ByteArray.toList_eq, ByteArray.toList_eq]
        simp only [ByteArray.data_extract, Array.toList_extract, List.extract_eq_take_drop, List.drop_zero, Nat.sub_zero, Array.length_toList]
        exact ⟨fun h => h.symm, fun h => h.symm⟩
      rw [e]; exact hK
  · have hlt : s.size < p.size := by simp at h; omega
    have e : hasPre s p = false := by
      rw [Bool.eq_false_iff]
      intro h
      have := (List.isPrefixOf_iff_prefix.1 h).length_le
      have h1 : (lettersOf p).length = p.size := Array.length_toList
      have h2 : (lettersOf s).length = s.size := Array.length_toList
      omega
    rw [e] at hK; exact hK
end
end Go.Proofs.Ytimgbkabfkdabaa

/- The reference's disk in memory: Append, all, Sync, Read, Unsynced, Lose. -/
namespace Go.Proofs.Ytimgbkabfkdabaa
open Go.Sh
attribute [local irreducible] rRun LDI LDB LDS LDP LDSl LDM LD Go.Sh.ST AL ALM LetW CallR CallV CallI NN IX SIX Br Req mInt mBool mStr mPtr mSlice mMap mAgg mTup mCons mNil mNth mPA LoopS

section
variable {w0 w : World} {F : List Nat} {L M : List Own} {rb : Nat} {size born : Int} {R : RD}
theorem usedOf_some {A : List AF} {s : ByteArray} {x : List UInt8 × Nat} (h : aget A s = some x) : usedOf A s = x := by unfold usedOf; rw [h]; rfl
theorem usedOf_none {A : List AF} {s : ByteArray} (h : aget A s = none) : usedOf A s = ([], 0) := by unfold usedOf; rw [h]; rfl
theorem used_le {A : List AF} (hs : Srt A) (s : ByteArray) : (usedOf A s).1.length ≤ totA A := by
  have h := totA_ins hs s ([], 0)
  simp at h
  omega
theorem append_tail {q va_n va_c bn bc syn : Nat} {va b : Option Addr} {s : ByteArray} {old bs : List UInt8} {K : Value → World → Prop} (hl : R.l.length ≤ 900000) (hs : Srt R.A)
    (ho : Reads w 1 (.slice va va_n va_c) (bvals old)) (hb : ∀ w' L', St w0 F w' L' → Reads w' 1 (.slice b bn bc) (bvals bs)) (hol : old.length ≤ 1000000000000) (hbl : bs.length ≤ 1000000000000)
    (H : St w0 F w (pt q (.cells #[.string s, .slice va va_n va_c, .int .i64 syn] 82) :: rdO rb size born R :: L))
    (hK : ∀ w' R', R'.A = insA s (old ++ bs, syn) R.A → St w0 F w' (rdO rb size born R' :: L) → K (.int .i64 0) w') :
    glacierref2_Disk_Append_b0 (some ⟨rb, 0, none⟩) b bn bc ⟨q, 0, none⟩ K w := by
  refine al H fun b2 w1 _ hf1 H => ?_
  have ho : Reads w1 1 (.slice va va_n va_c) (bvals old) := ho.of fun x hx => hf1.block x (ho.lt (by decide) x hx) (by simp)
  refine wSl H (j := 1) (b := q) (hK := ?_)
  have H := H.tail.nothing 5 1 (some ⟨b2, 0, none⟩)
  obtain ⟨n1, hn1, hs1⟩ := ho.src (P := Try.prog) (tx := 30) elem_bytes.under (bvals_one old)
  refine append_own (t := 30) (n := n1) elem_bytes (i := 0) H rfl hs1 (by simp; omega) (by decide) fun v' w2 H _ _ => ?_
  obtain ⟨ya, yn, yc, rfl, _⟩ := (H.get (i := 0) rfl : SliceAt _ _ _ _ _)
  rw [List.nil_append] at H
  refine mSlice_mk ?_
  obtain ⟨n2, hn2, hs2⟩ := (hb _ _ H).src (P := Try.prog) (tx := 30) elem_bytes.under (bvals_one bs)
  refine append_own (t := 30) (n := n2) elem_bytes (i := 0) H rfl hs2 (by simp; omega) (by decide) fun v' w3 H _ _ => ?_
  obtain ⟨za, zn, zc, rfl, _⟩ := (H.get (i := 0) rfl : SliceAt _ _ _ _ _)
  rw [← bvals_append] at H
  have H : St w0 F w3 (sliceO 5 1 (.slice za zn zc) (bvals (old ++ bs)) :: pt q (.cells #[.string s, .slice va va_n va_c, .int .i64 syn] 82) :: rdO rb size born R :: L) := H
  repeat (first | refine nn ?_ | refine wI H (hK := ?_) | refine wP H (hK := ?_) | refine wM H (hK := ?_) | refine wSl H (hK := ?_) | refine wB H (hK := ?_) | refine wS H (hK := ?_) | refine wEq ?_ | refine wC H (hK := ?_) | (refine wLW H ?_; intro w1 H) | (refine wST H (hK := ?_); intro w1 H _) | refine mSlice_mk ?_ | refine mInt_mk ?_ | refine mBool_mk ?_ | refine mTup_mk ?_ | refine mCons_mk ?_ | refine mNil_mk ?_ | refine mAgg_mk ?_ | refine mPtr_mk ?_ | refine mStr_mk ?_)
  have H := ((H.front (RFile.own ⟨s, .slice za zn zc, old ++ bs, syn⟩)).front (rdO rb size born R))
  refine put_walk (f := ⟨s, .slice za zn zc, old ++ bs, syn⟩) rfl hl hs H fun w5 R' hR H => ?_
  exact mTup_mk (mNil_mk (hK w5 R' hR (H.front (pt q (.cells #[.string s, .slice za zn zc, .int .i64 syn] 82))).tail))

theorem rAppend_spec {s : ByteArray} {b : Option Addr} {bn bc : Nat} {bs : List UInt8} (hA : Has w [rdO rb size born R]) (hl : R.l.length ≤ 900000) (hs : Srt R.A) (ht : totA R.A ≤ 1000000000000) (hsz : 0 ≤ size ∧ size ≤ 1000000000000)
    (hb : Ext w [rdO rb size born R] 1 (.slice b bn bc) (bvals bs)) (hbl : bs.length ≤ 1000000000000) :
    CallS Try.prog fn_glacierref2_Disk_Append #[.pointer (some ⟨rb, 0, none⟩), .string s, .slice b bn bc] w [rdO rb size born R] fun r _ A =>
      (nameOk s = false ∧ r = .int .i64 1 ∧ A = [rdO rb size born R]) ∨
      (nameOk s = true ∧ (bs.length : Int) > size - totA R.A ∧ r = .int .i64 5 ∧ A = [rdO rb size born R]) ∨
      (nameOk s = true ∧ (bs.length : Int) ≤ size - totA R.A ∧ r = .int .i64 0 ∧ ∃ R', R'.A = insA s ((usedOf R.A s).1 ++ bs, (usedOf R.A s).2) R.A ∧ A = [rdO rb size born R']) := by
  have hbn : bn = bs.length := by have := hb.1.len; simpa using this
  subst hbn
  refine CallS_intro hA fun H => glacierref2_Disk_Append_sound _ _ _ _ _ _ _ ?_
  refine rName_walk s (mBool_mk ?_)
  refine br (fun hno => ⟨_, .inl ⟨by simpa using hno, rfl, rfl⟩, H⟩) (fun hok => ?_)
  have hok : nameOk s = true := by simpa using hok
  refine wLW H ?_
  intro w1 H
  have H := H.rdOpen
  refine wEq (nn ?_)
  refine wI H (j := 0) (hK := ?_)
  refine rUsed_walk H (by omega) ht (mInt_mk ?_)
  refine ⟨H.at (j := 0) rfl (.head _) rfl, ⟨rfl, rfl⟩, ?_⟩
  have hw : IntKind.wrap .i64 (size - (totA R.A : Int)) = size - (totA R.A : Int) := wrap_id (by omega) (by omega)
  rw [hw]
  refine br (fun hf => ⟨_, .inr (.inl ⟨hok, by simpa using hf, rfl, rfl⟩), H.rdClose⟩) (fun hf => ?_)
  have hfit : (bs.length : Int) ≤ size - totA R.A := by simpa using hf
  refine find_walk H (by omega) hs fun w2 _ H => ?_
  refine mTup_mk (mCons_mk (mInt_mk (mCons_mk (mBool_mk (mNil_mk ?_)))))
  refine wAL H fun q w3 H => ?_
  have H : St w (fps [rdO rb size born R]) w3 [pt q (.cells #[.string ⟨#[]⟩, .slice none 0 0, .int .i64 0] 82), rdP rb size born R, rdS R, rdM R.l] := H
  refine wST H (b := q) (j := 0) (hK := ?_)
  intro w4 H _
  refine wST H (b := q) (j := 1) (hK := ?_)
  intro w5 H _
  refine wST H (b := q) (j := 2) (hK := ?_)
  intro w6 H _
  have hul := used_le hs s
  have hbr : ∀ w' L', St w (fps [rdO rb size born R]) w' L' → Reads w' 1 (.slice b bs.length bc) (bvals bs) := fun w' L' H => hb.reads (by decide) H.fr
  have hrm : ∀ {w'}, St w (fps [rdO rb size born R]) w' [pt q (.cells #[.string s, .slice none 0 0, .int .i64 0] 82), rdP rb size born R, rdS R, rdM R.l] → St w (fps [rdO rb size born R]) w' (rdP rb size born R :: rdS R :: rdM R.l :: [pt q (.cells #[.string s, .slice none 0 0, .int .i64 0] 82)]) :=
    fun H => ((H.front (rdM R.l)).front (rdS R)).front (rdP rb size born R)
  refine br (fun hg => ?_) (fun hg => ?_)
  · obtain ⟨x, hx⟩ := Option.isSome_iff_exists.1 hg
    have hAx := (fnd_spec hs).1 x hx
    rw [RD.get] at hAx
    obtain ⟨f, hf, hfx⟩ := Option.map_eq_some_iff.1 hAx
    have hname : f.name = s := congrArg Prod.fst hfx
    have hxe : x = (f.bs, f.syn) := (congrArg Prod.snd hfx).symm
    rw [usedOf_some hx, hxe] at hul ⊢
    have Ho := hrm H
    refine nn ?_
    refine wSl Ho (j := 1) (b := rb) (hK := ?_)
    refine wIXf Ho hf rfl fun ad c0 c1 c2 => ?_
    obtain ⟨va, vc, hv⟩ := file_val Ho (List.mem_of_getElem? hf)
    rw [hv] at c1
    rw [hname] at c0
    refine ldS c0 (ldSl c1 (ldI c2 ?_))
    clear c0 c1 c2
    refine wST H (b := q) (j := 0) (hK := ?_)
    intro w7 H _
    refine wST H (b := q) (j := 1) (hK := ?_)
    intro w8 H _
    refine wST H (b := q) (j := 2) (hK := ?_)
    intro w9 H _
    have Ho : St w (fps [rdO rb size born R]) w9 (rdP rb size born R :: rdS R :: rdM R.l :: [pt q (.cells #[.string s, .slice va f.bs.length vc, .int .i64 f.syn] 82)]) := ((H.front (rdM R.l)).front (rdS R)).front (rdP rb size born R)
    have hfs := file_slice Ho (List.mem_of_getElem? hf)
    rw [hv] at hfs
    have H := (Ho.rdClose).front (pt q (.cells #[.string s, .slice va f.bs.length vc, .int .i64 f.syn] 82))
    refine append_tail hl hs hfs.reads hbr (by simp only at hul; omega) hbl H fun w' R' hR H => ?_
    exact ⟨_, .inr (.inr ⟨hok, hfit, rfl, R', hR, rfl⟩), H⟩
  · have hg : aget R.A s = none := by
      cases hq : aget R.A s with
      | none => rfl
      | some x => rw [hq] at hg; cases hg
    rw [usedOf_none hg]
    have H := (hrm H).rdClose.front (pt q (.cells #[.string s, .slice none 0 0, .int .i64 0] 82))
    refine append_tail (old := []) (syn := 0) hl hs ⟨_, _, _, rfl, rfl, Nat.le_refl _, .inl rfl⟩ hbr (by simp) hbl H fun w' R' hR H => ?_
    exact ⟨_, .inr (.inr ⟨hok, hfit, rfl, R', hR, rfl⟩), H⟩

theorem rall_walk {na : Option Addr} {nc : Nat} {ns : List ByteArray} {K : Value → World → Prop} (H : St w0 F w (rdP rb size born R :: rdS R :: rdM R.l :: L)) (hl : R.l.length ≤ 900000) (hs : Srt R.A) (hnl : ns.length ≤ 1000000000000)
    (hb : ∀ w' L', St w0 F w' L' → Reads w' 1 (.slice na ns.length nc) (strs ns))
    (hK : ∀ w', St w0 F w' (rdP rb size born R :: rdS R :: rdM R.l :: L) → K (.bool (allA R.A ns)) w') :
    CallR Try.prog fn_glacierref2_Disk_all #[.pointer (some ⟨rb, 0, none⟩), .slice na ns.length nc] w K := by
  refine glacierref2_Disk_all_sound _ _ _ _ _ _ ?_
  refine wLoop (fun k x w' => ∃ i : Nat, k + i = ns.length ∧ x = (some ⟨rb, 0, none⟩, na, ns.length, nc, (i : Int)) ∧ (∀ j s, j < i → ns[j]? = some s → (aget R.A s).isSome = true) ∧ St w0 F w' (rdP rb size born R :: rdS R :: rdM R.l :: L)) ?_ ?_
  · exact ⟨ns.length, 0, by omega, rfl, fun j s hj _ => by omega, H⟩
  clear H
  rintro k x w1 ⟨i, hk, rfl, hall, H⟩
  refine br (fun h => ?_) (fun h => ?_)
  · have hi : i < ns.length := by simp at h; omega
    obtain ⟨s, hs'⟩ : ∃ s, ns[i]? = some s := ⟨_, List.getElem?_eq_getElem hi⟩
    refine wIXr (hb _ _ H) (i := i) (by simpa [strs] using hi) rfl fun ad had => ?_
    refine ldS (had.trans (show (strs ns)[i]? = some (.string s) by simp [strs, hs'])) ?_
    refine find_walk H (by omega) hs fun w2 _ H => ?_
    refine mTup_mk (mCons_mk (mInt_mk (mCons_mk (mBool_mk (mNil_mk ?_)))))
    refine br (fun hno => ?_) (fun hyes => ?_)
    · have e : allA R.A ns = false := List.all_eq_false.2 ⟨s, List.mem_of_getElem? hs', by simpa using hno⟩
      have := hK _ H
      rw [e] at this
      exact this
    · have hw : IntKind.wrap .i64 ((i : Int) + 1) = ((i + 1 : Nat) : Int) := by rw [wrap_id (by omega) (by omega)]; rfl
      refine ⟨k - 1, by omega, i + 1, by omega, by rw [hw], fun j t hj htt => ?_, H⟩
      by_cases hji : j = i
      · subst hji
        rw [hs'] at htt
        cases htt
        simpa using hyes
      · exact hall j t (by omega) htt
  · have hi : ns.length ≤ i := by simp at h; omega
    have e : allA R.A ns = true := List.all_eq_true.2 fun s hs => by
      obtain ⟨j, hj⟩ := List.getElem?_of_mem hs
      exact hall j s (by have := (List.getElem?_eq_some_iff.1 hj).1; omega) hj
    have := hK _ H
    rw [e] at this
    exact this
end
end Go.Proofs.Ytimgbkabfkdabaa
