/- Names sorted; HasPrefix; ContainsFunc over names; List. -/
import Derived.Test.YtimgbkabfkdabaaHS
namespace Go.Proofs.Ytimgbkabfkdabaa
open Go.Sh
attribute [local irreducible] rRun LDI LDB LDS LDP LDSl LDM LD Go.Sh.ST AL ALM LetW CallR CallV CallI NN IX SIX Br Req mInt mBool mStr mPtr mSlice mMap mAgg mTup mCons mNil mNth mPA LoopS

theorem perm_sorted {l l' : List (List UInt8)} (h : l.Perm l') : (l.mergeSort fun x y => decide (x ≤ y)) = l'.mergeSort fun x y => decide (x ≤ y) := by
  have tr : ∀ a b c : List UInt8, (decide (a ≤ b)) = true → (decide (b ≤ c)) = true → (decide (a ≤ c)) = true := fun a b c h1 h2 => by
    rw [decide_eq_true_eq] at *; exact List.le_trans h1 h2
  have to : ∀ a b : List UInt8, (decide (a ≤ b) || decide (b ≤ a)) = true := fun a b => by
    rw [Bool.or_eq_true, decide_eq_true_eq, decide_eq_true_eq]; exact List.le_total a b
  refine List.Perm.eq_of_pairwise (le := fun a b => decide (a ≤ b) = true) (fun a b _ _ h1 h2 => ?_) (List.pairwise_mergeSort tr to l) (List.pairwise_mergeSort tr to l') (((List.mergeSort_perm l _).trans h).trans (List.mergeSort_perm l' _).symm)
  rw [decide_eq_true_eq] at h1 h2
  exact List.le_antisymm h1 h2
def lettersOf (s : ByteArray) : List UInt8 := s.data.toList
def textOf (l : List UInt8) : ByteArray := ⟨l.toArray⟩
@[simp] theorem textOf_letters (s : ByteArray) : textOf (lettersOf s) = s := by cases s; rfl
@[simp] theorem letters_textOf (l : List UInt8) : lettersOf (textOf l) = l := by simp [textOf, lettersOf]
def sortB (ns : List ByteArray) : List ByteArray := ((ns.map lettersOf).mergeSort fun x y => decide (x ≤ y)).map textOf
theorem sortB_perm {l l' : List ByteArray} (h : l.Perm l') : sortB l = sortB l' := by
  unfold sortB; rw [perm_sorted (h.map _)]
theorem sortB_permOf (l : List ByteArray) : (sortB l).Perm l := by
  have h : (sortB l).Perm ((l.map lettersOf).map textOf) := (List.mergeSort_perm _ _).map _
  have e : (l.map lettersOf).map textOf = l := by
    rw [List.map_map]
    conv => rhs; rw [← List.map_id l]
    apply List.map_congr_left
    intro x _
    simp
  rwa [e] at h
@[simp] theorem sortB_nil : sortB [] = [] := by simp [sortB]
theorem strs_enc (ns : List ByteArray) : strs ns = (ns.map lettersOf).map encStr := by
  rw [List.map_map]
  rfl

def hasPre (s p : ByteArray) : Bool := (lettersOf p).isPrefixOf (lettersOf s)
section
variable {w0 w : World} {F : List Nat} {L R : List Own}
theorem HasPrefix_walk {s p : ByteArray} {K : Value → World → Prop} (hK : K (.bool (hasPre s p)) w) : CallR Try.prog fn_strings_HasPrefix #[.string s, .string p] w K := by
  refine strings_HasPrefix_sound _ _ _ _ ?_
  refine internal_stringslite_HasPrefix_sound _ _ _ _ ?_
  refine br (fun h => ?_) (fun h => ?_)
  · have hle : p.size ≤ s.size := by simpa using h
    refine rRun_intro (v := .string (s.extract 0 p.size)) (w' := w) ?_ (mStr_mk (mBool_mk ?_))
    · rw [run_sliceAt_string w 9 _ _ _ _ Try.underlying9]
      rw [run_slice_string_h w 9 s Try.underlying9 .i64 (p.size : Int) (by omega) (by omega)]
      simp
    · have e : ((s.extract 0 p.size).toList == p.toList) = hasPre s p := by
        rw [Bool.eq_iff_iff, beq_iff_eq]
        unfold hasPre lettersOf
        rw [List.isPrefixOf_iff_prefix, List.prefix_iff_eq_take]
        rw [ByteArray.toList_eq, ByteArray.toList_eq]
        simp only [ByteArray.data_extract, Array.toList_extract, List.extract_eq_take_drop, List.drop_zero, Nat.sub_zero, Array.length_toList]
        exact ⟨fun h => h.symm, fun h => h.symm⟩
      rw [e]; exact hK
  · have hlt : s.size < p.size := by simp at h; omega
    refine mBool_mk ?_
    have e : hasPre s p = false := by
      rw [Bool.eq_false_iff]
      intro h
      have := (List.isPrefixOf_iff_prefix.1 h).length_le
      have h1 : (lettersOf p).length = p.size := Array.length_toList
      have h2 : (lettersOf s).length = s.size := Array.length_toList
      omega
    rw [e] at hK; exact hK

/-- ContainsFunc over names, by a function that tells p. -/
theorem ContainsFunc_walk {na : Option Addr} {nc : Nat} {ns : List ByteArray} {g : Value} {p : ByteArray → Bool} {K : Value → World → Prop} (H : St w0 F w L) (hl : ns.length ≤ 1000000000000)
    (hb : ∀ w', St w0 F w' L → Reads w' 1 (.slice na ns.length nc) (strs ns))
    (hg : ∀ s w' K, St w0 F w' L → (∀ w'', St w0 F w'' L → K (.bool (p s)) w'') → CallV Try.prog g [.string s] w' K)
    (hK : ∀ w', St w0 F w' L → K (.bool (ns.any p)) w') : CallR Try.prog fn_slices_ContainsFunc_s_string_string #[.slice na ns.length nc, g] w K := by
  refine slices_ContainsFunc_s_string_string_sound _ _ _ _ _ _ ?_
  refine slices_IndexFunc_s_string_string_sound _ _ _ _ _ _ ?_
  refine wLoop (fun k x w' => ∃ i : Nat, k + i = ns.length ∧ x = (na, ns.length, nc, g, (ns.length : Int), (i : Int)) ∧ (∀ j s, j < i → ns[j]? = some s → p s = false) ∧ St w0 F w' L) ?_ ?_
  · exact ⟨ns.length, 0, by omega, rfl, fun j s hj _ => by omega, H⟩
  clear H
  rintro k x w1 ⟨i, hk, rfl, hall, H⟩
  refine br (fun h => ?_) (fun h => ?_)
  · have hi : i < ns.length := by simp at h; omega
    obtain ⟨s, hs⟩ : ∃ s, ns[i]? = some s := ⟨_, List.getElem?_eq_getElem hi⟩
    refine wIXr (hb _ H) (i := i) (by simpa [strs] using hi) rfl fun ad had => ?_
    have hcell : (strs ns)[i]? = some (.string s) := by simp [strs, hs]
    rw [hcell] at had
    refine ldS had ?_
    refine hg s _ _ H fun w2 H => ?_
    refine mBool_mk (br (fun hyes => ?_) (fun hno => ?_))
    · refine mInt_mk ?_
      have hd : decide ((i : Int) ≥ 0) = true := by simp
      have hf : ns.any p = true := List.any_eq_true.2 ⟨s, List.mem_of_getElem? hs, hyes⟩
      have h := hK _ H
      rw [hf] at h
      show K (.bool (decide ((i : Int) ≥ 0))) w2
      rw [hd]; exact h
    · have hw : IntKind.wrap .i64 ((i : Int) + 1) = ((i + 1 : Nat) : Int) := by rw [wrap_id (by omega) (by omega)]; rfl
      show ∃ k', k' < k ∧ _
      refine ⟨k - 1, by omega, i + 1, by omega, by rw [hw], fun j t hj ht => ?_, H⟩
      by_cases hji : j = i
      · subst hji
        rw [hs] at ht
        cases ht
        exact hno
      · exact hall j t (by omega) ht
  · have hi : ns.length ≤ i := by simp at h; omega
    have ht : ns.any p = false := List.any_eq_false.2 fun s hs => by
      obtain ⟨j, hj⟩ := List.getElem?_of_mem hs
      rw [hall j s (by have := (List.getElem?_eq_some_iff.1 hj).1; omega) hj]; decide
    refine mInt_mk ?_
    have hd : decide ((-1 : Int) ≥ 0) = false := by decide
    have h := hK _ H
    rw [ht] at h
    rw [hd]; exact h

/-- The names that List tells, in no order. -/
def want (ps : List ByteArray) (s : ByteArray) : Bool := ps.isEmpty || ps.any fun p => hasPre s p
def listed (ps : List ByteArray) (l : Files) : List ByteArray := sortB ((l.map (·.1)).filter (want ps))

theorem sort_nothing {w : World} {x : Option Addr} {c : Nat} {K : Value → World → Prop} (hK : K (.tuple #[]) w) : CallR Try.prog fn_slices_Sort_s_string_string #[.slice x 0 c] w K := by
  refine slices_Sort_s_string_string_sound _ _ _ _ _ ?_
  unfold slices_Sort_s_string_string_b0
  rw [show IntKind.wrap .u64 ((0 : Nat) : Int) = 0 by decide]
  refine math_bits_Len_sound _ _ _ (math_bits_Len64_sound _ _ _ ?_)
  refine br (fun h => by simp at h) (fun _ => ?_)
  refine br (fun h => by simp at h) (fun _ => ?_)
  refine br (fun h => by simp at h) (fun _ => ?_)
  unfold SIX
  refine ⟨0, by decide, by kernel_rfl, ?_⟩
  refine mInt_mk (mInt_mk ?_)
  refine slices_pdqsortOrdered_string_sound _ _ _ _ _ _ _ _ ?_
  refine wLoop (fun k x' w' => x' = (x, 0, c, 0, 0, IntKind.wrap .i64 (0 + IntKind.wrap .i64 (UInt8.toNat 0 : Int)), true, true) ∧ w' = w) ⟨0, rfl, rfl⟩ ?_
  rintro k x' w' ⟨rfl, rfl⟩
  refine br (fun _ => ?_) (fun h => absurd (show decide (IntKind.wrap .i64 ((0 : Int) - 0) ≤ 12) = false from h) (by decide))
  refine slices_insertionSortOrdered_string_sound _ _ _ _ _ _ _ ?_
  refine wLoop (fun k x'' w' => x'' = (x, 0, c, 0, 0, IntKind.wrap .i64 (0 + 1)) ∧ K (.tuple #[]) w') ⟨0, rfl, hK⟩ ?_
  rintro k x'' w' ⟨rfl, hK⟩
  refine br (fun h => absurd (show decide (IntKind.wrap .i64 ((0 : Int) + 1) < 0) = true from h) (by decide)) (fun _ => ?_)
  exact mTup_mk (mNil_mk (mTup_mk (mNil_mk hK)))

theorem elem_str : ElemTy Try.prog 28 9 1 16 := elemTy_of (by kernel_rfl) (by kernel_rfl)
theorem perm_keys {β : Type} {l : List (ByteArray × β)} {k : ByteArray} {v : β} (h : aget l k = some v) : (l.map (·.1)).Perm (k :: (adel l k).map (·.1)) :=
  perm_aget (fun e : ByteArray × β => e.1) h
theorem adel_len {β : Type} {l : List (ByteArray × β)} {k : ByteArray} {v : β} (h : aget l k = some v) : (adel l k).length + 1 = l.length := by
  have := (perm_keys h).length_eq
  simpa using this.symm

/-- What List holds as it goes over the files. -/
theorem List_spec {db bm : Nat} {size used born : Int} {l : Files} {pa : Option Addr} {pn pc : Nat} {ps : List ByteArray} (hA : Has w [diskO db bm size used born l])
    (hp : Ext w [diskO db bm size used born l] 1 (.slice pa pn pc) (strs ps)) (hps : ps.length ≤ 1000000000000) (hl : l.length ≤ 1000000000) :
    CallS Try.prog fn_disk_Disk_List #[.pointer (some ⟨db, 0, none⟩), .slice pa pn pc] w [diskO db bm size used born l] fun r _ A =>
      ∃ a n c, r = .slice a n c ∧ A = [sliceO 9 1 (.slice a n c) (strs (listed ps l)), diskO db bm size used born l] := by
  have hpn : pn = ps.length := by
    obtain ⟨⟨_, _, _, he, h1, _⟩, _⟩ := hp
    cases he
    simpa [strs] using h1
  subst hpn
  refine CallS_intro hA fun H => disk_Disk_List_sound _ _ _ _ _ _ ?_
  have H := H.diskOpen
  refine nn ?_
  refine wM H (hK := ?_)
  refine range_own map_str (i := 1) H rfl fun w1 r H _ => ?_
  have H := H.nothing 9 1 none
  have hrd : ∀ {w'} {L}, St w (fps [diskO db bm size used born l]) w' L → Reads w' 1 (.slice pa ps.length pc) (strs ps) := fun H => hp.reads (by decide) H.fr
  refine wLoop (fun k s w' => ∃ (o : List ByteArray) (oa : Option Addr) (on oc : Nat) (rest : List (ByteArray × Value)), k = rest.length ∧ s = (pa, ps.length, pc, oa, on, oc, .pointer (some ⟨r, 0, none⟩)) ∧
    (o ++ (rest.map (·.1)).filter (want ps)).Perm ((l.map (·.1)).filter (want ps)) ∧ o.length + rest.length ≤ l.length ∧
    St w (fps [diskO db bm size used born l]) w' [sliceO 9 1 (.slice oa on oc) (strs o), pt db (.cells #[.int .i64 size, .int .i64 used, .int .i64 born, .map (some bm)] 67), rangeO strV bm r (ptrs l) rest, filesO l]) ?_ ?_
  · have e : (ptrs l).map (·.1) = l.map (·.1) := by unfold ptrs; rw [List.map_map]; rfl
    exact ⟨_, [], none, 0, 0, ptrs l, rfl, rfl, by rw [e]; exact .refl _, by simp [ptrs], H⟩
  clear H
  rintro k s w1 ⟨o, oa, on, oc, rest, rfl, rfl, hperm, hlen, H⟩
  refine next_own (i := 2) H rfl (fun hnil w1 H _ => ?_) (fun s v hr hlk w1 H _ hent => ?_)
  · refine mTup_mk (mNth_mk rfl (mBool_mk (br (fun h => by cases h) (fun _ => ?_))))
    subst hnil
    have hperm : o.Perm ((l.map (·.1)).filter (want ps)) := by simpa using hperm
    have hon : on = o.length := by
      obtain ⟨_, _, _, he, h1, _⟩ := (H.get (i := 0) rfl : SliceAt _ 9 1 _ _)
      cases he
      simpa [strs] using h1
    have fin : ∀ w', St w (fps [diskO db bm size used born l]) w' [sliceO 9 1 (.slice oa on oc) (strs (sortB o)), pt db (.cells #[.int .i64 size, .int .i64 used, .int .i64 born, .map (some bm)] 67), rangeO strV bm r (ptrs l) [], filesO l] →
        ∃ A', (∃ a n c, (.slice oa on oc : Value) = .slice a n c ∧ A' = [sliceO 9 1 (.slice a n c) (strs (listed ps l)), diskO db bm size used born l]) ∧ St w (fps [diskO db bm size used born l]) w' A' := by
      intro w' H
      have H := range_done H (i := 2) rfl
      have e : listed ps l = sortB o := (sortB_perm hperm).symm
      refine ⟨_, ⟨oa, on, oc, rfl, rfl⟩, ?_⟩
      rw [e]
      have H2 : St w (fps [diskO db bm size used born l]) w' (pt db (.cells #[.int .i64 size, .int .i64 used, .int .i64 born, .map (some bm)] 67) :: filesM bm l :: filesO l :: [sliceO 9 1 (.slice oa on oc) (strs (sortB o))]) :=
        H.perm ((List.perm_append_comm (l₁ := [sliceO 9 1 (.slice oa on oc) (strs (sortB o))]) (l₂ := [pt db (.cells #[.int .i64 size, .int .i64 used, .int .i64 born, .map (some bm)] 67), filesM bm l, filesO l])))
      exact H2.diskClose.front (sliceO 9 1 (.slice oa on oc) (strs (sortB o)))
    by_cases ho : o = []
    · subst ho
      have : on = 0 := hon
      subst this
      refine sort_nothing (mTup_mk (mNil_mk (fin _ ?_)))
      rw [sortB_nil]
      exact H
    · have H' : St w (fps [diskO db bm size used born l]) w1 (sliceO 9 1 (.slice oa on oc) ((o.map lettersOf).map encStr) :: [pt db (.cells #[.int .i64 size, .int .i64 used, .int .i64 born, .map (some bm)] 67), rangeO strV bm r (ptrs l) [], filesO l]) := by
        rw [← strs_enc]; exact H
      have hol : o.length ≤ 1000000000 := by omega
      refine sort_own sort_con (fun s d h => by rw [h]; simp) H' (fun h => ho (List.map_eq_nil_iff.1 h)) (by simp; omega) fun w2 d hd H _ => ?_
      refine mTup_mk (mNil_mk (fin _ ?_))
      rw [strs_enc]
      have : (sortB o).map lettersOf = d := by
        subst hd
        unfold sortB
        rw [List.map_map]
        conv => rhs; rw [← List.map_id ((o.map lettersOf).mergeSort _)]
        apply List.map_congr_left
        intro x _
        simp
      rw [this]
      exact H
  · refine mTup_mk (mNth_mk rfl (mBool_mk (br (fun _ => ?_) (fun h => by cases h))))
    refine rRun_intro hent (mTup_mk (mNth_mk rfl (mStr_mk ?_)))
    have hpk := perm_keys hr
    have hdl := adel_len hr
    refine wAL H fun sb w2 H => ?_
    repeat (first | refine nn ?_ | refine wI H (hK := ?_) | refine wP H (hK := ?_) | refine wM H (hK := ?_) | refine wSl H (hK := ?_) | refine wB H (hK := ?_) | refine wS H (hK := ?_) | refine wEq ?_ | refine wC H (hK := ?_) | (refine wLW H ?_; intro w1 H) | (refine wST H (hK := ?_); intro w1 H _) | refine mSlice_mk ?_ | refine mInt_mk ?_ | refine mBool_mk ?_ | refine mTup_mk ?_ | refine mCons_mk ?_ | refine mNil_mk ?_ | refine mAgg_mk ?_ | refine mPtr_mk ?_ | refine mStr_mk ?_)
    -- what comes behind a name that is wanted
    have put : ∀ w' L, want ps s = true → St w (fps [diskO db bm size used born l]) w' (sliceO 9 1 (.slice oa on oc) (strs o) :: pt db (.cells #[.int .i64 size, .int .i64 used, .int .i64 born, .map (some bm)] 67) :: rangeO strV bm r (ptrs l) (adel rest s) :: filesO l :: L) →
        AL w' (.cells #[(.string s)] 9) fun b w_5 => rRun Try.prog (Builtin.append_ #[28, 28] 28 #[(.slice oa on oc), (.slice (some b) 1 1)]) w_5 fun sr w_6 => mSlice sr fun v4 v_n v_c =>
          ∃ k', k' < rest.length ∧ ∃ (o : List ByteArray) (oa : Option Addr) (on oc : Nat) (rest : List (ByteArray × Value)), k' = rest.length ∧ (pa, ps.length, pc, v4, v_n, v_c, Value.pointer (some ⟨r, 0, none⟩)) = (pa, ps.length, pc, oa, on, oc, .pointer (some ⟨r, 0, none⟩)) ∧
            (o ++ (rest.map (·.1)).filter (want ps)).Perm ((l.map (·.1)).filter (want ps)) ∧ o.length + rest.length ≤ l.length ∧
            St w (fps [diskO db bm size used born l]) w_6 [sliceO 9 1 (.slice oa on oc) (strs o), pt db (.cells #[.int .i64 size, .int .i64 used, .int .i64 born, .map (some bm)] 67), rangeO strV bm r (ptrs l) rest, filesO l] := by
      intro w' L hw H
      refine wAL H fun b w3 H => ?_
      have hsrc : Reads w3 1 (.slice (some ⟨b, 0, none⟩) 1 1) (strs [s]) := by
        refine ⟨_, _, _, rfl, by simp [strs], Nat.le_refl _, .inr ⟨_, rfl, fun j hj => ?_⟩⟩
        have : j = 0 := by simp [strs] at hj; omega
        subst this
        rw [Addr.add_mk, cell_blk (H.blk (i := 0) rfl)]
        rfl
      obtain ⟨m, _, hs⟩ := hsrc.src (P := Try.prog) (tx := 28) elem_str.under (by simp [strs, Value.oneCell'])
      refine append_own (t := 28) (n := m) elem_str (i := 1) H rfl hs (by simp [strs]; omega) (by decide) fun v' w4 H _ _ => ?_
      obtain ⟨a', len, cap, rfl, _⟩ := (H.get (i := 1) rfl : SliceAt _ _ _ _ _)
      refine mSlice_mk ?_
      have e : strs o ++ strs [s] = strs (o ++ [s]) := by simp [strs]
      rw [e] at H
      refine ⟨_, ?_, o ++ [s], a', len, cap, adel rest s, rfl, rfl, ?_, ?_, (H.tail).left (L := [_, _, _, _])⟩
      · omega
      · rw [List.append_assoc]
        refine (List.Perm.append_left o ?_).trans hperm
        have := (hpk.filter (want ps)).symm
        rw [List.filter_cons_of_pos hw] at this
        exact this
      · simp; omega
    refine br (fun h => ?_) (fun h => ?_)
    · have hps0 : ps = [] := by
        have : ps.length = 0 := by simpa using h
        exact List.eq_nil_of_length_eq_zero this
      have H := H.front (sliceO 9 1 (.slice oa on oc) (strs o))
      repeat (first | refine nn ?_ | refine wI H (hK := ?_) | refine wP H (hK := ?_) | refine wM H (hK := ?_) | refine wSl H (hK := ?_) | refine wB H (hK := ?_) | refine wS H (hK := ?_) | refine wEq ?_ | refine wC H (hK := ?_) | (refine wLW H ?_; intro w1 H) | (refine wST H (hK := ?_); intro w1 H _) | refine mSlice_mk ?_ | refine mInt_mk ?_ | refine mBool_mk ?_ | refine mTup_mk ?_ | refine mCons_mk ?_ | refine mNil_mk ?_ | refine mAgg_mk ?_ | refine mPtr_mk ?_ | refine mStr_mk ?_)
      exact put _ _ (by rw [hps0]; rfl) (H.perm (List.Perm.cons _ (List.perm_append_comm (l₁ := [_]) (l₂ := [_, _, _]))))
    · have hps0 : ps.isEmpty = false := by
        cases ps with
        | nil => simp at h
        | cons a t => rfl
      have hsb : List.Mem (pt sb (.cells #[.string s] 9)) [pt sb (.cells #[.string s] 9), sliceO 9 1 (.slice oa on oc) (strs o), pt db (.cells #[.int .i64 size, .int .i64 used, .int .i64 born, .map (some bm)] 67), rangeO strV bm r (ptrs l) (adel rest s), filesO l] := .head _
      refine ContainsFunc_walk (p := fun p => hasPre s p) H hps (fun w' H => hrd H) (fun p w' K H hK => ?_) (fun w3 H => ?_)
      · refine wCallV (by kernel_rfl) (disk_Disk_List_1_sound p ⟨sb, 0, none⟩ K w' ?_)
        repeat (first | refine nn ?_ | refine wI H (hK := ?_) | refine wP H (hK := ?_) | refine wM H (hK := ?_) | refine wSl H (hK := ?_) | refine wB H (hK := ?_) | refine wS H (hK := ?_) | refine wEq ?_ | refine wC H (hK := ?_) | (refine wLW H ?_; intro w1 H) | (refine wST H (hK := ?_); intro w1 H _) | refine mSlice_mk ?_ | refine mInt_mk ?_ | refine mBool_mk ?_ | refine mTup_mk ?_ | refine mCons_mk ?_ | refine mNil_mk ?_ | refine mAgg_mk ?_ | refine mPtr_mk ?_ | refine mStr_mk ?_)
        exact HasPrefix_walk (mBool_mk (hK _ H))
      · refine mBool_mk (br (fun hy => ?_) (fun hno => ?_))
        · have hw : want ps s = true := by unfold want; rw [hy, Bool.or_true]
          have H := H.front (sliceO 9 1 (.slice oa on oc) (strs o))
          repeat (first | refine nn ?_ | refine wI H (hK := ?_) | refine wP H (hK := ?_) | refine wM H (hK := ?_) | refine wSl H (hK := ?_) | refine wB H (hK := ?_) | refine wS H (hK := ?_) | refine wEq ?_ | refine wC H (hK := ?_) | (refine wLW H ?_; intro w1 H) | (refine wST H (hK := ?_); intro w1 H _) | refine mSlice_mk ?_ | refine mInt_mk ?_ | refine mBool_mk ?_ | refine mTup_mk ?_ | refine mCons_mk ?_ | refine mNil_mk ?_ | refine mAgg_mk ?_ | refine mPtr_mk ?_ | refine mStr_mk ?_)
          exact put _ _ hw (H.perm (List.Perm.cons _ (List.perm_append_comm (l₁ := [_]) (l₂ := [_, _, _]))))
        · have hw : want ps s = false := by unfold want; rw [hno, hps0]; rfl
          refine ⟨_, ?_, o, oa, on, oc, adel rest s, rfl, rfl, ?_, ?_, H.tail⟩
          · omega
          · refine List.Perm.trans ?_ hperm
            refine List.Perm.append_left o ?_
            have := (hpk.filter (want ps)).symm
            rw [List.filter_cons_of_neg (by rw [hw]; decide)] at this
            exact this
          · omega
end
end Go.Proofs.Ytimgbkabfkdabaa
