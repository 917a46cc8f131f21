/- KT KU KV KW, laid together. -/
import Derived.Test.YtnhjcjnjpciifaaDoorHKS
import Derived.Test.YtnhjcjnjpciifaaDoorShNum
import Derived.Test.YtnhjcjnjpciifaaDoorShMore
import Derived.Test.YtnhjcjnjpciifaaDoorShMapsR
/- Names sorted; HasPrefix; ContainsFunc over names; List. -/
namespace Go.Proofs.YtnhjcjnjpciifaaDoor
open Go.Sh
attribute [local irreducible] rRun LDI LDB LDS LDP LDSl LDM LD Go.Sh.ST AL ALM LetW CallR CallV CallI NN IX SIX Br Req mInt mBool mStr mPtr mSlice mMap mAgg mTup mCons mNil mNth mPA LoopS

theorem perm_sorted {l l' : List (List UInt8)} (h : l.Perm l') : (l.mergeSort fun x y => decide (x ≤ y)) = l'.mergeSort fun x y => decide (x ≤ y) := by
  have tr : ∀ a b c : List UInt8, (decide (a ≤ b)) = true → (decide (b ≤ c)) = true → (decide (a ≤ c)) = true := fun a b c h1 h2 => by
    rw [decide_eq_true_eq] at *; exact List.le_trans h1 h2
  have to : ∀ a b : List UInt8, (decide (a ≤ b) || decide (b ≤ a)) = true := fun a b => by
    rw [Bool.or_eq_true, decide_eq_true_eq, decide_eq_true_eq]; exact List.le_total a b
  refine List.Perm.eq_of_pairwise (le := fun a b => decide (a ≤ b) = true) (fun a b _ _ h1 h2 => ?_) (List.pairwise_mergeSort tr to l) (List.pairwise_mergeSort tr to l') (((List.mergeSort_perm l _).trans h).trans (List.mergeSort_perm l' _).symm)
  rw [decide_eq_true_eq] at h1 h2
  exact List.le_antisymm h1 h2
def lettersOf (s : ByteArray) : List UInt8 := s.data.toList
def textOf (l : List UInt8) : ByteArray := ⟨l.toArray⟩
@[simp] theorem textOf_letters (s : ByteArray) : textOf (lettersOf s) = s := by cases s; rfl
@[simp] theorem letters_textOf (l : List UInt8) : lettersOf (textOf l) = l := by simp [textOf, lettersOf]
def sortB (ns : List ByteArray) : List ByteArray := ((ns.map lettersOf).mergeSort fun x y => decide (x ≤ y)).map textOf
theorem sortB_perm {l l' : List ByteArray} (h : l.Perm l') : sortB l = sortB l' := by
  unfold sortB; rw [perm_sorted (h.map _)]
theorem sortB_permOf (l : List ByteArray) : (sortB l).Perm l := by
  have h : (sortB l).Perm ((l.map lettersOf).map textOf) := (List.mergeSort_perm _ _).map _
  have e : (l.map lettersOf).map textOf = l := by
    rw [List.map_map]
    conv => rhs; rw [← List.map_id l]
    apply List.map_congr_left
    intro x _
    simp
  rwa [e] at h
@[simp] theorem sortB_nil : sortB [] = [] := by simp [sortB]
theorem strs_enc (ns : List ByteArray) : strs ns = (ns.map lettersOf).map encStr := by
  rw [List.map_map]
  rfl

def hasPre (s p : ByteArray) : Bool := (lettersOf p).isPrefixOf (lettersOf s)
section
variable {w0 w : World} {F : List Nat} {L R : List Own}
theorem HasPrefix_walk {s p : ByteArray} {K : Value → World → Prop} (hK : K (.bool (hasPre s p)) w) : CallR Tryd.prog fn_strings_HasPrefix #[.string s, .string p] w K := by
  refine strings_HasPrefix_sound _ _ _ _ ?_
  refine internal_stringslite_HasPrefix_sound _ _ _ _ ?_
  refine br (fun h => ?_) (fun h => ?_)
  · have hle : p.size ≤ s.size := by simpa using h
    refine rRun_intro (v := .string (s.extract 0 p.size)) (w' := w) ?_ (mStr_mk (mBool_mk ?_))
    · rw [run_sliceAt_string w 9 _ _ _ _ Tryd.underlying9]
      rw [run_slice_string_h w 9 s Tryd.underlying9 .i64 (p.size : Int) (by omega) (by omega)]
      simp
    · have e : ((s.extract 0 p.size).toList == p.toList) = hasPre s p := by
        rw [Bool.eq_iff_iff, beq_iff_eq]
        unfold hasPre lettersOf
        rw [List.isPrefixOf_iff_prefix, List.prefix_iff_eq_take]
        rw [ByteArray.toList_eq, ByteArray.toList_eq]
        simp only [ByteArray.data_extract, Array.toList_extract, List.extract_eq_take_drop, List.drop_zero, Nat.sub_zero, Array.length_toList]
        exact ⟨fun h => h.symm, fun h => h.symm⟩
      rw [e]; exact hK
  · have hlt : s.size < p.size := by simp at h; omega
    refine mBool_mk ?_
    have e : hasPre s p = false := by
      rw [Bool.eq_false_iff]
      intro h
      have := (List.isPrefixOf_iff_prefix.1 h).length_le
      have h1 : (lettersOf p).length = p.size := Array.length_toList
      have h2 : (lettersOf s).length = s.size := Array.length_toList
      omega
    rw [e] at hK; exact hK

/-- ContainsFunc over names, by a function that tells p. -/
theorem ContainsFunc_walk {na : Option Addr} {nc : Nat} {ns : List ByteArray} {g : Value} {p : ByteArray → Bool} {K : Value → World → Prop} (H : St w0 F w L) (hl : ns.length ≤ 1000000000000)
    (hb : ∀ w', St w0 F w' L → Reads w' 1 (.slice na ns.length nc) (strs ns))
    (hg : ∀ s w' K, St w0 F w' L → (∀ w'', St w0 F w'' L → K (.bool (p s)) w'') → CallV Tryd.prog g [.string s] w' K)
    (hK : ∀ w', St w0 F w' L → K (.bool (ns.any p)) w') : CallR Tryd.prog fn_slices_ContainsFunc_s_string_string #[.slice na ns.length nc, g] w K := by
  refine slices_ContainsFunc_s_string_string_sound _ _ _ _ _ _ ?_
  refine slices_IndexFunc_s_string_string_sound _ _ _ _ _ _ ?_
  refine wLoop (fun k x w' => ∃ i : Nat, k + i = ns.length ∧ x = (na, ns.length, nc, g, (ns.length : Int), (i : Int)) ∧ (∀ j s, j < i → ns[j]? = some s → p s = false) ∧ St w0 F w' L) ?_ ?_
  · exact ⟨ns.length, 0, by omega, rfl, fun j s hj _ => by omega, H⟩
  clear H
  rintro k x w1 ⟨i, hk, rfl, hall, H⟩
  refine br (fun h => ?_) (fun h => ?_)
  · have hi : i < ns.length := by simp at h; omega
    obtain ⟨s, hs⟩ : ∃ s, ns[i]? = some s := ⟨_, List.getElem?_eq_getElem hi⟩
    refine wIXr (hb _ H) (i := i) (by simpa [strs] using hi) rfl fun ad had => ?_
    have hcell : (strs ns)[i]? = some (.string s) := by simp [strs, hs]
    rw [hcell] at had
    refine ldS had ?_
    refine hg s _ _ H fun w2 H => ?_
    refine mBool_mk (br (fun hyes => ?_) (fun hno => ?_))
    · refine mInt_mk ?_
      have hd : decide ((i : Int) ≥ 0) = true := by simp
      have hf : ns.any p = true := List.any_eq_true.2 ⟨s, List.mem_of_getElem? hs, hyes⟩
      have h := hK _ H
      rw [hf] at h
      show K (.bool (decide ((i : Int) ≥ 0))) w2
      rw [hd]; exact h
    · have hw : IntKind.wrap .i64 ((i : Int) + 1) = ((i + 1 : Nat) : Int) := by rw [wrap_id (by omega) (by omega)]; rfl
      show ∃ k', k' < k ∧ _
      refine ⟨k - 1, by omega, i + 1, by omega, by rw [hw], fun j t hj ht => ?_, H⟩
      by_cases hji : j = i
      · subst hji
        rw [hs] at ht
        cases ht
        exact hno
      · exact hall j t (by omega) ht
  · have hi : ns.length ≤ i := by simp at h; omega
    have ht : ns.any p = false := List.any_eq_false.2 fun s hs => by
      obtain ⟨j, hj⟩ := List.getElem?_of_mem hs
      rw [hall j s (by have := (List.getElem?_eq_some_iff.1 hj).1; omega) hj]; decide
    refine mInt_mk ?_
    have hd : decide ((-1 : Int) ≥ 0) = false := by decide
    have h := hK _ H
    rw [ht] at h
    rw [hd]; exact h

/-- The names that List tells, in no order. -/
def want (ps : List ByteArray) (s : ByteArray) : Bool := ps.isEmpty || ps.any fun p => hasPre s p
def listed (ps : List ByteArray) (l : Files) : List ByteArray := sortB ((l.map (·.1)).filter (want ps))

theorem sort_nothing {w : World} {x : Option Addr} {c : Nat} {K : Value → World → Prop} (hK : K (.tuple #[]) w) : CallR Tryd.prog fn_slices_Sort_s_string_string #[.slice x 0 c] w K := by
  refine slices_Sort_s_string_string_sound _ _ _ _ _ ?_
  unfold slices_Sort_s_string_string_b0
  rw [show IntKind.wrap .u64 ((0 : Nat) : Int) = 0 by decide]
  refine math_bits_Len_sound _ _ _ (math_bits_Len64_sound _ _ _ ?_)
  refine br (fun h => by simp at h) (fun _ => ?_)
  refine br (fun h => by simp at h) (fun _ => ?_)
  refine br (fun h => by simp at h) (fun _ => ?_)
  unfold SIX
  refine ⟨0, by decide, by kernel_rfl, ?_⟩
  refine mInt_mk (mInt_mk ?_)
  refine slices_pdqsortOrdered_string_sound _ _ _ _ _ _ _ _ ?_
  refine wLoop (fun k x' w' => x' = (x, 0, c, 0, 0, IntKind.wrap .i64 (0 + IntKind.wrap .i64 (UInt8.toNat 0 : Int)), true, true) ∧ w' = w) ⟨0, rfl, rfl⟩ ?_
  rintro k x' w' ⟨rfl, rfl⟩
  refine br (fun _ => ?_) (fun h => absurd (show decide (IntKind.wrap .i64 ((0 : Int) - 0) ≤ 12) = false from h) (by decide))
  refine slices_insertionSortOrdered_string_sound _ _ _ _ _ _ _ ?_
  refine wLoop (fun k x'' w' => x'' = (x, 0, c, 0, 0, IntKind.wrap .i64 (0 + 1)) ∧ K (.tuple #[]) w') ⟨0, rfl, hK⟩ ?_
  rintro k x'' w' ⟨rfl, hK⟩
  refine br (fun h => absurd (show decide (IntKind.wrap .i64 ((0 : Int) + 1) < 0) = true from h) (by decide)) (fun _ => ?_)
  exact mTup_mk (mNil_mk (mTup_mk (mNil_mk hK)))

theorem elem_str : ElemTy Tryd.prog 91 9 1 16 := elemTy_of (by kernel_rfl) (by kernel_rfl)
theorem perm_keys {β : Type} {l : List (ByteArray × β)} {k : ByteArray} {v : β} (h : aget l k = some v) : (l.map (·.1)).Perm (k :: (adel l k).map (·.1)) :=
  perm_aget (fun e : ByteArray × β => e.1) h
theorem adel_len {β : Type} {l : List (ByteArray × β)} {k : ByteArray} {v : β} (h : aget l k = some v) : (adel l k).length + 1 = l.length := by
  have := (perm_keys h).length_eq
  simpa using this.symm

/-- What List holds as it goes over the files. -/
theorem List_spec {db bm : Nat} {size used born : Int} {l : Files} {pa : Option Addr} {pn pc : Nat} {ps : List ByteArray} (hA : Has w [diskO db bm size used born l])
    (hp : Ext w [diskO db bm size used born l] 1 (.slice pa pn pc) (strs ps)) (hps : ps.length ≤ 1000000000000) (hl : l.length ≤ 1000000000) :
    CallS Tryd.prog fn_disk_Disk_List #[.pointer (some ⟨db, 0, none⟩), .slice pa pn pc] w [diskO db bm size used born l] fun r _ A =>
      ∃ a n c, r = .slice a n c ∧ A = [sliceO 9 1 (.slice a n c) (strs (listed ps l)), diskO db bm size used born l] := by
  have hpn : pn = ps.length := by
    obtain ⟨⟨_, _, _, he, h1, _⟩, _⟩ := hp
    cases he
    simpa [strs] using h1
  subst hpn
  refine CallS_intro hA fun H => disk_Disk_List_sound _ _ _ _ _ _ ?_
  have H := H.diskOpen
  refine nn ?_
  refine wM H (hK := ?_)
  refine range_own map_str (i := 1) H rfl fun w1 r H _ => ?_
  have H := H.nothing 9 1 none
  have hrd : ∀ {w'} {L}, St w (fps [diskO db bm size used born l]) w' L → Reads w' 1 (.slice pa ps.length pc) (strs ps) := fun H => hp.reads (by decide) H.fr
  refine wLoop (fun k s w' => ∃ (o : List ByteArray) (oa : Option Addr) (on oc : Nat) (rest : List (ByteArray × Value)), k = rest.length ∧ s = (pa, ps.length, pc, oa, on, oc, .pointer (some ⟨r, 0, none⟩)) ∧
    (o ++ (rest.map (·.1)).filter (want ps)).Perm ((l.map (·.1)).filter (want ps)) ∧ o.length + rest.length ≤ l.length ∧
    St w (fps [diskO db bm size used born l]) w' [sliceO 9 1 (.slice oa on oc) (strs o), pt db (.cells #[.int .i64 size, .int .i64 used, .int .i64 born, .map (some bm)] 75), rangeO strV bm r (ptrs l) rest, filesO l]) ?_ ?_
  · have e : (ptrs l).map (·.1) = l.map (·.1) := by unfold ptrs; rw [List.map_map]; rfl
    exact ⟨_, [], none, 0, 0, ptrs l, rfl, rfl, by rw [e]; exact .refl _, by simp [ptrs], H⟩
  clear H
  rintro k s w1 ⟨o, oa, on, oc, rest, rfl, rfl, hperm, hlen, H⟩
  refine next_own (i := 2) H rfl (fun hnil w1 H _ => ?_) (fun s v hr hlk w1 H _ hent => ?_)
  · refine mTup_mk (mNth_mk rfl (mBool_mk (br (fun h => by cases h) (fun _ => ?_))))
    subst hnil
    have hperm : o.Perm ((l.map (·.1)).filter (want ps)) := by simpa using hperm
    have hon : on = o.length := by
      obtain ⟨_, _, _, he, h1, _⟩ := (H.get (i := 0) rfl : SliceAt _ 9 1 _ _)
      cases he
      simpa [strs] using h1
    have fin : ∀ w', St w (fps [diskO db bm size used born l]) w' [sliceO 9 1 (.slice oa on oc) (strs (sortB o)), pt db (.cells #[.int .i64 size, .int .i64 used, .int .i64 born, .map (some bm)] 75), rangeO strV bm r (ptrs l) [], filesO l] →
        ∃ A', (∃ a n c, (.slice oa on oc : Value) = .slice a n c ∧ A' = [sliceO 9 1 (.slice a n c) (strs (listed ps l)), diskO db bm size used born l]) ∧ St w (fps [diskO db bm size used born l]) w' A' := by
      intro w' H
      have H := range_done H (i := 2) rfl
      have e : listed ps l = sortB o := (sortB_perm hperm).symm
      refine ⟨_, ⟨oa, on, oc, rfl, rfl⟩, ?_⟩
      rw [e]
      have H2 : St w (fps [diskO db bm size used born l]) w' (pt db (.cells #[.int .i64 size, .int .i64 used, .int .i64 born, .map (some bm)] 75) :: filesM bm l :: filesO l :: [sliceO 9 1 (.slice oa on oc) (strs (sortB o))]) :=
        H.perm ((List.perm_append_comm (l₁ := [sliceO 9 1 (.slice oa on oc) (strs (sortB o))]) (l₂ := [pt db (.cells #[.int .i64 size, .int .i64 used, .int .i64 born, .map (some bm)] 75), filesM bm l, filesO l])))
      exact H2.diskClose.front (sliceO 9 1 (.slice oa on oc) (strs (sortB o)))
    by_cases ho : o = []
    · subst ho
      have : on = 0 := hon
      subst this
      refine sort_nothing (mTup_mk (mNil_mk (fin _ ?_)))
      rw [sortB_nil]
      exact H
    · have H' : St w (fps [diskO db bm size used born l]) w1 (sliceO 9 1 (.slice oa on oc) ((o.map lettersOf).map encStr) :: [pt db (.cells #[.int .i64 size, .int .i64 used, .int .i64 born, .map (some bm)] 75), rangeO strV bm r (ptrs l) [], filesO l]) := by
        rw [← strs_enc]; exact H
      have hol : o.length ≤ 1000000000 := by omega
      refine sort_own sort_con (fun s d h => by rw [h]; simp) H' (fun h => ho (List.map_eq_nil_iff.1 h)) (by simp; omega) fun w2 d hd H _ => ?_
      refine mTup_mk (mNil_mk (fin _ ?_))
      rw [strs_enc]
      have : (sortB o).map lettersOf = d := by
        subst hd
        unfold sortB
        rw [List.map_map]
        conv => rhs; rw [← List.map_id ((o.map lettersOf).mergeSort _)]
        apply List.map_congr_left
        intro x _
        simp
      rw [this]
      exact H
  · refine mTup_mk (mNth_mk rfl (mBool_mk (br (fun _ => ?_) (fun h => by cases h))))
    refine rRun_intro hent (mTup_mk (mNth_mk rfl (mStr_mk ?_)))
    have hpk := perm_keys hr
    have hdl := adel_len hr
    refine wAL H fun sb w2 H => ?_
    repeat (first | refine nn ?_ | refine wI H (hK := ?_) | refine wP H (hK := ?_) | refine wM H (hK := ?_) | refine wSl H (hK := ?_) | refine wB H (hK := ?_) | refine wS H (hK := ?_) | refine wEq ?_ | refine wC H (hK := ?_) | (refine wLW H ?_; intro w1 H) | (refine wST H (hK := ?_); intro w1 H _) | refine mSlice_mk ?_ | refine mInt_mk ?_ | refine mBool_mk ?_ | refine mTup_mk ?_ | refine mCons_mk ?_ | refine mNil_mk ?_ | refine mAgg_mk ?_ | refine mPtr_mk ?_ | refine mStr_mk ?_)
    -- what comes behind a name that is wanted
    have put : ∀ w' L, want ps s = true → St w (fps [diskO db bm size used born l]) w' (sliceO 9 1 (.slice oa on oc) (strs o) :: pt db (.cells #[.int .i64 size, .int .i64 used, .int .i64 born, .map (some bm)] 75) :: rangeO strV bm r (ptrs l) (adel rest s) :: filesO l :: L) →
        AL w' (.cells #[(.string s)] 9) fun b w_5 => rRun Tryd.prog (Builtin.append_ #[91, 91] 91 #[(.slice oa on oc), (.slice (some b) 1 1)]) w_5 fun sr w_6 => mSlice sr fun v4 v_n v_c =>
          ∃ k', k' < rest.length ∧ ∃ (o : List ByteArray) (oa : Option Addr) (on oc : Nat) (rest : List (ByteArray × Value)), k' = rest.length ∧ (pa, ps.length, pc, v4, v_n, v_c, Value.pointer (some ⟨r, 0, none⟩)) = (pa, ps.length, pc, oa, on, oc, .pointer (some ⟨r, 0, none⟩)) ∧
            (o ++ (rest.map (·.1)).filter (want ps)).Perm ((l.map (·.1)).filter (want ps)) ∧ o.length + rest.length ≤ l.length ∧
            St w (fps [diskO db bm size used born l]) w_6 [sliceO 9 1 (.slice oa on oc) (strs o), pt db (.cells #[.int .i64 size, .int .i64 used, .int .i64 born, .map (some bm)] 75), rangeO strV bm r (ptrs l) rest, filesO l] := by
      intro w' L hw H
      refine wAL H fun b w3 H => ?_
      have hsrc : Reads w3 1 (.slice (some ⟨b, 0, none⟩) 1 1) (strs [s]) := by
        refine ⟨_, _, _, rfl, by simp [strs], Nat.le_refl _, .inr ⟨_, rfl, fun j hj => ?_⟩⟩
        have : j = 0 := by simp [strs] at hj; omega
        subst this
        rw [Addr.add_mk, cell_blk (H.blk (i := 0) rfl)]
        rfl
      obtain ⟨m, _, hs⟩ := hsrc.src (P := Tryd.prog) (tx := 91) elem_str.under (by simp [strs, Value.oneCell'])
      refine append_own (t := 91) (n := m) elem_str (i := 1) H rfl hs (by simp [strs]; omega) (by decide) fun v' w4 H _ _ => ?_
      obtain ⟨a', len, cap, rfl, _⟩ := (H.get (i := 1) rfl : SliceAt _ _ _ _ _)
      refine mSlice_mk ?_
      have e : strs o ++ strs [s] = strs (o ++ [s]) := by simp [strs]
      rw [e] at H
      refine ⟨_, ?_, o ++ [s], a', len, cap, adel rest s, rfl, rfl, ?_, ?_, (H.tail).left (L := [_, _, _, _])⟩
      · omega
      · rw [List.append_assoc]
        refine (List.Perm.append_left o ?_).trans hperm
        have := (hpk.filter (want ps)).symm
        rw [List.filter_cons_of_pos hw] at this
        exact this
      · simp; omega
    refine br (fun h => ?_) (fun h => ?_)
    · have hps0 : ps = [] := by
        have : ps.length = 0 := by simpa using h
        exact List.eq_nil_of_length_eq_zero this
      have H := H.front (sliceO 9 1 (.slice oa on oc) (strs o))
      repeat (first | refine nn ?_ | refine wI H (hK := ?_) | refine wP H (hK := ?_) | refine wM H (hK := ?_) | refine wSl H (hK := ?_) | refine wB H (hK := ?_) | refine wS H (hK := ?_) | refine wEq ?_ | refine wC H (hK := ?_) | (refine wLW H ?_; intro w1 H) | (refine wST H (hK := ?_); intro w1 H _) | refine mSlice_mk ?_ | refine mInt_mk ?_ | refine mBool_mk ?_ | refine mTup_mk ?_ | refine mCons_mk ?_ | refine mNil_mk ?_ | refine mAgg_mk ?_ | refine mPtr_mk ?_ | refine mStr_mk ?_)
      exact put _ _ (by rw [hps0]; rfl) (H.perm (List.Perm.cons _ (List.perm_append_comm (l₁ := [_]) (l₂ := [_, _, _]))))
    · have hps0 : ps.isEmpty = false := by
        cases ps with
        | nil => simp at h
        | cons a t => rfl
      have hsb : List.Mem (pt sb (.cells #[.string s] 9)) [pt sb (.cells #[.string s] 9), sliceO 9 1 (.slice oa on oc) (strs o), pt db (.cells #[.int .i64 size, .int .i64 used, .int .i64 born, .map (some bm)] 75), rangeO strV bm r (ptrs l) (adel rest s), filesO l] := .head _
      refine ContainsFunc_walk (p := fun p => hasPre s p) H hps (fun w' H => hrd H) (fun p w' K H hK => ?_) (fun w3 H => ?_)
      · refine wCallV (by kernel_rfl) (disk_Disk_List_1_sound p ⟨sb, 0, none⟩ K w' ?_)
        repeat (first | refine nn ?_ | refine wI H (hK := ?_) | refine wP H (hK := ?_) | refine wM H (hK := ?_) | refine wSl H (hK := ?_) | refine wB H (hK := ?_) | refine wS H (hK := ?_) | refine wEq ?_ | refine wC H (hK := ?_) | (refine wLW H ?_; intro w1 H) | (refine wST H (hK := ?_); intro w1 H _) | refine mSlice_mk ?_ | refine mInt_mk ?_ | refine mBool_mk ?_ | refine mTup_mk ?_ | refine mCons_mk ?_ | refine mNil_mk ?_ | refine mAgg_mk ?_ | refine mPtr_mk ?_ | refine mStr_mk ?_)
        exact HasPrefix_walk (mBool_mk (hK _ H))
      · refine mBool_mk (br (fun hy => ?_) (fun hno => ?_))
        · have hw : want ps s = true := by unfold want; rw [hy, Bool.or_true]
          have H := H.front (sliceO 9 1 (.slice oa on oc) (strs o))
          repeat (first | refine nn ?_ | refine wI H (hK := ?_) | refine wP H (hK := ?_) | refine wM H (hK := ?_) | refine wSl H (hK := ?_) | refine wB H (hK := ?_) | refine wS H (hK := ?_) | refine wEq ?_ | refine wC H (hK := ?_) | (refine wLW H ?_; intro w1 H) | (refine wST H (hK := ?_); intro w1 H _) | refine mSlice_mk ?_ | refine mInt_mk ?_ | refine mBool_mk ?_ | refine mTup_mk ?_ | refine mCons_mk ?_ | refine mNil_mk ?_ | refine mAgg_mk ?_ | refine mPtr_mk ?_ | refine mStr_mk ?_)
          exact put _ _ hw (H.perm (List.Perm.cons _ (List.perm_append_comm (l₁ := [_]) (l₂ := [_, _, _]))))
        · have hw : want ps s = false := by unfold want; rw [hno, hps0]; rfl
          refine ⟨_, ?_, o, oa, on, oc, adel rest s, rfl, rfl, ?_, ?_, H.tail⟩
          · omega
          · refine List.Perm.trans ?_ hperm
            refine List.Perm.append_left o ?_
            have := (hpk.filter (want ps)).symm
            rw [List.filter_cons_of_neg (by rw [hw]; decide)] at this
            exact this
          · omega
end
end Go.Proofs.YtnhjcjnjpciifaaDoor

/- Crash. -/
namespace Go.Proofs.YtnhjcjnjpciifaaDoor
open Go.Sh
attribute [local irreducible] rRun LDI LDB LDS LDP LDSl LDM LD Go.Sh.ST AL ALM LetW CallR CallV CallI NN IX SIX Br Req mInt mBool mStr mPtr mSlice mMap mAgg mTup mCons mNil mNth mPA LoopS

def total (l : Files) : Nat := (l.map fun e => e.2.bs.length).sum
def look (l : Files) (s : ByteArray) : Option (List UInt8 × Nat) := (aget l s).map fun f => (f.bs, f.syn)
def whole (l : Files) : Prop := ∀ s f, aget l s = some f → f.syn ≤ f.bs.length
def pickK (p : Option Int) (n : Nat) : Nat := match p with | some p => if 0 ≤ p then (p % ((n : Int) + 1)).toNat else 0 | none => 0
theorem pickK_le (p : Option Int) (n : Nat) : pickK p n ≤ n := by
  unfold pickK
  split
  · split
    · have h1 := Int.emod_lt_of_pos ‹Int› (show (0 : Int) < (n : Int) + 1 by omega)
      have h2 := Int.emod_nonneg ‹Int› (show ((n : Int) + 1) ≠ 0 by omega)
      omega
    · omega
  · omega
def crashF (p : Option Int) (x : List UInt8 × Nat) : List UInt8 × Nat := (x.1.take (x.2 + pickK p (x.1.length - x.2)), x.2 + pickK p (x.1.length - x.2))
def keysOf (l : Files) : List ByteArray := l.map (·.1)

theorem aput_keys {β : Type} {l : List (ByteArray × β)} {k : ByteArray} {v : β} (x : β) (h : aget l k = some v) : (aput l k x).map (·.1) = l.map (·.1) := by
  induction l with
  | nil => cases h
  | cons e t ih =>
    obtain ⟨a, y⟩ := e
    simp only [aget] at h
    simp only [aput]
    split
    · rfl
    · rename_i hk
      rw [if_neg hk] at h
      simp only [List.map_cons, ih h]
theorem look_aput (l : Files) (s : ByteArray) (f : FileR) : look (aput l s f) s = some (f.bs, f.syn) := by unfold look; rw [aget_aput]; rfl
theorem look_aput_ne (l : Files) {s t : ByteArray} (f : FileR) (h : t ≠ s) : look (aput l s f) t = look l t := by unfold look; rw [aget_aput_ne l f h]
theorem total_adel {l : Files} {s : ByteArray} {f : FileR} (h : aget l s = some f) : total (adel l s) + f.bs.length = total l := by
  have := (perm_aget (fun e : ByteArray × FileR => e.2.bs.length) h).sum_nat
  simp only [List.sum_cons] at this
  unfold total
  rw [this]
  exact Nat.add_comm _ _
theorem total_aput {l : Files} {s : ByteArray} (f : FileR) : total (aput l s f) = f.bs.length + total (adel l s) := by
  have h := (perm_aput (fun e : ByteArray × FileR => e.2.bs.length) l s f).sum_nat
  simpa [total] using h

section
variable {w0 w : World} {F : List Nat} {L R : List Own}
theorem keys_nodup {db bm : Nat} {size used born : Int} {l : Files} (H : (diskO db bm size used born l).holds w) : (keysOf l).Nodup := by
  have h1 : (filesM bm l).holds w := H _ (by simp)
  obtain ⟨es, _, _, h2, h3⟩ := h1
  have h4 := h3.keys
  have h5 : (l.map fun e => (e.1, (.pointer (some ⟨e.2.fb, 0, none⟩) : Value))).map (·.1) = es.map (·.1) := by rw [← h2, List.map_map]; rfl
  rw [List.map_map] at h5
  unfold keysOf
  rw [← h5] at h4
  exact h4
theorem keys_mem {l : Files} {s : ByteArray} : s ∈ keysOf l ↔ (aget l s).isSome = true := by
  cases hg : aget l s with
  | none =>
    have := aget_none.1 hg
    simp only [Option.isSome_none, Bool.false_eq_true, iff_false]
    intro h
    obtain ⟨e, he, rfl⟩ := List.mem_map.1 h
    exact this e he rfl
  | some f =>
    simp only [Option.isSome_some, iff_true]
    exact List.mem_map.2 ⟨(s, f), by
      have := (perm_aget (fun e : ByteArray × FileR => e) hg).mem_iff (a := (s, f))
      simpa using this, rfl⟩
theorem listed_nil (l : Files) : listed [] l = sortB (keysOf l) := by
  have : (l.map (·.1)).filter (want []) = l.map (·.1) := List.filter_eq_self.2 fun _ _ => rfl
  unfold listed
  rw [this]; rfl

/-- What a crash does to one file, behind how much it keeps. -/
theorem crash_rest {w1 : World} {db bm : Nat} {size used born : Int} {l : Files} {s : ByteArray} {f : FileR} {k : Nat} {K0 : World → Prop} {x : Int} (hx : x = (k : Int)) (hg : aget l s = some f) (hk : k ≤ f.bs.length)
    (hu : -1000000000000 ≤ used ∧ used ≤ 1000000000000) (hb : f.bs.length ≤ 1000000000000)
    (H : St w0 F w1 (diskO db bm size used born l :: L))
    (hK : ∀ w' f', f'.fb = f.fb → f'.bs = f.bs.take k → f'.syn = k → St w0 F w' (diskO db bm size (used - ((f.bs.length : Int) - k)) born (aput l s f') :: L) → K0 w') :
    LetW (World.drew w1) fun w_8 =>
    NN (some ⟨db, 0, none⟩) fun p10 =>
    LDI .i64 w_8 (Addr.add p10 1) fun v13 =>
    NN (some ⟨f.fb, 0, none⟩) fun p11 =>
    LDSl w_8 p11 fun _ v_n5 _ =>
    (w_8 = w_8 ∧
    NN (some ⟨db, 0, none⟩) fun p12 =>
    ST w_8 (Addr.add p12 1) (.int .i64 (IntKind.wrap .i64 (v13 - (IntKind.wrap .i64 ((v_n5 : Int) - x))))) fun w_9 =>
    NN (some ⟨f.fb, 0, none⟩) fun p13 =>
    LDSl w_9 p13 fun v15 v_n6 v_c6 =>
    rRun Tryd.prog (Instr.sliceAt 41 (.slice v15 v_n6 v_c6) none (some (.int .i64 x)) (some (.int .i64 x))) w_9 fun sr1 w_10 =>
    mSlice sr1 fun v16 v_n7 v_c7 =>
    NN (some ⟨f.fb, 0, none⟩) fun p14 =>
    ST w_10 p14 (.slice v16 v_n7 v_c7) fun w_11 =>
    NN (some ⟨f.fb, 0, none⟩) fun p15 =>
    ST w_11 (Addr.add p15 1) (.int .i64 x) fun w_12 =>
    K0 w_12) := by
  subst hx
  have H := H.diskOpen
  have H := file_out (H.front (filesO l)) hg
  obtain ⟨_, _, _, he, h1, h2, _⟩ := (H.has.all (sliceO 5 1 (.slice f.a f.n f.c) (bvals f.bs)) (by simp) : SliceAt _ 5 1 (.slice f.a f.n f.c) (bvals f.bs))
  cases he
  have hfn : f.n = f.bs.length := by simpa using h1
  repeat (first | refine nn ?_ | refine wI H (hK := ?_) | refine wP H (hK := ?_) | refine wM H (hK := ?_) | refine wSl H (hK := ?_) | refine wB H (hK := ?_) | refine wS H (hK := ?_) | refine wEq ?_ | refine wC H (hK := ?_) | (refine wLW H ?_; intro w1 H) | (refine wST H (hK := ?_); intro w1 H _) | refine mSlice_mk ?_ | refine mInt_mk ?_ | refine mBool_mk ?_ | refine mTup_mk ?_ | refine mCons_mk ?_ | refine mNil_mk ?_ | refine mAgg_mk ?_ | refine mPtr_mk ?_ | refine mStr_mk ?_)
  have hw2 : IntKind.wrap .i64 ((f.n : Int) - (k : Int)) = (f.bs.length : Int) - (k : Int) := by rw [hfn]; exact wrap_id (by omega) (by omega)
  have hw3 : IntKind.wrap .i64 (used - ((f.bs.length : Int) - (k : Int))) = used - ((f.bs.length : Int) - (k : Int)) := wrap_id (by omega) (by omega)
  rw [hw2, hw3] at H
  have ha : (if k = 0 then f.a else f.a.map (·.add (0 * 1))) = f.a := by
    split
    · rfl
    · cases f.a with
      | none => rfl
      | some a => simp [Addr.add]
  refine rRun_intro (sliceAt_run (P := Tryd.prog) elem_bytes (a := f.a) (len := f.n) (cap := f.c) (l := 0) (h := k) (m := k) (lo := none) (hi := some (.int .i64 k)) (mx := some (.int .i64 k)) ⟨rfl, by omega⟩ ⟨rfl, by omega⟩ (fun _ => rfl) rfl) ?_
  rw [ha]
  refine mSlice_mk ?_
  have H := (H.front (sliceO 5 1 (.slice f.a f.n f.c) (bvals f.bs))).cut (k := k) (by omega)
  have hbt : (bvals f.bs).take k = bvals (f.bs.take k) := by simp [bvals]
  rw [hbt] at H
  repeat (first | refine nn ?_ | refine wI H (hK := ?_) | refine wP H (hK := ?_) | refine wM H (hK := ?_) | refine wSl H (hK := ?_) | refine wB H (hK := ?_) | refine wS H (hK := ?_) | refine wEq ?_ | refine wC H (hK := ?_) | (refine wLW H ?_; intro w1 H) | (refine wST H (hK := ?_); intro w1 H _) | refine mSlice_mk ?_ | refine mInt_mk ?_ | refine mBool_mk ?_ | refine mTup_mk ?_ | refine mCons_mk ?_ | refine mNil_mk ?_ | refine mAgg_mk ?_ | refine mPtr_mk ?_ | refine mStr_mk ?_)
  have H := H.front (pt f.fb (.cells #[.slice f.a k k, .int .i64 (k : Int)] 90))
  have H := file_in (f := ⟨f.fb, f.a, k, k, f.bs.take k, k⟩) H
  have e : filesM bm l = filesM bm (aput l s ⟨f.fb, f.a, k, k, f.bs.take k, k⟩) := by
    unfold filesM
    congr 1
    have h2 := aput_map (fun f : FileR => (.pointer (some ⟨f.fb, 0, none⟩) : Value)) l s ⟨f.fb, f.a, k, k, f.bs.take k, k⟩
    rw [← h2]
    exact (aput_self (by rw [aget_map (fun f : FileR => (.pointer (some ⟨f.fb, 0, none⟩) : Value)), hg]; rfl)).symm
  rw [e] at H
  have H := ((H.front (filesM bm (aput l s ⟨f.fb, f.a, k, k, f.bs.take k, k⟩))).front (pt db (.cells #[.int .i64 size, .int .i64 (used - ((f.bs.length : Int) - k)), .int .i64 born, .map (some bm)] 75))).diskClose
  exact hK _ ⟨f.fb, f.a, k, k, f.bs.take k, k⟩ rfl rfl rfl H

/-- Behind i names. -/
structure Crashed (picks : List Int) (ns : List ByteArray) (i : Nat) (l l' : Files) : Prop where
  keys : keysOf l' = keysOf l
  done : ∀ j s, j < i → ns[j]? = some s → look l' s = (look l s).map (crashF picks[j]?)
  rest : ∀ s, (∀ j, j < i → ns[j]? ≠ some s) → look l' s = look l s
  less : total l' ≤ total l
theorem Crashed.whole {picks : List Int} {ns : List ByteArray} {l l' : Files} (h : Crashed picks ns ns.length l l') (hw : Proofs.YtnhjcjnjpciifaaDoor.whole l) : Proofs.YtnhjcjnjpciifaaDoor.whole l' := by
  intro s f hf
  have hl : look l' s = some (f.bs, f.syn) := by unfold look; rw [hf]; rfl
  by_cases hs : ∃ j, j < ns.length ∧ ns[j]? = some s
  · obtain ⟨j, hj, hjs⟩ := hs
    rw [h.done j s hj hjs] at hl
    unfold look at hl
    cases hg : aget l s with
    | none => rw [hg] at hl; cases hl
    | some g =>
      rw [hg] at hl
      simp only [Option.map_some, crashF, Option.some.injEq, Prod.mk.injEq] at hl
      have h1 := hw s g hg
      have h2 := pickK_le picks[j]? (g.bs.length - g.syn)
      rw [← hl.1, ← hl.2, List.length_take]
      omega
  · rw [h.rest s fun j hj hc => hs ⟨j, hj, hc⟩] at hl
    unfold look at hl
    cases hg : aget l s with
    | none => rw [hg] at hl; cases hl
    | some g =>
      rw [hg] at hl
      simp only [Option.map_some, Option.some.injEq, Prod.mk.injEq] at hl
      have h1 := hw s g hg
      rw [← hl.1, ← hl.2]
      exact h1

theorem Crash_spec {db bm : Nat} {size used born : Int} {l : Files} {pa : Option Addr} {pn pc : Nat} {picks : List Int} (hA : Has w [diskO db bm size used born l])
    (hp : Ext w [diskO db bm size used born l] 1 (.slice pa pn pc) (ints picks)) (hl : l.length ≤ 1000000000) (hwh : whole l) (hu : used = total l) (ht : total l ≤ 1000000000000) :
    CallS Tryd.prog fn_disk_Disk_Crash #[.pointer (some ⟨db, 0, none⟩), .slice pa pn pc] w [diskO db bm size used born l] fun r _ A =>
      r = .tuple #[] ∧ ∃ l', Crashed picks (sortB (keysOf l)) (sortB (keysOf l)).length l l' ∧ A = [diskO db bm size (total l') born l'] := by
  have hpn : pn = picks.length := by
    obtain ⟨⟨_, _, _, he, h1, _⟩, _⟩ := hp
    cases he
    simpa [ints] using h1
  subst hpn
  subst hu
  refine CallS_intro hA fun H => disk_Disk_Crash_sound _ _ _ _ _ _ ?_
  have hnd := keys_nodup (H.get (i := 0) rfl)
  have hrd : ∀ {w'} {L}, St w (fps [diskO db bm size (total l) born l]) w' L → Reads w' 1 (.slice pa picks.length pc) (ints picks) := fun H => hp.reads (by decide) H.fr
  refine wCall H (fun hA => List_spec (ps := []) hA ⟨⟨_, _, _, rfl, rfl, Nat.le_refl _, .inl rfl⟩, fun b hb => by simp [sblk] at hb⟩ (by simp) hl) (hK := ?_)
  rintro r w1 A' ⟨na, nn', nc, rfl, rfl⟩ _ H
  rw [listed_nil] at H
  have hns : (sortB (keysOf l)).Perm (keysOf l) := sortB_permOf _
  generalize hnse : sortB (keysOf l) = ns at H hns ⊢
  have hnn : nn' = ns.length := by
    obtain ⟨_, _, _, he, h1, _⟩ := (H.get (i := 0) rfl : SliceAt _ 9 1 _ _)
    cases he
    simpa [strs] using h1
  subst hnn
  have hnsd : ns.Nodup := hns.nodup_iff.2 hnd
  refine mSlice_mk ?_
  refine wLoop (fun k s w' => ∃ (i : Nat) (l' : Files), k + i = ns.length ∧ s = (some ⟨db, 0, none⟩, pa, picks.length, pc, na, ns.length, nc, (ns.length : Int), (i : Int)) ∧ Crashed picks ns i l l' ∧
    St w (fps [diskO db bm size (total l) born l]) w' [diskO db bm size (total l') born l', sliceO 9 1 (.slice na ns.length nc) (strs ns)]) ?_ ?_
  · exact ⟨ns.length, 0, l, by omega, rfl, ⟨rfl, fun j s hj _ => by omega, fun s _ => rfl, Nat.le_refl _⟩, H.front (diskO db bm size (total l) born l)⟩
  clear H
  rintro k s w1 ⟨i, l', hk, rfl, hcr, H⟩
  refine br (fun h => ?_) (fun h => ?_)
  · have hi : i < ns.length := by simp at h; omega
    obtain ⟨s, hs⟩ : ∃ s, ns[i]? = some s := ⟨_, List.getElem?_eq_getElem hi⟩
    have hw1 : IntKind.wrap .i64 ((i : Int) + 1) = ((i + 1 : Nat) : Int) := by
      have : ns.length ≤ 1000000000 := by have := hns.length_eq; simp [keysOf] at this; omega
      rw [wrap_id (by omega) (by omega)]; rfl
    refine wIXe (H.has.all (sliceO 9 1 (.slice na ns.length nc) (strs ns)) (by simp)) (by simpa [strs] using hi) rfl fun ab _ hcell => ?_
    refine ldS (hcell.trans (show (strs ns)[i]? = some (.string s) by simp [strs, hs])) ?_
    have Hd := H.diskOpen
    refine nn ?_
    refine wM Hd (hK := ?_)
    have hsk : s ∈ keysOf l' := by rw [hcr.keys]; exact hns.mem_iff.1 (List.mem_of_getElem? hs)
    obtain ⟨f, hg⟩ := Option.isSome_iff_exists.1 (keys_mem.1 hsk)
    have hnot : ∀ j, j < i → ns[j]? ≠ some s := fun j hj hc => by
      have := (List.getElem?_inj (by omega) hnsd).1 (hc.trans hs.symm)
      omega
    have hlook : look l s = some (f.bs, f.syn) := by rw [← hcr.rest s hnot]; unfold look; rw [hg]; rfl
    have hsyn : f.syn ≤ f.bs.length := by
      unfold look at hlook
      cases hgl : aget l s with
      | none => rw [hgl] at hlook; cases hlook
      | some g =>
        rw [hgl] at hlook
        simp only [Option.map_some, Option.some.injEq, Prod.mk.injEq] at hlook
        have := hwh s g hgl
        rw [hlook.1, hlook.2] at this
        exact this
    have htl := total_adel hg
    have hless := hcr.less
    refine wLookupF Hd (hK := mPtr_mk ?_)
    rw [hg]
    have opn : ∀ {w'}, St w (fps [diskO db bm size (total l) born l]) w' [diskO db bm size (total l') born l', sliceO 9 1 (.slice na ns.length nc) (strs ns)] →
        St w (fps [diskO db bm size (total l) born l]) w' (pt f.fb (.cells #[.slice f.a f.n f.c, .int .i64 f.syn] 90) :: sliceO 5 1 (.slice f.a f.n f.c) (bvals f.bs) :: filesO (adel l' s) ::
          [pt db (.cells #[.int .i64 size, .int .i64 (total l'), .int .i64 born, .map (some bm)] 75), filesM bm l', sliceO 9 1 (.slice na ns.length nc) (strs ns)]) := fun H => file_out (H.diskOpen.front (filesO l')) hg
    have Hf := opn H
    refine nn ?_
    refine wI Hf (hK := ?_)
    -- one more name is done
    have done : ∀ w' f', f'.fb = f.fb → f'.bs = f.bs.take (f.syn + pickK picks[i]? (f.bs.length - f.syn)) → f'.syn = f.syn + pickK picks[i]? (f.bs.length - f.syn) →
        St w (fps [diskO db bm size (total l) born l]) w' (diskO db bm size ((total l' : Int) - ((f.bs.length : Int) - ((f.syn + pickK picks[i]? (f.bs.length - f.syn) : Nat) : Int))) born (aput l' s f') :: [sliceO 9 1 (.slice na ns.length nc) (strs ns)]) →
        ∃ k', k' < k ∧ ∃ (i' : Nat) (l' : Files), k' + i' = ns.length ∧ ((some ⟨db, 0, none⟩, pa, picks.length, pc, na, ns.length, nc, (ns.length : Int), IntKind.wrap .i64 ((i : Int) + 1)) : (Option Addr) × (Option Addr) × Nat × Nat × (Option Addr) × Nat × Nat × Int × Int) = (some ⟨db, 0, none⟩, pa, picks.length, pc, na, ns.length, nc, (ns.length : Int), (i' : Int)) ∧ Crashed picks ns i' l l' ∧
          St w (fps [diskO db bm size (total l) born l]) w' [diskO db bm size (total l') born l', sliceO 9 1 (.slice na ns.length nc) (strs ns)] := by
      intro w' f' h1 h2 h3 H
      have hple := pickK_le picks[i]? (f.bs.length - f.syn)
      have hta := total_aput (l := l') (s := s) f'
      have hfl : f'.bs.length = f.syn + pickK picks[i]? (f.bs.length - f.syn) := by rw [h2, List.length_take]; omega
      have hteq : ((total l' : Int) - ((f.bs.length : Int) - ((f.syn + pickK picks[i]? (f.bs.length - f.syn) : Nat) : Int))) = (total (aput l' s f') : Int) := by omega
      rw [hteq] at H
      refine ⟨k - 1, by omega, i + 1, aput l' s f', by omega, by rw [hw1], ⟨?_, ?_, ?_, ?_⟩, H⟩
      · unfold keysOf
        rw [aput_keys f' hg]
        exact hcr.keys
      · intro j t hj ht
        by_cases hji : j = i
        · subst hji
          rw [hs] at ht
          cases ht
          rw [look_aput, hlook, h2, h3]
          rfl
        · have hts : t ≠ s := fun e => by subst e; exact hnot j (by omega) ht
          rw [look_aput_ne _ _ hts]
          exact hcr.done j t (by omega) ht
      · intro t ht
        have hts : t ≠ s := fun e => by subst e; exact ht i (by omega) hs
        rw [look_aput_ne _ _ hts]
        exact hcr.rest t fun j hj => ht j (by omega)
      · omega
    have hple := pickK_le picks[i]? (f.bs.length - f.syn)
    refine br (fun hip => ?_) (fun hip => ?_)
    · have hip : i < picks.length := by simpa using hip
      obtain ⟨p, hpi⟩ : ∃ p, picks[i]? = some p := ⟨_, List.getElem?_eq_getElem hip⟩
      have hcell : (ints picks)[i]? = some (.int .i64 p) := by simp [ints, hpi]
      refine wIXr (hrd H) (i := i) (by simpa [ints] using hip) rfl fun ad had => ?_
      refine ldI (had.trans hcell) ?_
      refine br (fun hp0 => ?_) (fun hp0 => ?_)
      · have hp0 : 0 ≤ p := by simpa using hp0
        refine wLW H ?_
        intro w2 H
        refine wIXr (hrd H) (i := i) (by simpa [ints] using hip) rfl fun ad had => ?_
        refine ldI (had.trans hcell) ?_
        have Hf := opn H
        have hfn : f.n = f.bs.length := by
          obtain ⟨_, _, _, he, h1, _⟩ := (Hf.has.all (sliceO 5 1 (.slice f.a f.n f.c) (bvals f.bs)) (by simp) : SliceAt _ 5 1 (.slice f.a f.n f.c) (bvals f.bs))
          cases he
          simpa using h1
        refine nn ?_
        refine wSl Hf (hK := wEq ?_)
        refine nn ?_
        refine wI Hf (hK := ?_)
        have e1 : IntKind.wrap .i64 (IntKind.wrap .i64 ((f.n : Int) - (f.syn : Int)) + 1) = ((f.bs.length - f.syn : Nat) : Int) + 1 := by
          have e0 : IntKind.wrap .i64 ((f.n : Int) - (f.syn : Int)) = ((f.bs.length - f.syn : Nat) : Int) := by rw [hfn, wrap_id (by omega) (by omega)]; omega
          rw [e0, wrap_id (by omega) (by omega)]
        rw [e1]
        refine wReq (by omega) ?_
        have e2 : Int.tmod p (((f.bs.length - f.syn : Nat) : Int) + 1) = (pickK picks[i]? (f.bs.length - f.syn) : Int) := by
          rw [hpi]
          unfold pickK
          simp only [hp0, if_true]
          rw [Int.tmod_eq_emod_of_nonneg hp0]
          have := Int.emod_nonneg p (show (((f.bs.length - f.syn : Nat) : Int) + 1) ≠ 0 by omega)
          omega
        have e3 : IntKind.wrap .i64 ((f.syn : Int) + Int.tmod p (((f.bs.length - f.syn : Nat) : Int) + 1)) = ((f.syn + pickK picks[i]? (f.bs.length - f.syn) : Nat) : Int) := by
          rw [e2, wrap_id (by omega) (by omega)]; omega
        exact crash_rest e3 hg (by omega) (by omega) (by omega) H done
      · have hp0 : ¬ 0 ≤ p := by simpa using hp0
        have e2 : pickK picks[i]? (f.bs.length - f.syn) = 0 := by rw [hpi]; unfold pickK; simp only [hp0, if_false]
        exact crash_rest (by rw [e2]; rfl) hg (by omega) (by omega) (by omega) H done
    · have hip : ¬ i < picks.length := by simpa using hip
      have e2 : pickK picks[i]? (f.bs.length - f.syn) = 0 := by rw [List.getElem?_eq_none (by omega)]; rfl
      exact crash_rest (by rw [e2]; rfl) hg (by omega) (by omega) (by omega) H done
  · have hi : ns.length ≤ i := by simp at h; omega
    have hin : i = ns.length := by omega
    subst hin
    exact ⟨_, ⟨rfl, l', hcr, rfl⟩, H.left (L := [_])⟩
end
end Go.Proofs.YtnhjcjnjpciifaaDoor

/- The files as lists of bytes. -/
namespace Go.Proofs.YtnhjcjnjpciifaaDoor
open Go.Sh
attribute [local irreducible] rRun LDI LDB LDS LDP LDSl LDM LD Go.Sh.ST AL ALM LetW CallR CallV CallI NN IX SIX Br Req mInt mBool mStr mPtr mSlice mMap mAgg mTup mCons mNil mNth mPA LoopS

theorem look_some {l : Files} {s : ByteArray} {x : List UInt8 × Nat} (h : look l s = some x) : ∃ f, aget l s = some f ∧ f.bs = x.1 ∧ f.syn = x.2 := by
  unfold look at h
  cases hg : aget l s with
  | none => rw [hg] at h; cases h
  | some f => rw [hg] at h; cases h; exact ⟨f, rfl, rfl, rfl⟩
theorem look_none {l : Files} {s : ByteArray} : look l s = none ↔ aget l s = none := by
  unfold look
  cases aget l s <;> simp
theorem bsOf_look {l : Files} {s : ByteArray} : bsOf l s = ((look l s).map (·.1)).getD [] := by
  unfold bsOf look
  cases aget l s <;> rfl
theorem synOf_look {l : Files} {s : ByteArray} : synOf l s = ((look l s).map (·.2)).getD 0 := by
  unfold synOf look
  cases aget l s <;> rfl
theorem look_sync (l : Files) (s t : ByteArray) : look (syncOne l s) t = if t = s then (look l s).map (fun x => (x.1, x.1.length)) else look l t := by
  unfold syncOne
  cases hg : aget l s with
  | none =>
    simp only
    split
    · rename_i h; subst h; unfold look; rw [hg]; rfl
    · rfl
  | some f =>
    simp only
    split
    · rename_i h; subst h; rw [look_aput]; unfold look; rw [hg]; rfl
    · rename_i h; rw [look_aput_ne _ _ h]
theorem keys_sync (l : Files) (s : ByteArray) : keysOf (syncOne l s) = keysOf l := by
  unfold syncOne
  cases hg : aget l s with
  | none => rfl
  | some f => exact aput_keys _ hg
theorem total_sync (l : Files) (s : ByteArray) : total (syncOne l s) = total l := by
  unfold syncOne
  cases hg : aget l s with
  | none => rfl
  | some f => simp only; rw [total_aput]; have := total_adel hg; simp only; omega
theorem total_append {l : Files} {s : ByteArray} {f : FileR} {more : List UInt8} (h : f.bs = bsOf l s ++ more) : total (aput l s f) = total l + more.length := by
  rw [total_aput, h, List.length_append]
  unfold bsOf
  cases hg : aget l s with
  | none => rw [adel_none hg]; simp; omega
  | some g =>
    have := total_adel hg
    simp only [Option.map_some, Option.getD_some]
    omega
theorem keys_aput_new {l : Files} {s : ByteArray} (f : FileR) (h : look l s = none) : keysOf (aput l s f) = keysOf l ++ [s] := by
  unfold keysOf
  rw [aput_none f (look_none.1 h)]
  simp
theorem keys_aput_old {l : Files} {s : ByteArray} (f : FileR) {x : List UInt8 × Nat} (h : look l s = some x) : keysOf (aput l s f) = keysOf l := by
  obtain ⟨g, hg, _⟩ := look_some h
  exact aput_keys f hg
theorem whole_of {l : Files} (h : ∀ s x, look l s = some x → x.2 ≤ x.1.length) : whole l := fun s f hf => h s (f.bs, f.syn) (by unfold look; rw [hf]; rfl)
theorem sorted_sortB {ns : List ByteArray} (h : (ns.map lettersOf).Pairwise fun x y => decide (x ≤ y) = true) : sortB ns = ns := by
  unfold sortB
  rw [List.mergeSort_of_pairwise h, List.map_map]
  conv => rhs; rw [← List.map_id ns]
  apply List.map_congr_left
  intro x _
  simp

section
variable {w0 w : World} {F : List Nat} {L R : List Own}
theorem ext_part {A B : List Own} {b n : Nat} {c : Array Value} {e : TypeId} {fz : Nat × Nat} {p : PartR} (H : St w0 F w (A ++ B)) (hm : pt b (.cells c e fz) ∈ B) (hc : c = ⟨[p.hdr]⟩) (hp : Ext w A 1 p.hdr (bvals p.bs)) (hn : n = 1) :
    ExtP w A (.slice (some ⟨b, 0, none⟩) n n) [p] := by
  subst hn
  refine ⟨ext_pt H hm rfl (Nat.le_refl _) hc, fun q hq => ?_⟩
  rw [List.mem_singleton.1 hq]
  exact hp
end
end Go.Proofs.YtnhjcjnjpciifaaDoor

/- The disk's methods, told by what a look at the disk shows: for walks that hold more beside it. -/
namespace Go.Proofs.YtnhjcjnjpciifaaDoor
open Go.Sh
abbrev Look := ByteArray → Option (List UInt8 × Nat)
def upd (m : Look) (s : ByteArray) (v : Option (List UInt8 × Nat)) : Look := fun t => if t = s then v else m t
@[simp] theorem upd_same (m : Look) (s : ByteArray) (v : Option (List UInt8 × Nat)) : upd m s v s = v := by simp [upd]
theorem upd_ne (m : Look) {s t : ByteArray} (v : Option (List UInt8 × Nat)) (h : t ≠ s) : upd m s v t = m t := by simp [upd, h]
/-- A disk whose count is right. -/
abbrev dO (db bm : Nat) (size born : Int) (l : Files) : Own := diskO db bm size (total l : Int) born l
theorem look_put (l : Files) (s : ByteArray) (f : FileR) : look (aput l s f) = upd (look l) s (some (f.bs, f.syn)) := by
  funext t
  by_cases h : t = s
  · subst h; rw [look_aput, upd_same]
  · rw [look_aput_ne l f h, upd_ne _ _ h]
theorem look_syn {l : Files} {s : ByteArray} {x : List UInt8 × Nat} (h : look l s = some x) : look (syncOne l s) = upd (look l) s (some (x.1, x.1.length)) := by
  funext t
  rw [look_sync, h]
  by_cases ht : t = s
  · subst ht; rw [if_pos rfl, upd_same]; rfl
  · rw [if_neg ht, upd_ne _ _ ht]
theorem look_del {l : Files} (hn : (keysOf l).Nodup) (s : ByteArray) : look (adel l s) = upd (look l) s none := by
  funext t
  by_cases h : t = s
  · subst h
    rw [upd_same, look_none]
    exact aget_adel_self hn
  · rw [upd_ne _ _ h]
    unfold look
    rw [aget_adel_ne h]
theorem whole_look {l : Files} (h : whole l) {s : ByteArray} {x : List UInt8 × Nat} (hs : look l s = some x) : x.2 ≤ x.1.length := by
  obtain ⟨f, hf, h1, h2⟩ := look_some hs
  rw [← h1, ← h2]
  exact h s f hf
theorem total_ge {l : Files} {s : ByteArray} {x : List UInt8 × Nat} (h : look l s = some x) : x.1.length ≤ total l := by
  obtain ⟨f, hf, h1, _⟩ := look_some h
  have := total_adel hf
  rw [← h1]; omega
theorem bsOf_le (l : Files) (s : ByteArray) : (bsOf l s).length ≤ total l := by
  rw [bsOf_look]
  cases h : look l s with
  | none => simp
  | some x => exact total_ge h
theorem aput_len (l : Files) (s : ByteArray) (f : FileR) : (aput l s f).length ≤ l.length + 1 := by
  induction l with
  | nil => simp [aput]
  | cons e t ih =>
    obtain ⟨a, u⟩ := e
    simp only [aput]
    split <;> simp <;> omega
theorem adel_len_le (l : Files) (s : ByteArray) : (adel l s).length ≤ l.length := (adel_sublist l s).length_le
theorem sync_len (l : Files) (s : ByteArray) : (syncOne l s).length = l.length := by
  have := congrArg List.length (keys_sync l s)
  simpa [keysOf] using this
theorem whole_upd {l l' : Files} {s : ByteArray} {v : Option (List UInt8 × Nat)} (h : whole l) (e : look l' = upd (look l) s v) (hv : ∀ x, v = some x → x.2 ≤ x.1.length) : whole l' := by
  refine whole_of fun t x ht => ?_
  rw [e] at ht
  by_cases hs : t = s
  · subst hs; rw [upd_same] at ht; exact hv x ht
  · rw [upd_ne _ _ hs] at ht; exact whole_look h ht
attribute [local irreducible] rRun LDI LDB LDS LDP LDSl LDM LD Go.Sh.ST AL ALM LetW CallR CallV CallI NN IX SIX Br Req mInt mBool mStr mPtr mSlice mMap mAgg mTup mCons mNil mNth mPA LoopS
section
variable {w0 w : World} {F : List Nat} {L : List Own} {K : Value → World → Prop} {db bm : Nat} {size born : Int} {l : Files} {s : ByteArray}
theorem St.nodup (H : St w0 F w (dO db bm size born l :: L)) : (keysOf l).Nodup := keys_nodup (H.get (i := 0) rfl)
theorem new_walk {size : Int} (hs : 1 ≤ size ∧ size ≤ 1073741824) (H : St w0 F w L) (hK : ∀ w' db bm, St w0 F w' (dO db bm size 0 [] :: L) → K (.tuple #[.pointer (some ⟨db, 0, none⟩), .int .i64 0]) w') :
    CallR Tryd.prog fn_disk_New #[.int .i64 size] w K := by
  refine wCall H (A := []) (fun _ => New_spec size w) (hK := ?_)
  rintro v w' A' ⟨h, _⟩ _ H
  obtain ⟨db, bm, rfl, rfl⟩ := h hs
  exact hK w' db bm H
theorem read_walk (H : St w0 F w (dO db bm size born l :: L)) (ht : total l ≤ 10000000000)
    (hK0 : look l s = none → ∀ w', St w0 F w' (dO db bm size born l :: L) → K (.tuple #[.slice none 0 0, .int .i64 4]) w')
    (hK : ∀ x, look l s = some x → ∀ w' a n c, St w0 F w' (sliceO 5 1 (.slice a n c) (bvals x.1) :: dO db bm size born l :: L) → K (.tuple #[.slice a n c, .int .i64 0]) w') :
    CallR Tryd.prog fn_disk_Disk_Read #[.pointer (some ⟨db, 0, none⟩), .string s] w K := by
  refine wCall H (A := [dO db bm size born l]) (fun hA => Read_spec hA fun f hf => ?_) (hK := ?_)
  · have := total_adel hf; omega
  · rintro v w' A' h _ H
    rcases h with ⟨hn, rfl, rfl⟩ | ⟨f, a, n, c, hf, rfl, rfl⟩
    · exact hK0 (look_none.2 hn) w' H
    · exact hK (f.bs, f.syn) (by unfold look; rw [hf]; rfl) w' a n c H
theorem append_walk {pa : Option Addr} {pn pc : Nat} {ps : List PartR} (H : St w0 F w (dO db bm size born l :: L)) (hp : ExtP w [dO db bm size born l] (.slice pa pn pc) ps) (hps : plen ps ≤ 1000000000) (hpl : ps.length ≤ 1000000000)
    (ht : total l ≤ 10000000000) (hnm : nameOk s = true)
    (hfull : (total l : Int) + plen ps > size → ∀ w', St w0 F w' (dO db bm size born l :: L) → K (.int .i64 5) w')
    (hK : (total l : Int) + plen ps ≤ size → ∀ w' l', look l' = upd (look l) s (some (bsOf l s ++ pbs ps, synOf l s)) → total l' = total l + plen ps → l'.length ≤ l.length + 1 → St w0 F w' (dO db bm size born l' :: L) → K (.int .i64 0) w') :
    CallR Tryd.prog fn_disk_Disk_Append #[.pointer (some ⟨db, 0, none⟩), .string s, .slice pa pn pc] w K := by
  refine wCall H (A := [dO db bm size born l]) (fun hA => Append_spec hA hp hps hpl ⟨by omega, by omega⟩ ?_) (hK := ?_)
  · have := bsOf_le l s; omega
  · rintro v w' A' h _ H
    rcases h with ⟨hb, _⟩ | ⟨_, hf, rfl, rfl⟩ | ⟨_, hf, rfl, f, hbs, hsy, rfl⟩
    · rw [hnm] at hb; cases hb
    · exact hfull hf w' H
    · have htl : total (aput l s f) = total l + plen ps := by rw [total_append hbs, pbs_len]
      have H : St w0 F w' (dO db bm size born (aput l s f) :: L) := by
        have e : ((total (aput l s f) : Nat) : Int) = (total l : Int) + plen ps := by rw [htl]; omega
        rw [dO, e]; exact H
      exact hK hf w' (aput l s f) (by rw [look_put, hbs, hsy]) htl (aput_len l s f) H
theorem sync_walk {b : Nat} {n c : Nat} (hn : n = 1) (H : St w0 F w (dO db bm size born l :: L)) (hb : List.Mem (pt b (.cells #[.string s] 9)) L)
    (hK0 : look l s = none → ∀ w', St w0 F w' (dO db bm size born l :: L) → K (.int .i64 4) w')
    (hK : ∀ x, look l s = some x → ∀ w' l', look l' = upd (look l) s (some (x.1, x.1.length)) → total l' = total l → l'.length = l.length → St w0 F w' (dO db bm size born l' :: L) → K (.int .i64 0) w') (hc : c = 1) :
    CallR Tryd.prog fn_disk_Disk_Sync #[.pointer (some ⟨db, 0, none⟩), .slice (some ⟨b, 0, none⟩) n c] w K := by
  subst hn hc
  refine wCall H (A := [dO db bm size born l]) (fun hA => Sync_spec (ns := [s]) hA (ext_pt (A := [_]) H hb rfl (Nat.le_refl _) rfl) (by simp)) (hK := ?_)
  rintro v w' A' h _ H
  rcases h with ⟨hn, rfl, rfl⟩ | ⟨hy, rfl, rfl⟩
  · have : look l s = none := by
      rw [look_none]
      cases hg : aget l s with
      | none => rfl
      | some f => simp [allIn, hg] at hn
    exact hK0 this w' H
  · cases hg : look l s with
    | none => rw [look_none] at hg; simp [allIn, hg] at hy
    | some x =>
      have H : St w0 F w' (dO db bm size born (syncOne l s) :: L) := by rw [dO, total_sync]; exact H
      exact hK x hg w' (syncOne l s) (look_syn hg) (total_sync l s) (sync_len l s) H
theorem delete_walk {b : Nat} {n c : Nat} (hn : n = 1) (H : St w0 F w (dO db bm size born l :: L)) (ht : total l ≤ 10000000000) (hb : List.Mem (pt b (.cells #[.string s] 9)) L)
    (hK0 : look l s = none → ∀ w', St w0 F w' (dO db bm size born l :: L) → K (.int .i64 4) w')
    (hK : ∀ x, look l s = some x → ∀ w' l', look l' = upd (look l) s none → total l' + x.1.length = total l → l'.length + 1 = l.length → St w0 F w' (dO db bm size born l' :: L) → K (.int .i64 0) w') (hc : c = 1) :
    CallR Tryd.prog fn_disk_Disk_Delete #[.pointer (some ⟨db, 0, none⟩), .slice (some ⟨b, 0, none⟩) n c] w K := by
  subst hn hc
  have hnd := St.nodup H
  refine wCall H (A := [dO db bm size born l]) (fun hA => Delete_spec (ns := [s]) hA (ext_pt (A := [_]) H hb rfl (Nat.le_refl _) rfl) (by simp) ?_) (hK := ?_)
  · intro i f t hi hf
    have : i = 0 := by
      have := (List.getElem?_eq_some_iff.1 hi).1
      simp at this; exact this
    subst this
    have h2 : aget l t = some f := hf
    have := total_adel h2
    show -9223372036854775808 ≤ (total l : Int) - f.bs.length ∧ (total l : Int) - f.bs.length < 9223372036854775808
    omega
  · rintro v w' A' h _ H
    rcases h with ⟨hn, rfl, rfl⟩ | ⟨hy, rfl, rfl⟩
    · have : look l s = none := by
        rw [look_none]
        cases hg : aget l s with
        | none => rfl
        | some f => simp [allIn, hg] at hn
      exact hK0 this w' H
    · cases hg : look l s with
      | none => rw [look_none] at hg; simp [allIn, hg] at hy
      | some x =>
        obtain ⟨f, hf, h1, h2⟩ := look_some hg
        have htl := total_adel hf
        have e1 : ([s].foldl delOne ((total l : Int), l)) = ((total l : Int) - f.bs.length, adel l s) := by simp [delOne, hf]
        rw [e1] at H
        have e2 : (total l : Int) - f.bs.length = ((total (adel l s) : Nat) : Int) := by omega
        simp only [e2] at H
        exact hK x hg w' (adel l s) (look_del hnd s) (by rw [← h1]; omega) (adel_len hf) H
theorem rename_walk {t : ByteArray} {x : List UInt8 × Nat} (H : St w0 F w (dO db bm size born l :: L)) (ht : total l ≤ 10000000000) (hx : look l s = some x) (hnm : nameOk t = true) (hst : s ≠ t)
    (hK : ∀ w' l', look l' = upd (upd (look l) s none) t (some x) → total l' + (bsOf l t).length = total l → l'.length ≤ l.length → St w0 F w' (dO db bm size born l' :: L) → K (.int .i64 0) w') :
    CallR Tryd.prog fn_disk_Disk_Rename #[.pointer (some ⟨db, 0, none⟩), .string s, .string t] w K := by
  have hnd := St.nodup H
  have hbt := bsOf_le l t
  refine wCall H (A := [dO db bm size born l]) (fun hA => Rename_spec hA ⟨by omega, by omega⟩ (by omega)) (hK := ?_)
  rintro v w' A' h _ H
  rcases h with ⟨hn, _⟩ | ⟨_, _, hb, _⟩ | ⟨_, _, _, he, _⟩ | ⟨f, hf, _, _, rfl, rfl⟩
  · rw [look_none.2 hn] at hx; cases hx
  · rw [hnm] at hb; cases hb
  · exact absurd he hst
  · have hxf : x = (f.bs, f.syn) := by
      have : look l s = some (f.bs, f.syn) := by unfold look; rw [hf]; rfl
      rw [hx] at this; exact Option.some.inj this
    have e1 := total_adel hf
    have e3 : total (aput (adel l s) t f) + (bsOf l t).length = total l := by
      rw [total_aput]
      have hb : bsOf (adel l s) t = bsOf l t := by unfold bsOf; rw [aget_adel_ne (Ne.symm hst)]
      cases hg : aget (adel l s) t with
      | none =>
        have : bsOf l t = [] := by rw [← hb]; unfold bsOf; rw [hg]; rfl
        rw [this, adel_none hg]; simp; omega
      | some g =>
        have h2 := total_adel hg
        have : bsOf l t = g.bs := by rw [← hb]; unfold bsOf; rw [hg]; rfl
        rw [this]; omega
    have H : St w0 F w' (dO db bm size born (aput (adel l s) t f) :: L) := by
      have e : ((total (aput (adel l s) t f) : Nat) : Int) = (total l : Int) - (bsOf l t).length := by omega
      rw [dO, e]; exact H
    refine hK w' _ (by rw [look_put, look_del hnd, hxf]) e3 ?_ H
    have h1 := aput_len (adel l s) t f
    have h2 := adel_len hf
    omega
theorem list_walk {b n c : Nat} {p : ByteArray} (hn : n = 1) (H : St w0 F w (dO db bm size born l :: L)) (hb : List.Mem (pt b (.cells #[.string p] 9)) L) (hl : l.length ≤ 1000000000)
    (hK : ∀ w' a n c, St w0 F w' (sliceO 9 1 (.slice a n c) (strs (listed [p] l)) :: dO db bm size born l :: L) → K (.slice a n c) w') (hc : c = 1) :
    CallR Tryd.prog fn_disk_Disk_List #[.pointer (some ⟨db, 0, none⟩), .slice (some ⟨b, 0, none⟩) n c] w K := by
  subst hn hc
  refine wCall H (A := [dO db bm size born l]) (fun hA => List_spec (ps := [p]) hA (ext_pt (A := [_]) H hb rfl (Nat.le_refl _) rfl) (by simp) hl) (hK := ?_)
  rintro v w' A' ⟨a, n, c, rfl, rfl⟩ _ H
  exact hK w' a n c H
theorem crash_walk {pa : Option Addr} {pn pc : Nat} {picks : List Int} (H : St w0 F w (dO db bm size born l :: L)) (hp : Ext w [dO db bm size born l] 1 (.slice pa pn pc) (ints picks)) (hl : l.length ≤ 1000000000) (hwh : whole l) (ht : total l ≤ 10000000000)
    (hK : ∀ w' l', Crashed picks (sortB (keysOf l)) (sortB (keysOf l)).length l l' → St w0 F w' (dO db bm size born l' :: L) → K (.tuple #[]) w') :
    CallR Tryd.prog fn_disk_Disk_Crash #[.pointer (some ⟨db, 0, none⟩), .slice pa pn pc] w K := by
  refine wCall H (A := [dO db bm size born l]) (fun hA => Crash_spec hA hp hl hwh rfl (by omega)) (hK := ?_)
  rintro v w' A' ⟨rfl, l', hc, rfl⟩ _ H
  exact hK w' l' hc H
end
end Go.Proofs.YtnhjcjnjpciifaaDoor
