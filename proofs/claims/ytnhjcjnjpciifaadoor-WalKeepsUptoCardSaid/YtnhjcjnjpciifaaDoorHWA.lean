/- WA WB WC, laid together. -/
import Derived.Test.YtnhjcjnjpciifaaDoorHNB
import Derived.Test.YtnhjcjnjpciifaaDoorHKT
import Derived.Test.YtnhjcjnjpciifaaDoorShWal
import Derived.Test.YtnhjcjnjpciifaaDoorHCD
import Derived.Test.YtnhjcjnjpciifaaDoorShFast
/- Names of segments; TrimPrefix, Segment, named walked. -/
namespace Go.Proofs.YtnhjcjnjpciifaaDoor
open Go.Sh
def bstr (l : List UInt8) : ByteArray := ⟨l.toArray⟩
theorem bstr_size (l : List UInt8) : (bstr l).size = l.length := by simp [bstr, ByteArray.size]
theorem bstr_append (l m : List UInt8) : bstr l ++ bstr m = bstr (l ++ m) := by
  apply ByteArray.ext
  rw [ByteArray.data_append]
  simp [bstr]
theorem bstr_letters (l : List UInt8) : lettersOf (bstr l) = l := by simp [bstr, lettersOf]
theorem bstr_inj {l m : List UInt8} (h : bstr l = bstr m) : l = m := by rw [← bstr_letters l, h, bstr_letters]
theorem bstr_toList (l : List UInt8) : (bstr l).toList = l := by rw [ByteArray.toList_eq]; simp [bstr]
theorem bstr_of (s : ByteArray) : bstr (lettersOf s) = s := by cases s; simp [bstr, lettersOf]
/-- A segment's file. -/
def segL (name : List UInt8) (n : Nat) : List UInt8 := name ++ 45 :: dig6 n
def seg (name : List UInt8) (n : Nat) : ByteArray := bstr (segL name n)
theorem seg_inj {name : List UInt8} {m n : Nat} (hm : m < 1000000) (hn : n < 1000000) (h : seg name m = seg name n) : m = n := by
  have h1 := bstr_inj h
  unfold segL at h1
  have h2 := List.append_cancel_left h1
  exact dig6_inj hm hn (List.cons.inj h2).2
attribute [local irreducible] rRun LDI LDB LDS LDP LDSl LDM LD Go.Sh.ST AL ALM LetW CallR CallV CallI NN IX SIX Br Req mInt mBool mStr mPtr mSlice mMap mAgg mTup mCons mNil mNth mPA LoopS
section
variable {w0 w : World} {F : List Nat} {L : List Own} {K : Value → World → Prop}
theorem TrimPrefix_walk {p t : List UInt8} (hK : K (.string (bstr t)) w) : CallR Tryd.prog fn_strings_TrimPrefix #[.string (bstr (p ++ t)), .string (bstr p)] w K := by
  refine strings_TrimPrefix_sound _ _ _ _ (internal_stringslite_TrimPrefix_sound _ _ _ _ ?_)
  refine internal_stringslite_HasPrefix_sound _ _ _ _ ?_
  have hle : (bstr p).size ≤ (bstr (p ++ t)).size := by rw [bstr_size, bstr_size]; simp
  refine br (fun h => ?_) (fun h => by simp at h; omega)
  refine rRun_intro (v := .string ((bstr (p ++ t)).extract 0 (bstr p).size)) (w' := w) ?_ (mStr_mk (mBool_mk ?_))
  · rw [run_sliceAt_string w 9 _ _ _ _ Tryd.underlying9]
    rw [run_slice_string_h w 9 _ Tryd.underlying9 .i64 ((bstr p).size : Int) (by omega) (by omega)]
    simp
  · have e : (bstr (p ++ t)).extract 0 (bstr p).size = bstr p := by
      apply ByteArray.ext
      rw [ByteArray.data_extract, bstr_size]
      apply Array.toList_inj.1
      simp [bstr]
    rw [e, beq_self_eq_true]
    refine br (fun _ => ?_) (fun h => by cases h)
    refine rRun_intro (v := .string ((bstr (p ++ t)).extract (bstr p).size (bstr (p ++ t)).size)) (w' := w) ?_ (mStr_mk (mStr_mk ?_))
    · rw [run_sliceAt_string w 9 _ _ _ _ Tryd.underlying9]
      rw [run_slice_string_l w 9 _ Tryd.underlying9 .i64 ((bstr p).size : Int) (by omega) (by omega)]
      simp
    · have e : (bstr (p ++ t)).extract (bstr p).size (bstr (p ++ t)).size = bstr t := by
        apply ByteArray.ext
        rw [ByteArray.data_extract, bstr_size, bstr_size]
        apply Array.toList_inj.1
        simp [bstr]
      rw [e]; exact hK
theorem Segment_walk {name : List UInt8} {n : Nat} (hn : n < 1000000) (hl : name.length ≤ 1000000) (H : St w0 F w L) {o : Obj} (ht : List.Mem (tabO o) L) (hK : ∀ w', St w0 F w' L → K (.string (seg name n)) w') :
    CallR Tryd.prog fn_wal_Segment #[.string (bstr name), .int .i64 (n : Int)] w K := by
  refine wal_Segment_sound _ _ _ _ ?_
  refine Itoa_walk (by omega) H ht fun w1 H => mStr_mk ?_
  have hp := pad6_dec hn
  refine wLoop (fun k s w' => s = (bstr name, bstr (List.replicate (6 - (Lib.decDigits n).length - k) 48 ++ Lib.decDigits n)) ∧ k ≤ 6 - (Lib.decDigits n).length ∧ St w0 F w' L) ⟨6 - (Lib.decDigits n).length, by simp [bstr], Nat.le_refl _, H⟩ ?_
  clear H
  rintro k s w2 ⟨rfl, hk, H⟩
  have hsz : (bstr (List.replicate (6 - (Lib.decDigits n).length - k) 48 ++ Lib.decDigits n)).size = 6 - k := by
    rw [bstr_size]; simp; omega
  refine br (fun h => ?_) (fun h => ?_)
  · have h : 0 < k := by simp [hsz] at h; omega
    refine wReq (by rw [hsz]; show (bstr [48]).size + _ ≤ _; rw [bstr_size]; simp; omega) ⟨k - 1, by omega, ?_, by omega, H⟩
    show (bstr name, bstr [48] ++ _) = _
    rw [bstr_append]
    congr 2
    rw [show 6 - (Lib.decDigits n).length - (k - 1) = (6 - (Lib.decDigits n).length - k) + 1 by omega, List.replicate_succ]
    rfl
  · have h : k = 0 := by simp [hsz] at h; omega
    subst h
    have e1 : bstr (List.replicate (6 - (Lib.decDigits n).length - 0) 48 ++ Lib.decDigits n) = bstr (dig6 n) := by rw [← hp.1]; rfl
    simp only [e1]
    have hd : (bstr (dig6 n)).size = 6 := by rw [bstr_size]; rfl
    have e2 : bstr name ++ (⟨#[45]⟩ : ByteArray) = bstr (name ++ [45]) := bstr_append name [45]
    refine wReq (by rw [bstr_size]; show _ + (bstr [45]).size ≤ _; rw [bstr_size]; simp; omega) (wReq (by rw [e2, bstr_size, hd]; simp; omega) ?_)
    rw [e2, bstr_append]
    have e3 : bstr (name ++ [45] ++ dig6 n) = seg name n := by unfold seg segL; simp
    rw [e3]
    exact hK _ H
end
end Go.Proofs.YtnhjcjnjpciifaaDoor

/- A log's methods, told by what a look at its disk shows: there, cut, segments, Append, Sync, Rotate, Truncate, First. -/
namespace Go.Proofs.YtnhjcjnjpciifaaDoor
open Go.Sh
/-- A log's variable. -/
abbrev logO (p db : Nat) (nm : List UInt8) (last : Nat) : Own := pt p (.cells #[.pointer (some ⟨db, 0, none⟩), .string (bstr nm), .int .i64 (last : Int)] 78)
def nats (ks : List Nat) : List Value := ks.map fun (k : Nat) => .int .i64 ((k : Nat) : Int)
theorem elem_ints : ElemTy Tryd.prog 29 3 1 8 := elemTy_of (by kernel_rfl) (by kernel_rfl)
def preOf (nm : List UInt8) : ByteArray := bstr (nm ++ [45])
def tmpOf (nm : List UInt8) : ByteArray := bstr (nm ++ [46, 116, 109, 112])
theorem exists_map {f : Nat → ByteArray} {N : Nat} : ∀ {ns : List ByteArray}, (∀ s ∈ ns, ∃ k, k < N ∧ s = f k) → ∃ ks : List Nat, ks.map f = ns ∧ ∀ k ∈ ks, k < N
  | [], _ => ⟨[], rfl, fun _ h => by cases h⟩
  | s :: t, h => by
    obtain ⟨k, hk, hs⟩ := h s (List.mem_cons_self ..)
    obtain ⟨ks, h1, h2⟩ := exists_map fun s hs => h s (List.mem_cons_of_mem _ hs)
    exact ⟨k :: ks, by rw [List.map_cons, h1, hs], fun q hq => by
      rcases List.mem_cons.1 hq with rfl | hq
      · exact hk
      · exact h2 q hq⟩
theorem listed_len (ps : List ByteArray) (l : Files) : (listed ps l).length ≤ l.length := by
  unfold listed
  rw [(sortB_permOf _).length_eq]
  exact Nat.le_trans (List.length_filter_le _ _) (by simp)
theorem listed_mem {ps : List ByteArray} {l : Files} {s : ByteArray} : s ∈ listed ps l ↔ s ∈ keysOf l ∧ want ps s = true := by
  unfold listed
  rw [(sortB_permOf _).mem_iff, List.mem_filter]
  rfl
theorem want_one {p s : ByteArray} : want [p] s = hasPre s p := by simp [want]
attribute [local irreducible] rRun LDI LDB LDS LDP LDSl LDM LD Go.Sh.ST AL ALM LetW CallR CallV CallI NN IX SIX Br Req mInt mBool mStr mPtr mSlice mMap mAgg mTup mCons mNil mNth mPA LoopS
section
variable {w0 w : World} {F : List Nat} {L : List Own} {K : Value → World → Prop} {db bm p last : Nat} {size born : Int} {l : Files} {nm : List UInt8} {o : Obj}
theorem there_walk {n : Nat} (hn : n < 1000000) (hnl : nm.length ≤ 1000) (htl : total l ≤ 10000000000) (H : St w0 F w (dO db bm size born l :: L)) (hlog : List.Mem (logO p db nm last) L) (ht : List.Mem (tabO o) L)
    (hK : ∀ w', St w0 F w' (dO db bm size born l :: L) → K (.bool (look l (seg nm n)).isSome) w') :
    CallR Tryd.prog fn_wal_Log_there #[.pointer (some ⟨p, 0, none⟩), .int .i64 (n : Int)] w K := by
  refine wal_Log_there_sound _ _ _ _ ?_
  refine wLW H ?_
  intro w1 H
  repeat (first | apply mInt_mk | apply mCons_mk | (apply xC H; rfl; (focus (repeat (first | exact List.Mem.head _ | apply List.Mem.tail | assumption))); rfl) | apply mStr_mk | apply mNil_mk | apply mSlice_mk | (apply xI H; rfl; (focus (repeat (first | exact List.Mem.head _ | apply List.Mem.tail | assumption))); rfl) | (apply xST H; rfl; (focus (repeat (first | exact Upd.here _ | apply Upd.there))); (focus (repeat (first | exact SetAt.zero _ _ | apply SetAt.succ))); rfl; intro w1 H) | (apply xSl H; rfl; (focus (repeat (first | exact List.Mem.head _ | apply List.Mem.tail | assumption))); rfl) | (apply xP H; rfl; (focus (repeat (first | exact List.Mem.head _ | apply List.Mem.tail | assumption))); rfl) | (apply xS H; rfl; (focus (repeat (first | exact List.Mem.head _ | apply List.Mem.tail | assumption))); rfl) | apply nn | (apply wLW H; intro w1 H) | apply mTup_mk | apply mAgg_mk | apply mPtr_mk | apply mBool_mk | (apply xM H; rfl; (focus (repeat (first | exact List.Mem.head _ | apply List.Mem.tail | assumption))); rfl) | (apply xB H; rfl; (focus (repeat (first | exact List.Mem.head _ | apply List.Mem.tail | assumption))); rfl) | apply wEq)
  refine Segment_walk hn (by omega) H (.tail _ ht) fun w2 H => mStr_mk ?_
  repeat (first | apply mInt_mk | apply mCons_mk | (apply xC H; rfl; (focus (repeat (first | exact List.Mem.head _ | apply List.Mem.tail | assumption))); rfl) | apply mStr_mk | apply mNil_mk | apply mSlice_mk | (apply xI H; rfl; (focus (repeat (first | exact List.Mem.head _ | apply List.Mem.tail | assumption))); rfl) | (apply xST H; rfl; (focus (repeat (first | exact Upd.here _ | apply Upd.there))); (focus (repeat (first | exact SetAt.zero _ _ | apply SetAt.succ))); rfl; intro w1 H) | (apply xSl H; rfl; (focus (repeat (first | exact List.Mem.head _ | apply List.Mem.tail | assumption))); rfl) | (apply xP H; rfl; (focus (repeat (first | exact List.Mem.head _ | apply List.Mem.tail | assumption))); rfl) | (apply xS H; rfl; (focus (repeat (first | exact List.Mem.head _ | apply List.Mem.tail | assumption))); rfl) | apply nn | (apply wLW H; intro w1 H) | apply mTup_mk | apply mAgg_mk | apply mPtr_mk | apply mBool_mk | (apply xM H; rfl; (focus (repeat (first | exact List.Mem.head _ | apply List.Mem.tail | assumption))); rfl) | (apply xB H; rfl; (focus (repeat (first | exact List.Mem.head _ | apply List.Mem.tail | assumption))); rfl) | apply wEq)
  refine read_walk H htl (fun hx w3 H => ?_) (fun x hx w3 a n c H => ?_)
  · repeat (first | apply mInt_mk | apply mCons_mk | (apply xC H; rfl; (focus (repeat (first | exact List.Mem.head _ | apply List.Mem.tail | assumption))); rfl) | apply mStr_mk | apply mNil_mk | apply mSlice_mk | (apply xI H; rfl; (focus (repeat (first | exact List.Mem.head _ | apply List.Mem.tail | assumption))); rfl) | (apply xST H; rfl; (focus (repeat (first | exact Upd.here _ | apply Upd.there))); (focus (repeat (first | exact SetAt.zero _ _ | apply SetAt.succ))); rfl; intro w1 H) | (apply xSl H; rfl; (focus (repeat (first | exact List.Mem.head _ | apply List.Mem.tail | assumption))); rfl) | (apply xP H; rfl; (focus (repeat (first | exact List.Mem.head _ | apply List.Mem.tail | assumption))); rfl) | (apply xS H; rfl; (focus (repeat (first | exact List.Mem.head _ | apply List.Mem.tail | assumption))); rfl) | apply nn | (apply wLW H; intro w1 H) | apply mTup_mk | apply mAgg_mk | apply mPtr_mk | apply mBool_mk | (apply xM H; rfl; (focus (repeat (first | exact List.Mem.head _ | apply List.Mem.tail | assumption))); rfl) | (apply xB H; rfl; (focus (repeat (first | exact List.Mem.head _ | apply List.Mem.tail | assumption))); rfl) | apply wEq)
    have := hK w3 H
    rw [hx] at this
    exact this
  · repeat (first | apply mInt_mk | apply mCons_mk | (apply xC H; rfl; (focus (repeat (first | exact List.Mem.head _ | apply List.Mem.tail | assumption))); rfl) | apply mStr_mk | apply mNil_mk | apply mSlice_mk | (apply xI H; rfl; (focus (repeat (first | exact List.Mem.head _ | apply List.Mem.tail | assumption))); rfl) | (apply xST H; rfl; (focus (repeat (first | exact Upd.here _ | apply Upd.there))); (focus (repeat (first | exact SetAt.zero _ _ | apply SetAt.succ))); rfl; intro w1 H) | (apply xSl H; rfl; (focus (repeat (first | exact List.Mem.head _ | apply List.Mem.tail | assumption))); rfl) | (apply xP H; rfl; (focus (repeat (first | exact List.Mem.head _ | apply List.Mem.tail | assumption))); rfl) | (apply xS H; rfl; (focus (repeat (first | exact List.Mem.head _ | apply List.Mem.tail | assumption))); rfl) | apply nn | (apply wLW H; intro w1 H) | apply mTup_mk | apply mAgg_mk | apply mPtr_mk | apply mBool_mk | (apply xM H; rfl; (focus (repeat (first | exact List.Mem.head _ | apply List.Mem.tail | assumption))); rfl) | (apply xB H; rfl; (focus (repeat (first | exact List.Mem.head _ | apply List.Mem.tail | assumption))); rfl) | apply wEq)
    have := hK w3 H.tail
    rw [hx] at this
    exact this
theorem segments_walk (hnl : nm.length ≤ 1000) (H : St w0 F w (dO db bm size born l :: L)) (hlog : List.Mem (logO p db nm last) L) (ht : List.Mem (tabO o) L) (hl : l.length ≤ 1000000)
    (hnames : ∀ s, s ∈ keysOf l → hasPre s (preOf nm) = true → ∃ k, k < 1000000 ∧ s = seg nm k)
    (hK : ∀ w' a n c ks, (∀ k ∈ ks, k < 1000000) → ks.map (seg nm) = listed [preOf nm] l → St w0 F w' (sliceO 3 1 (.slice a n c) (nats ks) :: dO db bm size born l :: L) → K (.slice a n c) w') :
    CallR Tryd.prog fn_wal_Log_segments #[.pointer (some ⟨p, 0, none⟩)] w K := by
  refine wal_Log_segments_sound _ _ _ ?_
  refine wLW H ?_
  intro w1 H
  repeat (first | apply mInt_mk | apply mCons_mk | (apply xC H; rfl; (focus (repeat (first | exact List.Mem.head _ | apply List.Mem.tail | assumption))); rfl) | apply mStr_mk | apply mNil_mk | apply mSlice_mk | (apply xI H; rfl; (focus (repeat (first | exact List.Mem.head _ | apply List.Mem.tail | assumption))); rfl) | (apply xST H; rfl; (focus (repeat (first | exact Upd.here _ | apply Upd.there))); (focus (repeat (first | exact SetAt.zero _ _ | apply SetAt.succ))); rfl; intro w1 H) | (apply xSl H; rfl; (focus (repeat (first | exact List.Mem.head _ | apply List.Mem.tail | assumption))); rfl) | (apply xP H; rfl; (focus (repeat (first | exact List.Mem.head _ | apply List.Mem.tail | assumption))); rfl) | (apply xS H; rfl; (focus (repeat (first | exact List.Mem.head _ | apply List.Mem.tail | assumption))); rfl) | apply nn | (apply wLW H; intro w1 H) | apply mTup_mk | apply mAgg_mk | apply mPtr_mk | apply mBool_mk | (apply xM H; rfl; (focus (repeat (first | exact List.Mem.head _ | apply List.Mem.tail | assumption))); rfl) | (apply xB H; rfl; (focus (repeat (first | exact List.Mem.head _ | apply List.Mem.tail | assumption))); rfl) | apply wEq)
  have epre : (bstr nm ++ (⟨#[45]⟩ : ByteArray)) = preOf nm := bstr_append nm [45]
  have hreq : (bstr nm).size + (⟨#[45]⟩ : ByteArray).size ≤ 9223372036854775807 := by
    show (bstr nm).size + (bstr [45]).size ≤ _
    rw [bstr_size, bstr_size]; simp; omega
  refine wReq hreq ?_
  rw [epre]
  refine wAL H fun b w2 H => ?_
  repeat (first | apply mInt_mk | apply mCons_mk | (apply xC H; rfl; (focus (repeat (first | exact List.Mem.head _ | apply List.Mem.tail | assumption))); rfl) | apply mStr_mk | apply mNil_mk | apply mSlice_mk | (apply xI H; rfl; (focus (repeat (first | exact List.Mem.head _ | apply List.Mem.tail | assumption))); rfl) | (apply xST H; rfl; (focus (repeat (first | exact Upd.here _ | apply Upd.there))); (focus (repeat (first | exact SetAt.zero _ _ | apply SetAt.succ))); rfl; intro w1 H) | (apply xSl H; rfl; (focus (repeat (first | exact List.Mem.head _ | apply List.Mem.tail | assumption))); rfl) | (apply xP H; rfl; (focus (repeat (first | exact List.Mem.head _ | apply List.Mem.tail | assumption))); rfl) | (apply xS H; rfl; (focus (repeat (first | exact List.Mem.head _ | apply List.Mem.tail | assumption))); rfl) | apply nn | (apply wLW H; intro w1 H) | apply mTup_mk | apply mAgg_mk | apply mPtr_mk | apply mBool_mk | (apply xM H; rfl; (focus (repeat (first | exact List.Mem.head _ | apply List.Mem.tail | assumption))); rfl) | (apply xB H; rfl; (focus (repeat (first | exact List.Mem.head _ | apply List.Mem.tail | assumption))); rfl) | apply wEq)
  have H := H.front (dO db bm size born l)
  refine list_walk rfl H (.head _) (by omega) (fun w3 a n c H => mSlice_mk (wEq ?_)) rfl
  obtain ⟨ks, hks, hkl⟩ := exists_map (f := seg nm) (N := 1000000) (ns := listed [preOf nm] l) fun s hs => by
    rw [listed_mem, want_one] at hs
    exact hnames s hs.1 hs.2
  have hn : n = ks.length := by
    have := (H.get (i := 0) rfl : SliceAt w3 9 1 (.slice a n c) _).len
    simpa [strs, ← hks] using this
  subst hn
  have hkn : ks.length ≤ 1000000 := by
    have h1 := listed_len [preOf nm] l
    rw [← hks, List.length_map] at h1
    omega
  have H := (H.front (pt b (.cells #[.string (preOf nm)] 9))).tail
  have H : St w0 F w3 (sliceO 3 1 (.slice none 0 0) (nats []) :: sliceO 9 1 (.slice a ks.length c) (strs (listed [preOf nm] l)) :: dO db bm size born l :: L) := H.nothing 3 1 none
  refine wLoop (fun k s w' => ∃ (i : Nat) (oa : Option Addr) (on oc : Nat), k + i = ks.length ∧ s = (some ⟨p, 0, none⟩, oa, on, oc, a, ks.length, c, (ks.length : Int), (i : Int)) ∧
    St w0 F w' (sliceO 3 1 (.slice oa on oc) (nats (ks.take i)) :: sliceO 9 1 (.slice a ks.length c) (strs (listed [preOf nm] l)) :: dO db bm size born l :: L)) ⟨ks.length, 0, none, 0, 0, rfl, rfl, H⟩ ?_
  clear H
  rintro k s w4 ⟨i, oa, on, oc, hk, rfl, H⟩
  refine br (fun h => ?_) (fun h => ?_)
  · have hi : i < ks.length := by simp at h; omega
    obtain ⟨q, hq⟩ : ∃ q, ks[i]? = some q := ⟨_, List.getElem?_eq_getElem hi⟩
    have hq6 := hkl q (List.mem_of_getElem? hq)
    have hwi : IntKind.wrap .i64 ((i : Int) + 1) = ((i + 1 : Nat) : Int) := by rw [wrap_id (by omega) (by omega)]; rfl
    refine wIXr (H.get (i := 1) rfl : SliceAt w4 9 1 (.slice a ks.length c) _).reads (i := i) (by simp [strs, ← hks, hi]) rfl fun ad had => ?_
    rw [← hks, strs, List.getElem?_map, List.getElem?_map, hq] at had
    refine ldS had ?_
    repeat (first | apply mInt_mk | apply mCons_mk | (apply xC H; rfl; (focus (repeat (first | exact List.Mem.head _ | apply List.Mem.tail | assumption))); rfl) | apply mStr_mk | apply mNil_mk | apply mSlice_mk | (apply xI H; rfl; (focus (repeat (first | exact List.Mem.head _ | apply List.Mem.tail | assumption))); rfl) | (apply xST H; rfl; (focus (repeat (first | exact Upd.here _ | apply Upd.there))); (focus (repeat (first | exact SetAt.zero _ _ | apply SetAt.succ))); rfl; intro w1 H) | (apply xSl H; rfl; (focus (repeat (first | exact List.Mem.head _ | apply List.Mem.tail | assumption))); rfl) | (apply xP H; rfl; (focus (repeat (first | exact List.Mem.head _ | apply List.Mem.tail | assumption))); rfl) | (apply xS H; rfl; (focus (repeat (first | exact List.Mem.head _ | apply List.Mem.tail | assumption))); rfl) | apply nn | (apply wLW H; intro w1 H) | apply mTup_mk | apply mAgg_mk | apply mPtr_mk | apply mBool_mk | (apply xM H; rfl; (focus (repeat (first | exact List.Mem.head _ | apply List.Mem.tail | assumption))); rfl) | (apply xB H; rfl; (focus (repeat (first | exact List.Mem.head _ | apply List.Mem.tail | assumption))); rfl) | apply wEq)
    refine wReq hreq ?_
    have e1 : seg nm q = bstr ((nm ++ [45]) ++ dig6 q) := by unfold seg segL; simp
    rw [epre, e1]
    refine TrimPrefix_walk (mStr_mk ?_)
    refine Atoi_walk (n := (q : Int)) (by rw [bstr_size]; show 6 ≤ 18; decide) (by show Lib.atoi (bstr (dig6 q)).data.toList = _; simp only [bstr]; exact atoi_dig6 hq6) H fun w5 H => ?_
    repeat (first | apply mInt_mk | apply mCons_mk | (apply xC H; rfl; (focus (repeat (first | exact List.Mem.head _ | apply List.Mem.tail | assumption))); rfl) | apply mStr_mk | apply mNil_mk | apply mSlice_mk | (apply xI H; rfl; (focus (repeat (first | exact List.Mem.head _ | apply List.Mem.tail | assumption))); rfl) | (apply xST H; rfl; (focus (repeat (first | exact Upd.here _ | apply Upd.there))); (focus (repeat (first | exact SetAt.zero _ _ | apply SetAt.succ))); rfl; intro w1 H) | (apply xSl H; rfl; (focus (repeat (first | exact List.Mem.head _ | apply List.Mem.tail | assumption))); rfl) | (apply xP H; rfl; (focus (repeat (first | exact List.Mem.head _ | apply List.Mem.tail | assumption))); rfl) | (apply xS H; rfl; (focus (repeat (first | exact List.Mem.head _ | apply List.Mem.tail | assumption))); rfl) | apply nn | (apply wLW H; intro w1 H) | apply mTup_mk | apply mAgg_mk | apply mPtr_mk | apply mBool_mk | (apply xM H; rfl; (focus (repeat (first | exact List.Mem.head _ | apply List.Mem.tail | assumption))); rfl) | (apply xB H; rfl; (focus (repeat (first | exact List.Mem.head _ | apply List.Mem.tail | assumption))); rfl) | apply wEq)
    show Br true _ _
    refine brT rfl ?_
    repeat (first | apply mInt_mk | apply mCons_mk | (apply xC H; rfl; (focus (repeat (first | exact List.Mem.head _ | apply List.Mem.tail | assumption))); rfl) | apply mStr_mk | apply mNil_mk | apply mSlice_mk | (apply xI H; rfl; (focus (repeat (first | exact List.Mem.head _ | apply List.Mem.tail | assumption))); rfl) | (apply xST H; rfl; (focus (repeat (first | exact Upd.here _ | apply Upd.there))); (focus (repeat (first | exact SetAt.zero _ _ | apply SetAt.succ))); rfl; intro w1 H) | (apply xSl H; rfl; (focus (repeat (first | exact List.Mem.head _ | apply List.Mem.tail | assumption))); rfl) | (apply xP H; rfl; (focus (repeat (first | exact List.Mem.head _ | apply List.Mem.tail | assumption))); rfl) | (apply xS H; rfl; (focus (repeat (first | exact List.Mem.head _ | apply List.Mem.tail | assumption))); rfl) | apply nn | (apply wLW H; intro w1 H) | apply mTup_mk | apply mAgg_mk | apply mPtr_mk | apply mBool_mk | (apply xM H; rfl; (focus (repeat (first | exact List.Mem.head _ | apply List.Mem.tail | assumption))); rfl) | (apply xB H; rfl; (focus (repeat (first | exact List.Mem.head _ | apply List.Mem.tail | assumption))); rfl) | apply wEq)
    refine Segment_walk hq6 (by omega) H (.tail _ (.tail _ (.tail _ ht))) fun w6 H => mStr_mk ?_
    refine brT (by rw [e1]; simp) ?_
    refine al H fun b1 w7 hb1 _ H => ?_
    have hr : Reads w7 1 (.slice (some ⟨b1, 0, none⟩) 1 1) [.int .i64 (q : Int)] := by
      refine ⟨_, _, _, rfl, rfl, Nat.le_refl _, .inr ⟨_, rfl, fun j hj => ?_⟩⟩
      have : j = 0 := by simp at hj; omega
      subst this
      rw [Addr.add_mk, Nat.zero_add, cell_blk hb1]
      rfl
    obtain ⟨m, _, hsrc⟩ := hr.src (P := Tryd.prog) (tx := 29) elem_ints.under (by simp [Value.oneCell'])
    refine append_own (t := 29) (n := m) elem_ints (i := 0) H.tail rfl hsrc (by simp [nats]; omega) (by decide) fun v' w8 H hf _ => ?_
    obtain ⟨a', len, cap, rfl, _⟩ := (H.get (i := 0) rfl : SliceAt _ _ _ _ _)
    refine mSlice_mk ?_
    refine ⟨k - 1, by omega, i + 1, a', len, cap, by omega, by rw [hwi], ?_⟩
    obtain ⟨h5, e5⟩ := List.getElem?_eq_some_iff.1 hq
    have e6 : nats (ks.take (i + 1)) = nats (ks.take i) ++ [.int .i64 (q : Int)] := by
      rw [← List.take_append_getElem h5, e5]; simp [nats]
    rw [e6]
    exact H
  · have hi : ks.length ≤ i := by simp at h; omega
    rw [List.take_of_length_le hi] at H
    exact hK w4 oa on oc ks hkl hks (H.front (sliceO 9 1 (.slice a ks.length c) (strs (listed [preOf nm] l)))).tail
end
end Go.Proofs.YtnhjcjnjpciifaaDoor

/- A log's methods: cut, Append, Sync, Rotate, Truncate, First. -/
namespace Go.Proofs.YtnhjcjnjpciifaaDoor
open Go.Sh
theorem okc_dig6 (n : Nat) : (dig6 n).all okc = true := by
  have h : ∀ d : Fin 10, okc (UInt8.ofNat (48 + d.val)) = true := by decide +kernel
  have h' : ∀ d : Nat, d < 10 → okc (UInt8.ofNat (48 + d)) = true := fun d hd => h ⟨d, hd⟩
  simp only [dig6, List.all_cons, List.all_nil, Bool.and_true, Bool.and_eq_true]
  exact ⟨h' _ (by omega), h' _ (by omega), h' _ (by omega), h' _ (by omega), h' _ (by omega), h' _ (by omega)⟩
/-- A name that may be a log's. -/
def nmOk (nm : List UInt8) : Prop := nm.all okc = true ∧ nm.length ≤ 32
theorem bstr_ok {l : List UInt8} (h1 : l.all okc = true) (h2 : 1 ≤ l.length) (h3 : l.length ≤ 64) : nameOk (bstr l) = true := by
  unfold nameOk
  rw [bstr_size]
  have : (bstr l).data.toList = l := by simp [bstr]
  rw [this, h1]
  simp [h2, h3]
theorem seg_ok {nm : List UInt8} (h : nmOk nm) (n : Nat) : nameOk (seg nm n) = true := by
  refine bstr_ok ?_ (by simp [segL]; omega) (by have := h.2; simp [segL]; simp [dig6]; omega)
  unfold segL
  rw [List.all_append, h.1, List.all_cons, okc_dig6]
  decide
theorem tmp_ok {nm : List UInt8} (h : nmOk nm) : nameOk (tmpOf nm) = true := by
  refine bstr_ok ?_ (by simp) (by have := h.2; simp; omega)
  rw [List.all_append, h.1]
  decide
theorem seg_tmp (nm : List UInt8) (n : Nat) : seg nm n ≠ tmpOf nm := by
  intro h
  have h1 := bstr_inj h
  unfold segL at h1
  have h2 := List.append_cancel_left h1
  have h3 := (List.cons.inj h2).1
  revert h3; decide
theorem upd_upd (m : Look) (s : ByteArray) (u v : Option (List UInt8 × Nat)) : upd (upd m s u) s v = upd m s v := by
  funext t; by_cases h : t = s
  · subst h; simp
  · simp [upd, h]
theorem upd_comm (m : Look) {s t : ByteArray} (h : s ≠ t) (u v : Option (List UInt8 × Nat)) : upd (upd m s u) t v = upd (upd m t v) s u := by
  funext x; unfold upd
  by_cases h1 : x = t
  · subst h1; simp [Ne.symm h]
  · simp [h1]
theorem upd_self {m : Look} {s : ByteArray} {v : Option (List UInt8 × Nat)} (h : m s = v) : upd m s v = m := by
  funext t; by_cases ht : t = s
  · subst ht; simp [h]
  · simp [upd, ht]
attribute [local irreducible] rRun LDI LDB LDS LDP LDSl LDM LD Go.Sh.ST AL ALM LetW CallR CallV CallI NN IX SIX Br Req mInt mBool mStr mPtr mSlice mMap mAgg mTup mCons mNil mNth mPA LoopS
section
variable {w0 w : World} {F : List Nat} {L : List Own} {K : Value → World → Prop} {db bm p last : Nat} {size born : Int} {l : Files} {nm : List UInt8} {o : Obj}
theorem no_parts (A : List Own) : ExtP w A (.slice none 0 0) [] :=
  ⟨⟨⟨_, _, _, rfl, rfl, Nat.le_refl _, .inl rfl⟩, fun b hb => by simp [sblk] at hb⟩, fun q hq => by cases hq⟩
theorem cut_walk {n : Nat} {ba : Option Addr} {bn bc : Nat} {bs : Bytes} {x : List UInt8 × Nat} (hn : n < 1000000) (hnm : nmOk nm) (htl : total l ≤ 5000000000) (hbl : bs.length ≤ 1000000000) (H : St w0 F w (dO db bm size born l :: L)) (hlog : List.Mem (logO p db nm last) L) (ht : List.Mem (tabO o) L)
    (hr : ∀ w' l', St w0 F w' (dO db bm size born l' :: L) → Ext w' [dO db bm size born l'] 1 (.slice ba bn bc) (bvals bs)) (htmp : look l (tmpOf nm) = none) (hx : look l (seg nm n) = some x) (hroom : (total l : Int) + bs.length ≤ size)
    (hK : ∀ w' l', look l' = upd (look l) (seg nm n) (some (bs, bs.length)) → total l' + x.1.length = total l + bs.length → l'.length ≤ l.length + 1 → St w0 F w' (dO db bm size born l' :: L) → K (.int .i64 0) w') :
    CallR Tryd.prog fn_wal_Log_cut #[.pointer (some ⟨p, 0, none⟩), .int .i64 (n : Int), .slice ba bn bc] w K := by
  have hnl := hnm.2
  refine wal_Log_cut_sound _ _ _ _ _ _ _ ?_
  unfold wal_Log_cut_b0
  repeat (first | apply mInt_mk | apply mCons_mk | (apply xC H; rfl; (focus (repeat (first | exact List.Mem.head _ | apply List.Mem.tail | assumption))); rfl) | apply mStr_mk | apply mNil_mk | apply mSlice_mk | (apply xI H; rfl; (focus (repeat (first | exact List.Mem.head _ | apply List.Mem.tail | assumption))); rfl) | (apply xST H; rfl; (focus (repeat (first | exact Upd.here _ | apply Upd.there))); (focus (repeat (first | exact SetAt.zero _ _ | apply SetAt.succ))); rfl; intro w1 H) | (apply xSl H; rfl; (focus (repeat (first | exact List.Mem.head _ | apply List.Mem.tail | assumption))); rfl) | (apply xP H; rfl; (focus (repeat (first | exact List.Mem.head _ | apply List.Mem.tail | assumption))); rfl) | (apply xS H; rfl; (focus (repeat (first | exact List.Mem.head _ | apply List.Mem.tail | assumption))); rfl) | apply nn | (apply wLW H; intro w1 H) | apply mTup_mk | apply mAgg_mk | apply mPtr_mk | apply mBool_mk | (apply xM H; rfl; (focus (repeat (first | exact List.Mem.head _ | apply List.Mem.tail | assumption))); rfl) | (apply xB H; rfl; (focus (repeat (first | exact List.Mem.head _ | apply List.Mem.tail | assumption))); rfl) | apply wEq)
  have etmp : (bstr nm ++ (⟨#[46, 116, 109, 112]⟩ : ByteArray)) = tmpOf nm := bstr_append nm [46, 116, 109, 112]
  refine wReq (by show (bstr nm).size + (bstr [46, 116, 109, 112]).size ≤ _; rw [bstr_size, bstr_size]; simp; omega) ?_
  rw [etmp]
  repeat (first | apply mInt_mk | apply mCons_mk | (apply xC H; rfl; (focus (repeat (first | exact List.Mem.head _ | apply List.Mem.tail | assumption))); rfl) | apply mStr_mk | apply mNil_mk | apply mSlice_mk | (apply xI H; rfl; (focus (repeat (first | exact List.Mem.head _ | apply List.Mem.tail | assumption))); rfl) | (apply xST H; rfl; (focus (repeat (first | exact Upd.here _ | apply Upd.there))); (focus (repeat (first | exact SetAt.zero _ _ | apply SetAt.succ))); rfl; intro w1 H) | (apply xSl H; rfl; (focus (repeat (first | exact List.Mem.head _ | apply List.Mem.tail | assumption))); rfl) | (apply xP H; rfl; (focus (repeat (first | exact List.Mem.head _ | apply List.Mem.tail | assumption))); rfl) | (apply xS H; rfl; (focus (repeat (first | exact List.Mem.head _ | apply List.Mem.tail | assumption))); rfl) | apply nn | (apply wLW H; intro w1 H) | apply mTup_mk | apply mAgg_mk | apply mPtr_mk | apply mBool_mk | (apply xM H; rfl; (focus (repeat (first | exact List.Mem.head _ | apply List.Mem.tail | assumption))); rfl) | (apply xB H; rfl; (focus (repeat (first | exact List.Mem.head _ | apply List.Mem.tail | assumption))); rfl) | apply wEq)
  refine wAL H fun b1 w1 H => ?_
  refine delete_walk rfl (H.front (dO db bm size born l)) (by omega) (.head _) (fun _ w2 H => ?_) (fun y hy => by rw [htmp] at hy; cases hy) rfl
  have H := (H.front (pt b1 (.cells #[.string (tmpOf nm)] 9))).tail
  repeat (first | apply mInt_mk | apply mCons_mk | (apply xC H; rfl; (focus (repeat (first | exact List.Mem.head _ | apply List.Mem.tail | assumption))); rfl) | apply mStr_mk | apply mNil_mk | apply mSlice_mk | (apply xI H; rfl; (focus (repeat (first | exact List.Mem.head _ | apply List.Mem.tail | assumption))); rfl) | (apply xST H; rfl; (focus (repeat (first | exact Upd.here _ | apply Upd.there))); (focus (repeat (first | exact SetAt.zero _ _ | apply SetAt.succ))); rfl; intro w1 H) | (apply xSl H; rfl; (focus (repeat (first | exact List.Mem.head _ | apply List.Mem.tail | assumption))); rfl) | (apply xP H; rfl; (focus (repeat (first | exact List.Mem.head _ | apply List.Mem.tail | assumption))); rfl) | (apply xS H; rfl; (focus (repeat (first | exact List.Mem.head _ | apply List.Mem.tail | assumption))); rfl) | apply nn | (apply wLW H; intro w1 H) | apply mTup_mk | apply mAgg_mk | apply mPtr_mk | apply mBool_mk | (apply xM H; rfl; (focus (repeat (first | exact List.Mem.head _ | apply List.Mem.tail | assumption))); rfl) | (apply xB H; rfl; (focus (repeat (first | exact List.Mem.head _ | apply List.Mem.tail | assumption))); rfl) | apply wEq)
  refine wAL H fun b2 w3 H => ?_
  have H := H.front (dO db bm size born l)
  have hr3 := hr w3 l (H.front (pt b2 (.cells #[.slice ba bn bc] 41))).tail
  have hp : ExtP w3 [dO db bm size born l] (.slice (some ⟨b2, 0, none⟩) 1 1) [⟨ba, bn, bc, bs⟩] := ext_part (A := [_]) (B := pt b2 (.cells #[.slice ba bn bc] 41) :: L) H (List.mem_cons_self ..) rfl hr3 rfl
  have hpl : plen [(⟨ba, bn, bc, bs⟩ : PartR)] = bs.length := by simp [plen]
  have hpb : pbs [(⟨ba, bn, bc, bs⟩ : PartR)] = bs := by simp [pbs]
  refine append_walk H hp (by omega) (by simp) (by omega) (tmp_ok hnm) (fun hf => by omega) (fun _ w4 l1 hl1 ht1 hn1 H => ?_)
  rw [hpl] at ht1
  have hs0 : bsOf l (tmpOf nm) = [] ∧ synOf l (tmpOf nm) = 0 := by rw [bsOf_look, synOf_look, htmp]; exact ⟨rfl, rfl⟩
  rw [hpb, hs0.1, hs0.2, List.nil_append] at hl1
  have H := (H.front (pt b2 (.cells #[.slice ba bn bc] 41))).tail
  refine mInt_mk (brF rfl ?_)
  repeat (first | apply mInt_mk | apply mCons_mk | (apply xC H; rfl; (focus (repeat (first | exact List.Mem.head _ | apply List.Mem.tail | assumption))); rfl) | apply mStr_mk | apply mNil_mk | apply mSlice_mk | (apply xI H; rfl; (focus (repeat (first | exact List.Mem.head _ | apply List.Mem.tail | assumption))); rfl) | (apply xST H; rfl; (focus (repeat (first | exact Upd.here _ | apply Upd.there))); (focus (repeat (first | exact SetAt.zero _ _ | apply SetAt.succ))); rfl; intro w1 H) | (apply xSl H; rfl; (focus (repeat (first | exact List.Mem.head _ | apply List.Mem.tail | assumption))); rfl) | (apply xP H; rfl; (focus (repeat (first | exact List.Mem.head _ | apply List.Mem.tail | assumption))); rfl) | (apply xS H; rfl; (focus (repeat (first | exact List.Mem.head _ | apply List.Mem.tail | assumption))); rfl) | apply nn | (apply wLW H; intro w1 H) | apply mTup_mk | apply mAgg_mk | apply mPtr_mk | apply mBool_mk | (apply xM H; rfl; (focus (repeat (first | exact List.Mem.head _ | apply List.Mem.tail | assumption))); rfl) | (apply xB H; rfl; (focus (repeat (first | exact List.Mem.head _ | apply List.Mem.tail | assumption))); rfl) | apply wEq)
  refine wAL H fun b3 w5 H => ?_
  have H := H.front (dO db bm size born l1)
  refine sync_walk rfl H (.head _) (fun hno => by rw [hl1, upd_same] at hno; cases hno) (fun y hy w6 l2 hl2 ht2 hn2 H => ?_) rfl
  rw [hl1, upd_same] at hy
  cases hy
  have H := (H.front (pt b3 (.cells #[.string (tmpOf nm)] 9))).tail
  refine mInt_mk (wLW H ?_)
  intro w7 H
  repeat (first | apply mInt_mk | apply mCons_mk | (apply xC H; rfl; (focus (repeat (first | exact List.Mem.head _ | apply List.Mem.tail | assumption))); rfl) | apply mStr_mk | apply mNil_mk | apply mSlice_mk | (apply xI H; rfl; (focus (repeat (first | exact List.Mem.head _ | apply List.Mem.tail | assumption))); rfl) | (apply xST H; rfl; (focus (repeat (first | exact Upd.here _ | apply Upd.there))); (focus (repeat (first | exact SetAt.zero _ _ | apply SetAt.succ))); rfl; intro w1 H) | (apply xSl H; rfl; (focus (repeat (first | exact List.Mem.head _ | apply List.Mem.tail | assumption))); rfl) | (apply xP H; rfl; (focus (repeat (first | exact List.Mem.head _ | apply List.Mem.tail | assumption))); rfl) | (apply xS H; rfl; (focus (repeat (first | exact List.Mem.head _ | apply List.Mem.tail | assumption))); rfl) | apply nn | (apply wLW H; intro w1 H) | apply mTup_mk | apply mAgg_mk | apply mPtr_mk | apply mBool_mk | (apply xM H; rfl; (focus (repeat (first | exact List.Mem.head _ | apply List.Mem.tail | assumption))); rfl) | (apply xB H; rfl; (focus (repeat (first | exact List.Mem.head _ | apply List.Mem.tail | assumption))); rfl) | apply wEq)
  refine Segment_walk hn (by omega) H (.tail _ ht) fun w8 H => mStr_mk ?_
  repeat (first | apply mInt_mk | apply mCons_mk | (apply xC H; rfl; (focus (repeat (first | exact List.Mem.head _ | apply List.Mem.tail | assumption))); rfl) | apply mStr_mk | apply mNil_mk | apply mSlice_mk | (apply xI H; rfl; (focus (repeat (first | exact List.Mem.head _ | apply List.Mem.tail | assumption))); rfl) | (apply xST H; rfl; (focus (repeat (first | exact Upd.here _ | apply Upd.there))); (focus (repeat (first | exact SetAt.zero _ _ | apply SetAt.succ))); rfl; intro w1 H) | (apply xSl H; rfl; (focus (repeat (first | exact List.Mem.head _ | apply List.Mem.tail | assumption))); rfl) | (apply xP H; rfl; (focus (repeat (first | exact List.Mem.head _ | apply List.Mem.tail | assumption))); rfl) | (apply xS H; rfl; (focus (repeat (first | exact List.Mem.head _ | apply List.Mem.tail | assumption))); rfl) | apply nn | (apply wLW H; intro w1 H) | apply mTup_mk | apply mAgg_mk | apply mPtr_mk | apply mBool_mk | (apply xM H; rfl; (focus (repeat (first | exact List.Mem.head _ | apply List.Mem.tail | assumption))); rfl) | (apply xB H; rfl; (focus (repeat (first | exact List.Mem.head _ | apply List.Mem.tail | assumption))); rfl) | apply wEq)
  have hl2' : look l2 = upd (look l) (tmpOf nm) (some (bs, bs.length)) := by rw [hl2, hl1, upd_upd]
  refine rename_walk (x := (bs, bs.length)) H (by omega) (by rw [hl2', upd_same]) (seg_ok hnm n) (Ne.symm (seg_tmp nm n)) (fun w9 l3 hl3 ht3 hn3 H => ?_)
  refine mInt_mk (hK w9 l3 ?_ ?_ (by omega) H)
  · rw [hl3, hl2', upd_upd, upd_self htmp]
  · have : bsOf l2 (seg nm n) = x.1 := by
      rw [bsOf_look, hl2', upd_ne _ _ (seg_tmp nm n), hx]; rfl
    rw [this] at ht3
    omega
theorem log_append_walk {pa : Option Addr} {pn pc : Nat} {ps : List PartR} (hlast : last < 1000000) (hnm : nmOk nm) (htl : total l ≤ 5000000000) (hpl : ps.length ≤ 10000000) (hbl : plen ps ≤ 500000000) (hp1 : ∀ q ∈ ps, q.bs.length ≤ 67108864)
    (H : St w0 F w (dO db bm size born l :: L)) (hlog : List.Mem (logO p db nm last) L) (ht : List.Mem (tabO o) L) (hr : ∀ w', St w0 F w' (dO db bm size born l :: L) → ReadsP w' (.slice pa pn pc) ps)
    (hfull : (total l : Int) + (framesB crc (ps.map (·.bs))).length > size → ∀ w', St w0 F w' (dO db bm size born l :: L) → K (.int .i64 5) w')
    (hK : ∀ w' l', look l' = upd (look l) (seg nm last) (some (bsOf l (seg nm last) ++ framesB crc (ps.map (·.bs)), synOf l (seg nm last))) → total l' = total l + (framesB crc (ps.map (·.bs))).length → l'.length ≤ l.length + 1 → St w0 F w' (dO db bm size born l' :: L) → K (.int .i64 0) w') :
    CallR Tryd.prog fn_wal_Log_Append #[.pointer (some ⟨p, 0, none⟩), .slice pa pn pc] w K := by
  have hnl := hnm.2
  have hn : pn = ps.length := by simpa using (hr w H).1.len
  subst hn
  refine wal_Log_Append_sound _ _ _ _ _ _ ?_
  refine wLoop (fun k s w' => ∃ (i : Nat), k + i = ps.length ∧ s = (some ⟨p, 0, none⟩, pa, ps.length, pc, pa, ps.length, pc, (ps.length : Int), (i : Int)) ∧ St w0 F w' (dO db bm size born l :: L)) ⟨ps.length, 0, rfl, rfl, H⟩ ?_
  clear H
  rintro k s w1 ⟨i, hk, rfl, H⟩
  refine br (fun h => ?_) (fun h => ?_)
  · have hi : i < ps.length := by simp at h; omega
    obtain ⟨q, hq⟩ : ∃ q, ps[i]? = some q := ⟨_, List.getElem?_eq_getElem hi⟩
    have hqm := List.mem_of_getElem? hq
    have hwi : IntKind.wrap .i64 ((i : Int) + 1) = ((i + 1 : Nat) : Int) := by rw [wrap_id (by omega) (by omega)]; rfl
    refine wIXr (hr w1 H).1 (i := i) (by simpa using hi) rfl fun ad had => ?_
    rw [List.getElem?_map, hq] at had
    refine ldSl (b := q.a) (l := q.n) (c := q.c) had ?_
    have hqn : q.n = q.bs.length := by simpa using ((hr w1 H).2 q hqm).len
    have hq1 := hp1 q hqm
    refine brF (by simp; omega) ?_
    exact ⟨k - 1, by omega, i + 1, by omega, by rw [hwi], H⟩
  · refine wLW H ?_
    intro w2 H
    repeat (first | apply mInt_mk | apply mCons_mk | (apply xC H; rfl; (focus (repeat (first | exact List.Mem.head _ | apply List.Mem.tail | assumption))); rfl) | apply mStr_mk | apply mNil_mk | apply mSlice_mk | (apply xI H; rfl; (focus (repeat (first | exact List.Mem.head _ | apply List.Mem.tail | assumption))); rfl) | (apply xST H; rfl; (focus (repeat (first | exact Upd.here _ | apply Upd.there))); (focus (repeat (first | exact SetAt.zero _ _ | apply SetAt.succ))); rfl; intro w1 H) | (apply xSl H; rfl; (focus (repeat (first | exact List.Mem.head _ | apply List.Mem.tail | assumption))); rfl) | (apply xP H; rfl; (focus (repeat (first | exact List.Mem.head _ | apply List.Mem.tail | assumption))); rfl) | (apply xS H; rfl; (focus (repeat (first | exact List.Mem.head _ | apply List.Mem.tail | assumption))); rfl) | apply nn | (apply wLW H; intro w1 H) | apply mTup_mk | apply mAgg_mk | apply mPtr_mk | apply mBool_mk | (apply xM H; rfl; (focus (repeat (first | exact List.Mem.head _ | apply List.Mem.tail | assumption))); rfl) | (apply xB H; rfl; (focus (repeat (first | exact List.Mem.head _ | apply List.Mem.tail | assumption))); rfl) | apply wEq)
    refine Segment_walk hlast (by omega) H (.tail _ ht) fun w3 H => mStr_mk ?_
    repeat (first | apply mInt_mk | apply mCons_mk | (apply xC H; rfl; (focus (repeat (first | exact List.Mem.head _ | apply List.Mem.tail | assumption))); rfl) | apply mStr_mk | apply mNil_mk | apply mSlice_mk | (apply xI H; rfl; (focus (repeat (first | exact List.Mem.head _ | apply List.Mem.tail | assumption))); rfl) | (apply xST H; rfl; (focus (repeat (first | exact Upd.here _ | apply Upd.there))); (focus (repeat (first | exact SetAt.zero _ _ | apply SetAt.succ))); rfl; intro w1 H) | (apply xSl H; rfl; (focus (repeat (first | exact List.Mem.head _ | apply List.Mem.tail | assumption))); rfl) | (apply xP H; rfl; (focus (repeat (first | exact List.Mem.head _ | apply List.Mem.tail | assumption))); rfl) | (apply xS H; rfl; (focus (repeat (first | exact List.Mem.head _ | apply List.Mem.tail | assumption))); rfl) | apply nn | (apply wLW H; intro w1 H) | apply mTup_mk | apply mAgg_mk | apply mPtr_mk | apply mBool_mk | (apply xM H; rfl; (focus (repeat (first | exact List.Mem.head _ | apply List.Mem.tail | assumption))); rfl) | (apply xB H; rfl; (focus (repeat (first | exact List.Mem.head _ | apply List.Mem.tail | assumption))); rfl) | apply wEq)
    refine Frames_walk H hr (by omega) (by omega) fun w4 fa fn fc H => mSlice_mk ?_
    repeat (first | apply mInt_mk | apply mCons_mk | (apply xC H; rfl; (focus (repeat (first | exact List.Mem.head _ | apply List.Mem.tail | assumption))); rfl) | apply mStr_mk | apply mNil_mk | apply mSlice_mk | (apply xI H; rfl; (focus (repeat (first | exact List.Mem.head _ | apply List.Mem.tail | assumption))); rfl) | (apply xST H; rfl; (focus (repeat (first | exact Upd.here _ | apply Upd.there))); (focus (repeat (first | exact SetAt.zero _ _ | apply SetAt.succ))); rfl; intro w1 H) | (apply xSl H; rfl; (focus (repeat (first | exact List.Mem.head _ | apply List.Mem.tail | assumption))); rfl) | (apply xP H; rfl; (focus (repeat (first | exact List.Mem.head _ | apply List.Mem.tail | assumption))); rfl) | (apply xS H; rfl; (focus (repeat (first | exact List.Mem.head _ | apply List.Mem.tail | assumption))); rfl) | apply nn | (apply wLW H; intro w1 H) | apply mTup_mk | apply mAgg_mk | apply mPtr_mk | apply mBool_mk | (apply xM H; rfl; (focus (repeat (first | exact List.Mem.head _ | apply List.Mem.tail | assumption))); rfl) | (apply xB H; rfl; (focus (repeat (first | exact List.Mem.head _ | apply List.Mem.tail | assumption))); rfl) | apply wEq)
    refine wAL H fun b w5 H => ?_
    repeat (first | apply mInt_mk | apply mCons_mk | (apply xC H; rfl; (focus (repeat (first | exact List.Mem.head _ | apply List.Mem.tail | assumption))); rfl) | apply mStr_mk | apply mNil_mk | apply mSlice_mk | (apply xI H; rfl; (focus (repeat (first | exact List.Mem.head _ | apply List.Mem.tail | assumption))); rfl) | (apply xST H; rfl; (focus (repeat (first | exact Upd.here _ | apply Upd.there))); (focus (repeat (first | exact SetAt.zero _ _ | apply SetAt.succ))); rfl; intro w1 H) | (apply xSl H; rfl; (focus (repeat (first | exact List.Mem.head _ | apply List.Mem.tail | assumption))); rfl) | (apply xP H; rfl; (focus (repeat (first | exact List.Mem.head _ | apply List.Mem.tail | assumption))); rfl) | (apply xS H; rfl; (focus (repeat (first | exact List.Mem.head _ | apply List.Mem.tail | assumption))); rfl) | apply nn | (apply wLW H; intro w1 H) | apply mTup_mk | apply mAgg_mk | apply mPtr_mk | apply mBool_mk | (apply xM H; rfl; (focus (repeat (first | exact List.Mem.head _ | apply List.Mem.tail | assumption))); rfl) | (apply xB H; rfl; (focus (repeat (first | exact List.Mem.head _ | apply List.Mem.tail | assumption))); rfl) | apply wEq)
    have H := H.front (dO db bm size born l)
    have hall : ∀ q ∈ ps, q.bs.length ≤ 60000000000 := fun q hq => Nat.le_trans (hp1 q hq) (by decide)
    have hfl := framesB_len_le ps hall
    have hp : ExtP w5 [dO db bm size born l] (.slice (some ⟨b, 0, none⟩) 1 1) [⟨fa, fn, fc, framesB crc (ps.map (·.bs))⟩] :=
      ext_part (A := [_]) (B := pt b (.cells #[.slice fa fn fc] 41) :: sliceO 5 1 (.slice fa fn fc) (bvals (framesB crc (ps.map (·.bs)))) :: L) H (List.mem_cons_self ..) rfl (Sh.St.ext (A := [_]) (E := 5) H (List.mem_cons_of_mem _ (List.mem_cons_self ..))) rfl
    have hpl1 : plen [(⟨fa, fn, fc, framesB crc (ps.map (·.bs))⟩ : PartR)] = (framesB crc (ps.map (·.bs))).length := by simp [plen]
    have hpb : pbs [(⟨fa, fn, fc, framesB crc (ps.map (·.bs))⟩ : PartR)] = framesB crc (ps.map (·.bs)) := by simp [pbs]
    refine append_walk H hp (by omega) (by simp) (by omega) (seg_ok hnm last) (fun hf w6 H => mInt_mk ?_) (fun _ w6 l1 hl1 ht1 hn1 H => mInt_mk ?_)
    · rw [hpl1] at hf
      exact hfull hf w6 (((H.front (pt b (.cells #[.slice fa fn fc] 41))).tail.front (sliceO 5 1 (.slice fa fn fc) (bvals (framesB crc (ps.map (·.bs)))))).tail)
    · rw [hpl1] at ht1
      rw [hpb] at hl1
      exact hK w6 l1 hl1 ht1 hn1 (((H.front (pt b (.cells #[.slice fa fn fc] 41))).tail.front (sliceO 5 1 (.slice fa fn fc) (bvals (framesB crc (ps.map (·.bs)))))).tail)
theorem log_sync_walk {x : List UInt8 × Nat} (hlast : last < 1000000) (hnm : nmOk nm) (H : St w0 F w (dO db bm size born l :: L)) (hlog : List.Mem (logO p db nm last) L) (ht : List.Mem (tabO o) L) (hx : look l (seg nm last) = some x)
    (hK : ∀ w' l', look l' = upd (look l) (seg nm last) (some (x.1, x.1.length)) → total l' = total l → l'.length = l.length → St w0 F w' (dO db bm size born l' :: L) → K (.int .i64 0) w') :
    CallR Tryd.prog fn_wal_Log_Sync #[.pointer (some ⟨p, 0, none⟩)] w K := by
  have hnl := hnm.2
  refine wal_Log_Sync_sound _ _ _ ?_
  refine wLW H ?_
  intro w1 H
  repeat (first | apply mInt_mk | apply mCons_mk | (apply xC H; rfl; (focus (repeat (first | exact List.Mem.head _ | apply List.Mem.tail | assumption))); rfl) | apply mStr_mk | apply mNil_mk | apply mSlice_mk | (apply xI H; rfl; (focus (repeat (first | exact List.Mem.head _ | apply List.Mem.tail | assumption))); rfl) | (apply xST H; rfl; (focus (repeat (first | exact Upd.here _ | apply Upd.there))); (focus (repeat (first | exact SetAt.zero _ _ | apply SetAt.succ))); rfl; intro w1 H) | (apply xSl H; rfl; (focus (repeat (first | exact List.Mem.head _ | apply List.Mem.tail | assumption))); rfl) | (apply xP H; rfl; (focus (repeat (first | exact List.Mem.head _ | apply List.Mem.tail | assumption))); rfl) | (apply xS H; rfl; (focus (repeat (first | exact List.Mem.head _ | apply List.Mem.tail | assumption))); rfl) | apply nn | (apply wLW H; intro w1 H) | apply mTup_mk | apply mAgg_mk | apply mPtr_mk | apply mBool_mk | (apply xM H; rfl; (focus (repeat (first | exact List.Mem.head _ | apply List.Mem.tail | assumption))); rfl) | (apply xB H; rfl; (focus (repeat (first | exact List.Mem.head _ | apply List.Mem.tail | assumption))); rfl) | apply wEq)
  refine Segment_walk hlast (by omega) H (.tail _ ht) fun w2 H => mStr_mk ?_
  repeat (first | apply mInt_mk | apply mCons_mk | (apply xC H; rfl; (focus (repeat (first | exact List.Mem.head _ | apply List.Mem.tail | assumption))); rfl) | apply mStr_mk | apply mNil_mk | apply mSlice_mk | (apply xI H; rfl; (focus (repeat (first | exact List.Mem.head _ | apply List.Mem.tail | assumption))); rfl) | (apply xST H; rfl; (focus (repeat (first | exact Upd.here _ | apply Upd.there))); (focus (repeat (first | exact SetAt.zero _ _ | apply SetAt.succ))); rfl; intro w1 H) | (apply xSl H; rfl; (focus (repeat (first | exact List.Mem.head _ | apply List.Mem.tail | assumption))); rfl) | (apply xP H; rfl; (focus (repeat (first | exact List.Mem.head _ | apply List.Mem.tail | assumption))); rfl) | (apply xS H; rfl; (focus (repeat (first | exact List.Mem.head _ | apply List.Mem.tail | assumption))); rfl) | apply nn | (apply wLW H; intro w1 H) | apply mTup_mk | apply mAgg_mk | apply mPtr_mk | apply mBool_mk | (apply xM H; rfl; (focus (repeat (first | exact List.Mem.head _ | apply List.Mem.tail | assumption))); rfl) | (apply xB H; rfl; (focus (repeat (first | exact List.Mem.head _ | apply List.Mem.tail | assumption))); rfl) | apply wEq)
  refine wAL H fun b w3 H => ?_
  repeat (first | apply mInt_mk | apply mCons_mk | (apply xC H; rfl; (focus (repeat (first | exact List.Mem.head _ | apply List.Mem.tail | assumption))); rfl) | apply mStr_mk | apply mNil_mk | apply mSlice_mk | (apply xI H; rfl; (focus (repeat (first | exact List.Mem.head _ | apply List.Mem.tail | assumption))); rfl) | (apply xST H; rfl; (focus (repeat (first | exact Upd.here _ | apply Upd.there))); (focus (repeat (first | exact SetAt.zero _ _ | apply SetAt.succ))); rfl; intro w1 H) | (apply xSl H; rfl; (focus (repeat (first | exact List.Mem.head _ | apply List.Mem.tail | assumption))); rfl) | (apply xP H; rfl; (focus (repeat (first | exact List.Mem.head _ | apply List.Mem.tail | assumption))); rfl) | (apply xS H; rfl; (focus (repeat (first | exact List.Mem.head _ | apply List.Mem.tail | assumption))); rfl) | apply nn | (apply wLW H; intro w1 H) | apply mTup_mk | apply mAgg_mk | apply mPtr_mk | apply mBool_mk | (apply xM H; rfl; (focus (repeat (first | exact List.Mem.head _ | apply List.Mem.tail | assumption))); rfl) | (apply xB H; rfl; (focus (repeat (first | exact List.Mem.head _ | apply List.Mem.tail | assumption))); rfl) | apply wEq)
  refine sync_walk rfl (H.front (dO db bm size born l)) (.head _) (fun hno => by rw [hx] at hno; cases hno) (fun y hy w4 l1 hl1 ht1 hn1 H => mInt_mk ?_) rfl
  rw [hx] at hy
  cases hy
  exact hK w4 l1 hl1 ht1 hn1 (H.front (pt b (.cells #[.string (seg nm last)] 9))).tail
theorem log_rotate_walk {x : List UInt8 × Nat} (hlast : last < 999999) (hnm : nmOk nm) (htl : total l ≤ 5000000000) (hsz : (total l : Int) ≤ size) (H : St w0 F w (dO db bm size born l :: logO p db nm last :: L)) (ht : List.Mem (tabO o) L) (hx : look l (seg nm last) = some x)
    (hno : look l (seg nm (last + 1)) = none)
    (hK : ∀ w' l', look l' = upd (upd (look l) (seg nm last) (some (x.1, x.1.length))) (seg nm (last + 1)) (some ([], 0)) → total l' = total l → l'.length ≤ l.length + 1 → St w0 F w' (dO db bm size born l' :: logO p db nm (last + 1) :: L) → K (.int .i64 0) w') :
    CallR Tryd.prog fn_wal_Log_Rotate #[.pointer (some ⟨p, 0, none⟩)] w K := by
  have hnl := hnm.2
  refine wal_Log_Rotate_sound _ _ _ ?_
  repeat (first | apply mInt_mk | apply mCons_mk | (apply xC H; rfl; (focus (repeat (first | exact List.Mem.head _ | apply List.Mem.tail | assumption))); rfl) | apply mStr_mk | apply mNil_mk | apply mSlice_mk | (apply xI H; rfl; (focus (repeat (first | exact List.Mem.head _ | apply List.Mem.tail | assumption))); rfl) | (apply xST H; rfl; (focus (repeat (first | exact Upd.here _ | apply Upd.there))); (focus (repeat (first | exact SetAt.zero _ _ | apply SetAt.succ))); rfl; intro w1 H) | (apply xSl H; rfl; (focus (repeat (first | exact List.Mem.head _ | apply List.Mem.tail | assumption))); rfl) | (apply xP H; rfl; (focus (repeat (first | exact List.Mem.head _ | apply List.Mem.tail | assumption))); rfl) | (apply xS H; rfl; (focus (repeat (first | exact List.Mem.head _ | apply List.Mem.tail | assumption))); rfl) | apply nn | (apply wLW H; intro w1 H) | apply mTup_mk | apply mAgg_mk | apply mPtr_mk | apply mBool_mk | (apply xM H; rfl; (focus (repeat (first | exact List.Mem.head _ | apply List.Mem.tail | assumption))); rfl) | (apply xB H; rfl; (focus (repeat (first | exact List.Mem.head _ | apply List.Mem.tail | assumption))); rfl) | apply wEq)
  refine brF (by simp; omega) ?_
  refine log_sync_walk (by omega) hnm H (.head _) (.tail _ ht) hx fun w1 l1 hl1 ht1 hn1 H => mInt_mk ?_
  repeat (first | apply mInt_mk | apply mCons_mk | (apply xC H; rfl; (focus (repeat (first | exact List.Mem.head _ | apply List.Mem.tail | assumption))); rfl) | apply mStr_mk | apply mNil_mk | apply mSlice_mk | (apply xI H; rfl; (focus (repeat (first | exact List.Mem.head _ | apply List.Mem.tail | assumption))); rfl) | (apply xST H; rfl; (focus (repeat (first | exact Upd.here _ | apply Upd.there))); (focus (repeat (first | exact SetAt.zero _ _ | apply SetAt.succ))); rfl; intro w1 H) | (apply xSl H; rfl; (focus (repeat (first | exact List.Mem.head _ | apply List.Mem.tail | assumption))); rfl) | (apply xP H; rfl; (focus (repeat (first | exact List.Mem.head _ | apply List.Mem.tail | assumption))); rfl) | (apply xS H; rfl; (focus (repeat (first | exact List.Mem.head _ | apply List.Mem.tail | assumption))); rfl) | apply nn | (apply wLW H; intro w1 H) | apply mTup_mk | apply mAgg_mk | apply mPtr_mk | apply mBool_mk | (apply xM H; rfl; (focus (repeat (first | exact List.Mem.head _ | apply List.Mem.tail | assumption))); rfl) | (apply xB H; rfl; (focus (repeat (first | exact List.Mem.head _ | apply List.Mem.tail | assumption))); rfl) | apply wEq)
  have hw : IntKind.wrap .i64 ((last : Int) + 1) = ((last + 1 : Nat) : Int) := by rw [wrap_id (by omega) (by omega)]; rfl
  rw [hw] at H ⊢
  refine Segment_walk (by omega) (by omega) H (.tail _ (.tail _ ht)) fun w2 H => mStr_mk ?_
  repeat (first | apply mInt_mk | apply mCons_mk | (apply xC H; rfl; (focus (repeat (first | exact List.Mem.head _ | apply List.Mem.tail | assumption))); rfl) | apply mStr_mk | apply mNil_mk | apply mSlice_mk | (apply xI H; rfl; (focus (repeat (first | exact List.Mem.head _ | apply List.Mem.tail | assumption))); rfl) | (apply xST H; rfl; (focus (repeat (first | exact Upd.here _ | apply Upd.there))); (focus (repeat (first | exact SetAt.zero _ _ | apply SetAt.succ))); rfl; intro w1 H) | (apply xSl H; rfl; (focus (repeat (first | exact List.Mem.head _ | apply List.Mem.tail | assumption))); rfl) | (apply xP H; rfl; (focus (repeat (first | exact List.Mem.head _ | apply List.Mem.tail | assumption))); rfl) | (apply xS H; rfl; (focus (repeat (first | exact List.Mem.head _ | apply List.Mem.tail | assumption))); rfl) | apply nn | (apply wLW H; intro w1 H) | apply mTup_mk | apply mAgg_mk | apply mPtr_mk | apply mBool_mk | (apply xM H; rfl; (focus (repeat (first | exact List.Mem.head _ | apply List.Mem.tail | assumption))); rfl) | (apply xB H; rfl; (focus (repeat (first | exact List.Mem.head _ | apply List.Mem.tail | assumption))); rfl) | apply wEq)
  have hne : seg nm (last + 1) ≠ seg nm last := fun h => by have := seg_inj (by omega) (by omega) h; omega
  have hno1 : look l1 (seg nm (last + 1)) = none := by rw [hl1, upd_ne _ _ hne]; exact hno
  refine append_walk H (no_parts _) (by simp [plen]) (by simp) (by omega) (seg_ok hnm _) (fun hf => by simp [plen] at hf; omega) (fun _ w3 l2 hl2 ht2 hn2 H => mInt_mk ?_)
  refine hK w3 l2 ?_ (by simp [plen] at ht2; omega) (by omega) H
  rw [hl2, bsOf_look, synOf_look, hno1, hl1]
  rfl
theorem log_segment_walk (H : St w0 F w L) (hlog : List.Mem (logO p db nm last) L) (hK : K (.int .i64 (last : Int)) w) : CallR Tryd.prog fn_wal_Log_Segment #[.pointer (some ⟨p, 0, none⟩)] w K := by
  refine wal_Log_Segment_sound _ _ _ ?_
  repeat (first | apply mInt_mk | apply mCons_mk | (apply xC H; rfl; (focus (repeat (first | exact List.Mem.head _ | apply List.Mem.tail | assumption))); rfl) | apply mStr_mk | apply mNil_mk | apply mSlice_mk | (apply xI H; rfl; (focus (repeat (first | exact List.Mem.head _ | apply List.Mem.tail | assumption))); rfl) | (apply xST H; rfl; (focus (repeat (first | exact Upd.here _ | apply Upd.there))); (focus (repeat (first | exact SetAt.zero _ _ | apply SetAt.succ))); rfl; intro w1 H) | (apply xSl H; rfl; (focus (repeat (first | exact List.Mem.head _ | apply List.Mem.tail | assumption))); rfl) | (apply xP H; rfl; (focus (repeat (first | exact List.Mem.head _ | apply List.Mem.tail | assumption))); rfl) | (apply xS H; rfl; (focus (repeat (first | exact List.Mem.head _ | apply List.Mem.tail | assumption))); rfl) | apply nn | (apply wLW H; intro w1 H) | apply mTup_mk | apply mAgg_mk | apply mPtr_mk | apply mBool_mk | (apply xM H; rfl; (focus (repeat (first | exact List.Mem.head _ | apply List.Mem.tail | assumption))); rfl) | (apply xB H; rfl; (focus (repeat (first | exact List.Mem.head _ | apply List.Mem.tail | assumption))); rfl) | apply wEq)
  exact hK
end
end Go.Proofs.YtnhjcjnjpciifaaDoor
