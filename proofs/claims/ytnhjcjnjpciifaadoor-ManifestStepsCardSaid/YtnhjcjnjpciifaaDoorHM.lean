/- The chapter's example. -/
import Derived.Test.YtnhjcjnjpciifaaDoorHJ
import Derived.Test.YtnhjcjnjpciifaaDoorShFast
namespace Go.Proofs.YtnhjcjnjpciifaaDoor
open Go.Sh
attribute [local irreducible] rRun LDI LDB LDS LDP LDSl LDM LD Go.Sh.ST AL ALM LetW CallR CallV CallI NN IX SIX Br Req mInt mBool mStr mPtr mSlice mMap mAgg mTup mCons mNil mNth mPA LoopS
abbrev T1 : Tab := ⟨1, 1, ⟨#[97]⟩, ⟨#[99]⟩, 0⟩
abbrev T2 : Tab := ⟨2, 1, ⟨#[99]⟩, ⟨#[100]⟩, 0⟩
abbrev T3 : Tab := ⟨2, 0, ⟨#[99]⟩, ⟨#[100]⟩, 0⟩
abbrev V1 : Ver := ⟨[T1], 0, 2, 0⟩
abbrev E1 : EditP := ⟨[T1], [], 0, 2, 0⟩
abbrev E2 : EditP := ⟨[T2], [], 0, 0, 0⟩
abbrev E3 : EditP := ⟨[T3], [], 0, 0, 0⟩
abbrev E4 : EditP := ⟨[], [7], 0, 0, 0⟩
theorem ap1 : applyP zeroV E1 = (V1, 0) := by kernel_rfl
theorem ap2 : (applyP V1 E2).2 = 15 := by decide +kernel
theorem ap3 : (applyP V1 E3).2 = 0 := by decide +kernel
theorem ap4 : (applyP V1 E4).2 = 4 := by decide +kernel
theorem ok1 : OkV V1 := by
  have := OkV.zero.apply E1
  rw [ap1] at this
  exact this
section
variable {w0 w : World} {F : List Nat} {L M : List Own} {K : Value → World → Prop}
abbrev tabP (b : Nat) (t : Tab) : Own := pt b (.cells #[.int .i64 t.file, .int .i64 t.level, .string t.first, .string t.last, .int .i64 t.size] 38)
theorem one_tab {b : Nat} {t : Tab} (h : w.heap[b]? = some (.cells #[.int .i64 t.file, .int .i64 t.level, .string t.first, .string t.last, .int .i64 t.size] 38)) : Reads w 5 (.slice (some ⟨b, 0, none⟩) 1 1) ([t].flatMap Tab.cells) := by
  refine ⟨_, _, _, rfl, rfl, Nat.le_refl _, .inr ⟨_, rfl, fun j hj => ?_⟩⟩
  rw [Addr.add_mk, Nat.zero_add, cell_blk h]
  simp [Tab.cells]
theorem no_tabs {a : Option Addr} {c : Nat} : Reads w 5 (.slice a 0 c) (([] : List Tab).flatMap Tab.cells) := ⟨_, _, _, rfl, rfl, Nat.zero_le _, .inl rfl⟩
theorem no_ints {a : Option Addr} {c : Nat} : Reads w 1 (.slice a 0 c) (ints []) := ⟨_, _, _, rfl, rfl, Nat.zero_le _, .inl rfl⟩
theorem table_walk {f l : Int} {s t : ByteArray} {Q : Value → World → Prop} (H : St w0 F w L) (hK : ∀ w', St w0 F w' L → Q (.agg #[.int .i64 f, .int .i64 l, .string s, .string t, .int .i64 0]) w') :
    CallR Tryd.prog fn_glacierlaw8_table #[.int .i64 f, .int .i64 l, .string s, .string t] w Q := by
  refine glacierlaw8_table_sound _ _ _ _ _ _ ?_
  refine wAL H fun p w1 H => ?_
  repeat (first | refine nn ?_ | refine wI H (hK := ?_) | refine wP H (hK := ?_) | refine wM H (hK := ?_) | refine wSl H (hK := ?_) | refine wB H (hK := ?_) | refine wS H (hK := ?_) | refine wEq ?_ | refine wC H (hK := ?_) | (refine wLW H ?_; intro w1 H) | (refine wST H (hK := ?_); intro w1 H _) | refine mSlice_mk ?_ | refine mInt_mk ?_ | refine mBool_mk ?_ | refine mTup_mk ?_ | refine mCons_mk ?_ | refine mNil_mk ?_ | refine mAgg_mk ?_ | refine mPtr_mk ?_ | refine mStr_mk ?_)
  exact hK _ H.tail
theorem app1 {b d : Nat} (H : St w0 F w L) (hb : List.Mem (pt b (.cells #[.slice (some ⟨d, 0, none⟩) 1 1, .slice none 0 0, .int .u64 0, .int .i64 2, .int .i64 0] 31)) L)
    (hd : List.Mem (tabP d T1) L)
    (hK : ∀ w' ta tc, St w0 F w' (tabsO (.slice ta 1 tc) [T1] :: L) → K (okV (.slice ta 1 tc) 0 2 0) w') :
    CallR Tryd.prog fn_manifest_Apply #[.agg #[.slice none 0 0, .int .u64 0, .int .i64 0, .int .i64 0], .slice (some ⟨b, 0, none⟩) 1 1] w K := by
  have e1 : appliesP zeroV ([(⟨some ⟨d, 0, none⟩, 1, 1, none, 0, 0, E1⟩ : EditR)].map (·.e)) = (V1, 0) := (one_applies zeroV E1).trans ap1
  refine Apply_walk (v := zeroV) (es := [⟨some ⟨d, 0, none⟩, 1, 1, none, 0, 0, E1⟩]) OkV.zero (by decide) (by simp) (fun y hy => by rw [List.mem_singleton.1 hy]; exact ⟨by simp, by simp⟩) (fun _ _ _ => no_tabs)
    (fun w' N H => edits_pt (x := ⟨some ⟨d, 0, none⟩, 1, 1, none, 0, 0, E1⟩) (H.has.all _ (List.mem_append_right N hb)) ⟨one_tab (t := T1) (H.has.all _ (List.mem_append_right N hd)), no_ints⟩) H (fun h => ?_) (fun _ w' ta tn tc H => ?_)
  · rw [e1] at h; exact absurd rfl h
  · rw [e1] at H ⊢
    have hn := tabs_len (H.get (i := 0) rfl : SliceAt w' 38 5 (.slice ta tn tc) _).reads
    have : tn = 1 := hn
    subst this
    exact hK w' _ _ H
theorem app2 {b d : Nat} {ta : Option Addr} {tc : Nat} (H : St w0 F w L) (hb : List.Mem (pt b (.cells #[.slice (some ⟨d, 0, none⟩) 1 1, .slice none 0 0, .int .u64 0, .int .i64 0, .int .i64 0] 31)) L)
    (hd : List.Mem (tabP d T2) L) (ht : List.Mem (tabsO (.slice ta 1 tc) [T1]) L)
    (hK : ∀ w', St w0 F w' L → K (errV 15) w') :
    CallR Tryd.prog fn_manifest_Apply #[.agg #[.slice ta 1 tc, .int .u64 0, .int .i64 2, .int .i64 0], .slice (some ⟨b, 0, none⟩) 1 1] w K := by
  have e1 : (appliesP V1 ([(⟨some ⟨d, 0, none⟩, 1, 1, none, 0, 0, E2⟩ : EditR)].map (·.e))).2 = 15 := (congrArg Prod.snd (one_applies V1 E2)).trans ap2
  refine Apply_walk (v := V1) (es := [⟨some ⟨d, 0, none⟩, 1, 1, none, 0, 0, E2⟩]) ok1 (by decide) (by simp) (fun y hy => by rw [List.mem_singleton.1 hy]; exact ⟨by simp, by simp⟩) (fun w' N H => (H.has.all _ (List.mem_append_right N ht) : SliceAt w' 38 5 (.slice ta 1 tc) _).reads)
    (fun w' N H => edits_pt (x := ⟨some ⟨d, 0, none⟩, 1, 1, none, 0, 0, E2⟩) (H.has.all _ (List.mem_append_right N hb)) ⟨one_tab (t := T2) (H.has.all _ (List.mem_append_right N hd)), no_ints⟩) H (fun _ w' H => ?_) (fun h => ?_)
  · rw [e1]; exact hK w' H
  · rw [e1] at h; exact absurd h (by decide)
theorem app3 {b d : Nat} {ta : Option Addr} {tc : Nat} (H : St w0 F w L) (hb : List.Mem (pt b (.cells #[.slice (some ⟨d, 0, none⟩) 1 1, .slice none 0 0, .int .u64 0, .int .i64 0, .int .i64 0] 31)) L)
    (hd : List.Mem (tabP d T3) L) (ht : List.Mem (tabsO (.slice ta 1 tc) [T1]) L)
    (hK : ∀ w' a n c s k q, St w0 F w' L → K (okV (.slice a n c) s k q) w') :
    CallR Tryd.prog fn_manifest_Apply #[.agg #[.slice ta 1 tc, .int .u64 0, .int .i64 2, .int .i64 0], .slice (some ⟨b, 0, none⟩) 1 1] w K := by
  have e1 : (appliesP V1 ([(⟨some ⟨d, 0, none⟩, 1, 1, none, 0, 0, E3⟩ : EditR)].map (·.e))).2 = 0 := (congrArg Prod.snd (one_applies V1 E3)).trans ap3
  refine Apply_walk (v := V1) (es := [⟨some ⟨d, 0, none⟩, 1, 1, none, 0, 0, E3⟩]) ok1 (by decide) (by simp) (fun y hy => by rw [List.mem_singleton.1 hy]; exact ⟨by simp, by simp⟩) (fun w' N H => (H.has.all _ (List.mem_append_right N ht) : SliceAt w' 38 5 (.slice ta 1 tc) _).reads)
    (fun w' N H => edits_pt (x := ⟨some ⟨d, 0, none⟩, 1, 1, none, 0, 0, E3⟩) (H.has.all _ (List.mem_append_right N hb)) ⟨one_tab (t := T3) (H.has.all _ (List.mem_append_right N hd)), no_ints⟩) H (fun h => ?_) (fun _ w' a n c H => ?_)
  · rw [e1] at h; exact absurd rfl h
  · exact hK w' _ _ _ _ _ _ H.tail
theorem app4 {b d : Nat} {ta : Option Addr} {tc : Nat} (H : St w0 F w L) (hb : List.Mem (pt b (.cells #[.slice none 0 0, .slice (some ⟨d, 0, none⟩) 1 1, .int .u64 0, .int .i64 0, .int .i64 0] 31)) L)
    (hd : List.Mem (pt d (.cells #[.int .i64 7] 3)) L) (ht : List.Mem (tabsO (.slice ta 1 tc) [T1]) L)
    (hK : ∀ w', St w0 F w' L → K (errV 4) w') :
    CallR Tryd.prog fn_manifest_Apply #[.agg #[.slice ta 1 tc, .int .u64 0, .int .i64 2, .int .i64 0], .slice (some ⟨b, 0, none⟩) 1 1] w K := by
  have e1 : (appliesP V1 ([(⟨none, 0, 0, some ⟨d, 0, none⟩, 1, 1, E4⟩ : EditR)].map (·.e))).2 = 4 := (congrArg Prod.snd (one_applies V1 E4)).trans ap4
  refine Apply_walk (v := V1) (es := [⟨none, 0, 0, some ⟨d, 0, none⟩, 1, 1, E4⟩]) ok1 (by decide) (by simp) (fun y hy => by rw [List.mem_singleton.1 hy]; exact ⟨by simp, by simp⟩) (fun w' N H => (H.has.all _ (List.mem_append_right N ht) : SliceAt w' 38 5 (.slice ta 1 tc) _).reads)
    (fun w' N H => edits_pt (x := ⟨none, 0, 0, some ⟨d, 0, none⟩, 1, 1, E4⟩) (H.has.all _ (List.mem_append_right N hb)) ⟨no_tabs, ?_⟩) H (fun _ w' H => ?_) (fun h => ?_)
  · have h7 : w'.heap[d]? = some (.cells #[.int .i64 7] 3) := H.has.all _ (List.mem_append_right N hd)
    refine ⟨_, _, _, rfl, rfl, Nat.le_refl _, .inr ⟨_, rfl, fun j hj => ?_⟩⟩
    have : j = 0 := by simp [ints] at hj; omega
    subst this
    rw [Addr.add_mk, cell_blk h7]; rfl
  · rw [e1]; exact hK w' H
  · rw [e1] at h; exact absurd h (by decide)
theorem File3 {Q : Value → World → Prop} (hK : Q (.string ⟨#[116, 45, 48, 48, 48, 48, 48, 51]⟩) w) : CallR Tryd.prog fn_manifest_File #[.int .i64 3] w Q := by
  refine manifest_File_sound _ _ _ ?_
  refine manifest_six_sound _ _ _ ?_
  refine strconv_Itoa_sound _ _ _ (internal_strconv_Itoa_sound _ _ _ (internal_strconv_FormatInt_sound _ _ _ _ ?_))
  refine br (fun _ => ?_) (fun h => absurd h (by decide))
  refine br (fun _ => ?_) (fun h => absurd h (by decide))
  refine br (fun _ => ?_) (fun h => absurd h (by decide))
  refine internal_strconv_small_sound _ _ _ ?_
  refine br (fun _ => ?_) (fun h => absurd h (by decide))
  refine rRun_intro (v := .string ⟨#[51]⟩) (w' := w) ?_ (mStr_mk (mStr_mk (mStr_mk (mStr_mk (mStr_mk ?_)))))
  · have hw : IntKind.wrap .i64 (3 + 1) = 4 := by decide
    rw [hw, run_sliceAt_string w 9 _ _ _ _ Tryd.underlying9, run_slice_string w 9 _ .i64 .i64 3 4 Tryd.underlying9 (by decide) (by decide) (by decide)]
    rfl
  refine wLoop (fun k s w' => w' = w ∧ (k = 5 ∧ s = (⟨#[51]⟩ : ByteArray) ∨ k = 4 ∧ s = (⟨#[48, 51]⟩ : ByteArray) ∨ k = 3 ∧ s = (⟨#[48, 48, 51]⟩ : ByteArray) ∨ k = 2 ∧ s = (⟨#[48, 48, 48, 51]⟩ : ByteArray) ∨ k = 1 ∧ s = (⟨#[48, 48, 48, 48, 51]⟩ : ByteArray) ∨ k = 0 ∧ s = (⟨#[48, 48, 48, 48, 48, 51]⟩ : ByteArray))) ⟨5, rfl, .inl ⟨rfl, rfl⟩⟩ ?_
  rintro k s w' ⟨rfl, h⟩
  rcases h with ⟨rfl, rfl⟩ | ⟨rfl, rfl⟩ | ⟨rfl, rfl⟩ | ⟨rfl, rfl⟩ | ⟨rfl, rfl⟩ | ⟨rfl, rfl⟩
  · refine br (fun _ => wReq (by decide) ⟨4, by decide, rfl, .inr (.inl ⟨rfl, by decide⟩)⟩) (fun h => absurd h (by decide))
  · refine br (fun _ => wReq (by decide) ⟨3, by decide, rfl, .inr (.inr (.inl ⟨rfl, by decide⟩))⟩) (fun h => absurd h (by decide))
  · refine br (fun _ => wReq (by decide) ⟨2, by decide, rfl, .inr (.inr (.inr (.inl ⟨rfl, by decide⟩)))⟩) (fun h => absurd h (by decide))
  · refine br (fun _ => wReq (by decide) ⟨1, by decide, rfl, .inr (.inr (.inr (.inr (.inl ⟨rfl, by decide⟩))))⟩) (fun h => absurd h (by decide))
  · refine br (fun _ => wReq (by decide) ⟨0, by decide, rfl, .inr (.inr (.inr (.inr (.inr ⟨rfl, by decide⟩))))⟩) (fun h => absurd h (by decide))
  · refine br (fun h => absurd h (by decide)) (fun _ => ?_)
    refine mStr_mk (wReq (by decide) ?_)
    exact hK
end
end Go.Proofs.YtnhjcjnjpciifaaDoor
