/- Sync. -/
import Derived.Test.YtimgbkabfkdabaaHE
namespace Go.Proofs.Ytimgbkabfkdabaa
open Go.Sh
attribute [local irreducible] rRun LDI LDB LDS LDP LDSl LDM LD Go.Sh.ST AL ALM LetW CallR CallV CallI NN IX SIX Br Req mInt mBool mStr mPtr mSlice mMap mAgg mTup mCons mNil mNth mPA LoopS

def syncOne (l : Files) (s : ByteArray) : Files := match aget l s with | some f => aput l s { f with syn := f.bs.length } | none => l
theorem syncOne_some {l : Files} {s t : ByteArray} (h : (aget l t).isSome = true) : (aget (syncOne l s) t).isSome = true := by
  unfold syncOne
  cases hg : aget l s with
  | none => exact h
  | some f =>
    simp only
    by_cases e : t = s
    · subst e; rw [aget_aput]; rfl
    · rw [aget_aput_ne l _ e]; exact h
theorem syncs_some {t : ByteArray} (ns : List ByteArray) : ∀ {l : Files}, (aget l t).isSome = true → (aget (ns.foldl syncOne l) t).isSome = true := by
  induction ns with
  | nil => intro l h; exact h
  | cons s r ih => intro l h; exact ih (syncOne_some h)

section
variable {w0 w : World} {F : List Nat} {L R : List Own}
theorem Sync_spec {db bm : Nat} {size used born : Int} {l : Files} {na : Option Addr} {nn' nc : Nat} {ns : List ByteArray} (hA : Has w [diskO db bm size used born l])
    (hb : Ext w [diskO db bm size used born l] 1 (.slice na nn' nc) (strs ns)) (hl : ns.length ≤ 1000000000000) :
    CallS Try.prog fn_disk_Disk_Sync #[.pointer (some ⟨db, 0, none⟩), .slice na nn' nc] w [diskO db bm size used born l] fun r _ A =>
      (allIn l ns = false ∧ r = .int .i64 4 ∧ A = [diskO db bm size used born l]) ∨ (allIn l ns = true ∧ r = .int .i64 0 ∧ A = [diskO db bm size used born (ns.foldl syncOne l)]) := by
  have hn : nn' = ns.length := by
    obtain ⟨⟨_, _, _, he, h1, _⟩, _⟩ := hb
    cases he
    simpa [strs] using h1
  subst hn
  refine CallS_intro hA fun H => disk_Disk_Sync_sound _ _ _ _ _ _ ?_
  refine wCall H (fun hA => all_spec hA hb hl) (hK := ?_)
  rintro r w1 A' ⟨rfl, rfl⟩ _ H
  repeat (first | refine nn ?_ | refine wI H (hK := ?_) | refine wP H (hK := ?_) | refine wM H (hK := ?_) | refine wSl H (hK := ?_) | refine wB H (hK := ?_) | refine wS H (hK := ?_) | refine wEq ?_ | refine wC H (hK := ?_) | (refine wLW H ?_; intro w1 H) | (refine wST H (hK := ?_); intro w1 H _) | refine mSlice_mk ?_ | refine mInt_mk ?_ | refine mBool_mk ?_ | refine mTup_mk ?_ | refine mCons_mk ?_ | refine mNil_mk ?_ | refine mAgg_mk ?_ | refine mPtr_mk ?_ | refine mStr_mk ?_)
  refine br (fun h => ⟨_, .inl ⟨by simpa using h, rfl, rfl⟩, H.left (L := [_])⟩) (fun h => ?_)
  have hall : allIn l ns = true := by simpa using h
  refine wLoop (fun k x w' => ∃ i : Nat, k + i = ns.length ∧ x = (some ⟨db, 0, none⟩, na, ns.length, nc, (ns.length : Int), (i : Int)) ∧
    St w (fps [diskO db bm size used born l]) w' [diskO db bm size used born ((ns.take i).foldl syncOne l)]) ?_ ?_
  · exact ⟨ns.length, 0, by omega, rfl, H.left (L := [_])⟩
  clear H
  rintro k x w1 ⟨i, hk, rfl, H⟩
  refine br (fun h => ?_) (fun h => ?_)
  · have hi : i < ns.length := by simp at h; omega
    obtain ⟨s, hs⟩ : ∃ s, ns[i]? = some s := ⟨_, List.getElem?_eq_getElem hi⟩
    have htk : (ns.take (i + 1)).foldl syncOne l = syncOne ((ns.take i).foldl syncOne l) s := by
      obtain ⟨hi', he⟩ := List.getElem?_eq_some_iff.1 hs
      rw [← List.take_append_getElem hi', List.foldl_append, he]; rfl
    have hsome : (aget ((ns.take i).foldl syncOne l) s).isSome = true := syncs_some _ (List.all_eq_true.1 hall s (List.mem_of_getElem? hs))
    generalize (ns.take i).foldl syncOne l = g at H htk hsome
    obtain ⟨f, hg⟩ := Option.isSome_iff_exists.1 hsome
    refine wIXr (hb.reads (by decide) H.fr) (i := i) (by simpa [strs] using hi) rfl fun ad had => ?_
    have hcell : (strs ns)[i]? = some (.string s) := by simp [strs, hs]
    rw [hcell] at had
    refine ldS had ?_
    have H := H.diskOpen
    repeat (first | refine nn ?_ | refine wI H (hK := ?_) | refine wP H (hK := ?_) | refine wM H (hK := ?_) | refine wSl H (hK := ?_) | refine wB H (hK := ?_) | refine wS H (hK := ?_) | refine wEq ?_ | refine wC H (hK := ?_) | (refine wLW H ?_; intro w1 H) | (refine wST H (hK := ?_); intro w1 H _) | refine mSlice_mk ?_ | refine mInt_mk ?_ | refine mBool_mk ?_ | refine mTup_mk ?_ | refine mCons_mk ?_ | refine mNil_mk ?_ | refine mAgg_mk ?_ | refine mPtr_mk ?_ | refine mStr_mk ?_)
    refine wLookupF H (hK := mPtr_mk ?_)
    repeat (first | refine nn ?_ | refine wI H (hK := ?_) | refine wP H (hK := ?_) | refine wM H (hK := ?_) | refine wSl H (hK := ?_) | refine wB H (hK := ?_) | refine wS H (hK := ?_) | refine wEq ?_ | refine wC H (hK := ?_) | (refine wLW H ?_; intro w1 H) | (refine wST H (hK := ?_); intro w1 H _) | refine mSlice_mk ?_ | refine mInt_mk ?_ | refine mBool_mk ?_ | refine mTup_mk ?_ | refine mCons_mk ?_ | refine mNil_mk ?_ | refine mAgg_mk ?_ | refine mPtr_mk ?_ | refine mStr_mk ?_)
    refine wLookupF H (hK := mPtr_mk ?_)
    rw [hg]
    have H := file_out (H.front (filesO g)) hg
    obtain ⟨_, _, _, he, h1, _⟩ := (H.has.all (sliceO 5 1 (.slice f.a f.n f.c) (bvals f.bs)) (by simp) : SliceAt _ 5 1 (.slice f.a f.n f.c) (bvals f.bs))
    cases he
    have hfn : f.n = f.bs.length := by simpa using h1
    repeat (first | refine nn ?_ | refine wI H (hK := ?_) | refine wP H (hK := ?_) | refine wM H (hK := ?_) | refine wSl H (hK := ?_) | refine wB H (hK := ?_) | refine wS H (hK := ?_) | refine wEq ?_ | refine wC H (hK := ?_) | (refine wLW H ?_; intro w1 H) | (refine wST H (hK := ?_); intro w1 H _) | refine mSlice_mk ?_ | refine mInt_mk ?_ | refine mBool_mk ?_ | refine mTup_mk ?_ | refine mCons_mk ?_ | refine mNil_mk ?_ | refine mAgg_mk ?_ | refine mPtr_mk ?_ | refine mStr_mk ?_)
    have hw : IntKind.wrap .i64 ((i : Int) + 1) = ((i + 1 : Nat) : Int) := by rw [wrap_id (by omega) (by omega)]; rfl
    rw [show ((f.n : Nat) : Int) = ((f.bs.length : Nat) : Int) by rw [hfn]] at H
    have H := file_in (f := { f with syn := f.bs.length }) H
    have e : filesM bm g = filesM bm (aput g s { f with syn := f.bs.length }) := by
      unfold filesM
      congr 1
      have h2 := aput_map (fun f : FileR => (.pointer (some ⟨f.fb, 0, none⟩) : Value)) g s { f with syn := f.bs.length }
      rw [← h2]
      exact (aput_self (by rw [aget_map (fun f : FileR => (.pointer (some ⟨f.fb, 0, none⟩) : Value)), hg]; rfl)).symm
    rw [e] at H
    have H := ((H.front (filesM bm (aput g s { f with syn := f.bs.length }))).front (pt db (.cells #[.int .i64 size, .int .i64 used, .int .i64 born, .map (some bm)] 67))).diskClose
    have e2 : syncOne g s = aput g s { f with syn := f.bs.length } := by unfold syncOne; rw [hg]
    show ∃ k', k' < k ∧ _
    exact ⟨k - 1, by omega, i + 1, by omega, by rw [hw], by rw [htk, e2]; exact H⟩
  · have hi : ns.length ≤ i := by simp at h; omega
    rw [List.take_of_length_le hi] at H
    exact ⟨_, .inr ⟨hall, rfl, rfl⟩, H⟩
end
end Go.Proofs.Ytimgbkabfkdabaa
