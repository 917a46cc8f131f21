/- Delete. -/
import Derived.Test.YtimgbkabfkdabaaHG
namespace Go.Proofs.Ytimgbkabfkdabaa
open Go.Sh
attribute [local irreducible] rRun LDI LDB LDS LDP LDSl LDM LD Go.Sh.ST AL ALM LetW CallR CallV CallI NN IX SIX Br Req mInt mBool mStr mPtr mSlice mMap mAgg mTup mCons mNil mNth mPA LoopS

/-- Deleting a name, on how many bytes are used and on the files. -/
def delOne (x : Int × Files) (s : ByteArray) : Int × Files := match aget x.2 s with | some f => (x.1 - f.bs.length, adel x.2 s) | none => x

section
variable {w0 w : World} {F : List Nat} {L R : List Own}
theorem Delete_spec {db bm : Nat} {size used born : Int} {l : Files} {na : Option Addr} {nn' nc : Nat} {ns : List ByteArray} (hA : Has w [diskO db bm size used born l])
    (hb : Ext w [diskO db bm size used born l] 1 (.slice na nn' nc) (strs ns)) (hl : ns.length ≤ 1000000000000)
    (hw : ∀ i f s, ns[i]? = some s → aget ((ns.take i).foldl delOne (used, l)).2 s = some f → -9223372036854775808 ≤ ((ns.take i).foldl delOne (used, l)).1 - f.bs.length ∧ ((ns.take i).foldl delOne (used, l)).1 - f.bs.length < 9223372036854775808) :
    CallS Try.prog fn_disk_Disk_Delete #[.pointer (some ⟨db, 0, none⟩), .slice na nn' nc] w [diskO db bm size used born l] fun r _ A =>
      (allIn l ns = false ∧ r = .int .i64 4 ∧ A = [diskO db bm size used born l]) ∨
      (allIn l ns = true ∧ r = .int .i64 0 ∧ A = [diskO db bm size (ns.foldl delOne (used, l)).1 born (ns.foldl delOne (used, l)).2]) := by
  have hn : nn' = ns.length := by
    obtain ⟨⟨_, _, _, he, h1, _⟩, _⟩ := hb
    cases he
    simpa [strs] using h1
  subst hn
  refine CallS_intro hA fun H => disk_Disk_Delete_sound _ _ _ _ _ _ ?_
  refine wCall H (fun hA => all_spec hA hb hl) (hK := ?_)
  rintro r w1 A' ⟨rfl, rfl⟩ _ H
  repeat (first | refine nn ?_ | refine wI H (hK := ?_) | refine wP H (hK := ?_) | refine wM H (hK := ?_) | refine wSl H (hK := ?_) | refine wB H (hK := ?_) | refine wS H (hK := ?_) | refine wEq ?_ | refine wC H (hK := ?_) | (refine wLW H ?_; intro w1 H) | (refine wST H (hK := ?_); intro w1 H _) | refine mSlice_mk ?_ | refine mInt_mk ?_ | refine mBool_mk ?_ | refine mTup_mk ?_ | refine mCons_mk ?_ | refine mNil_mk ?_ | refine mAgg_mk ?_ | refine mPtr_mk ?_ | refine mStr_mk ?_)
  refine br (fun h => ⟨_, .inl ⟨by simpa using h, rfl, rfl⟩, H.left (L := [_])⟩) (fun h => ?_)
  have hall : allIn l ns = true := by simpa using h
  refine wLoop (fun k x w' => ∃ i : Nat, k + i = ns.length ∧ x = (some ⟨db, 0, none⟩, na, ns.length, nc, (ns.length : Int), (i : Int)) ∧
    St w (fps [diskO db bm size used born l]) w' [diskO db bm size ((ns.take i).foldl delOne (used, l)).1 born ((ns.take i).foldl delOne (used, l)).2]) ?_ ?_
  · exact ⟨ns.length, 0, by omega, rfl, H.left (L := [_])⟩
  clear H
  rintro k x w1 ⟨i, hk, rfl, H⟩
  refine br (fun h => ?_) (fun h => ?_)
  · have hi : i < ns.length := by simp at h; omega
    obtain ⟨s, hs⟩ : ∃ s, ns[i]? = some s := ⟨_, List.getElem?_eq_getElem hi⟩
    have htk : (ns.take (i + 1)).foldl delOne (used, l) = delOne ((ns.take i).foldl delOne (used, l)) s := by
      obtain ⟨hi', he⟩ := List.getElem?_eq_some_iff.1 hs
      rw [← List.take_append_getElem hi', List.foldl_append, he]; rfl
    have hwi := fun f => hw i f s hs
    generalize (ns.take i).foldl delOne (used, l) = g at H htk hwi
    obtain ⟨u, g⟩ := g
    have hw1 : IntKind.wrap .i64 ((i : Int) + 1) = ((i + 1 : Nat) : Int) := by rw [wrap_id (by omega) (by omega)]; rfl
    refine wIXr (hb.reads (by decide) H.fr) (i := i) (by simpa [strs] using hi) rfl fun ad had => ?_
    have hcell : (strs ns)[i]? = some (.string s) := by simp [strs, hs]
    rw [hcell] at had
    refine ldS had ?_
    have H := H.diskOpen
    repeat (first | refine nn ?_ | refine wI H (hK := ?_) | refine wP H (hK := ?_) | refine wM H (hK := ?_) | refine wSl H (hK := ?_) | refine wB H (hK := ?_) | refine wS H (hK := ?_) | refine wEq ?_ | refine wC H (hK := ?_) | (refine wLW H ?_; intro w1 H) | (refine wST H (hK := ?_); intro w1 H _) | refine mSlice_mk ?_ | refine mInt_mk ?_ | refine mBool_mk ?_ | refine mTup_mk ?_ | refine mCons_mk ?_ | refine mNil_mk ?_ | refine mAgg_mk ?_ | refine mPtr_mk ?_ | refine mStr_mk ?_)
    refine wLookupF H (hK := mPtr_mk ?_)
    cases hg : aget g s with
    | none =>
      refine br (fun h => by cases h) (fun _ => ?_)
      have e2 : delOne (u, g) s = (u, g) := by unfold delOne; simp only; rw [hg]
      show ∃ k', k' < k ∧ _
      exact ⟨k - 1, by omega, i + 1, by omega, by rw [hw1], by rw [htk, e2]; exact H.diskClose⟩
    | some f =>
      refine br (fun _ => ?_) (fun h => by cases h)
      have H := file_out (H.front (filesO g)) hg
      obtain ⟨_, _, _, he, h1, _⟩ := (H.has.all (sliceO 5 1 (.slice f.a f.n f.c) (bvals f.bs)) (by simp) : SliceAt _ 5 1 (.slice f.a f.n f.c) (bvals f.bs))
      cases he
      have hfn : f.n = f.bs.length := by simpa using h1
      repeat (first | refine nn ?_ | refine wI H (hK := ?_) | refine wP H (hK := ?_) | refine wM H (hK := ?_) | refine wSl H (hK := ?_) | refine wB H (hK := ?_) | refine wS H (hK := ?_) | refine wEq ?_ | refine wC H (hK := ?_) | (refine wLW H ?_; intro w1 H) | (refine wST H (hK := ?_); intro w1 H _) | refine mSlice_mk ?_ | refine mInt_mk ?_ | refine mBool_mk ?_ | refine mTup_mk ?_ | refine mCons_mk ?_ | refine mNil_mk ?_ | refine mAgg_mk ?_ | refine mPtr_mk ?_ | refine mStr_mk ?_)
      have hw2 : IntKind.wrap .i64 (u - (f.n : Int)) = u - (f.bs.length : Int) := by rw [hfn]; exact wrap_id (hwi f hg).1 (hwi f hg).2
      rw [hw2] at H
      refine delete_own map_str (i := 4) H rfl s fun w2 H _ => ?_
      rw [adel_map (fun f : FileR => (.pointer (some ⟨f.fb, 0, none⟩) : Value))] at H
      refine mTup_mk (mNil_mk ?_)
      have H := ((H.tail.tail.front (filesM bm (adel g s))).front (pt db (.cells #[.int .i64 size, .int .i64 (u - f.bs.length), .int .i64 born, .map (some bm)] 67))).diskClose
      have e2 : delOne (u, g) s = (u - f.bs.length, adel g s) := by unfold delOne; simp only; rw [hg]
      show ∃ k', k' < k ∧ _
      exact ⟨k - 1, by omega, i + 1, by omega, by rw [hw1], by rw [htk, e2]; exact H⟩
  · have hi : ns.length ≤ i := by simp at h; omega
    rw [List.take_of_length_le hi] at H
    exact ⟨_, .inr ⟨hall, rfl, rfl⟩, H⟩
end
end Go.Proofs.Ytimgbkabfkdabaa
