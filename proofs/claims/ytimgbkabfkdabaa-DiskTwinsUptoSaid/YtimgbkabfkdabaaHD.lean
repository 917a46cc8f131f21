/- Unsynced, Lose, Rename. -/
import Derived.Test.YtimgbkabfkdabaaHC
namespace Go.Proofs.Ytimgbkabfkdabaa
open Go.Sh
attribute [local irreducible] rRun LDI LDB LDS LDP LDSl LDM LD Go.Sh.ST AL ALM LetW CallR CallV CallI NN IX SIX Br Req mInt mBool mStr mPtr mSlice mMap mAgg mTup mCons mNil mNth mPA LoopS

theorem aget_adel_ne {β : Type} {l : List (ByteArray × β)} {k j : ByteArray} (h : j ≠ k) : aget (adel l k) j = aget l j := by
  induction l with
  | nil => rfl
  | cons e t ih =>
    obtain ⟨a, y⟩ := e
    simp only [adel]
    split
    · rename_i hk; subst hk; simp only [aget, h, if_false]
    · simp only [aget, ih]
theorem adel_aput_comm {β : Type} {l : List (ByteArray × β)} {k j : ByteArray} (x : β) (h : j ≠ k) : adel (aput l j x) k = aput (adel l k) j x := by
  induction l with
  | nil => simp [aput, adel, Ne.symm h]
  | cons e t ih =>
    obtain ⟨a, y⟩ := e
    by_cases h1 : j = a
    · subst h1
      simp only [aput, adel, if_true, Ne.symm h, if_false]
    · by_cases h2 : k = a
      · subst h2
        simp only [aput, adel, h1, if_false, if_true]
      · simp only [aput, adel, h1, h2, if_false, ih]

section
variable {w0 w : World} {F : List Nat} {L R : List Own}
theorem Unsynced_spec {db bm : Nat} {size used born : Int} {l : Files} {s : ByteArray} (hA : Has w [diskO db bm size used born l]) (hn : ∀ f, aget l s = some f → f.bs.length ≤ 1000000000000 ∧ f.syn ≤ 1000000000000) :
    CallS Try.prog fn_disk_Disk_Unsynced #[.pointer (some ⟨db, 0, none⟩), .string s] w [diskO db bm size used born l] fun r _ A =>
      r = .int .i64 (((bsOf l s).length : Int) - (synOf l s : Int)) ∧ A = [diskO db bm size used born l] := by
  refine CallS_intro hA fun H => disk_Disk_Unsynced_sound _ _ _ _ ?_
  have H := H.diskOpen
  repeat (first | refine nn ?_ | refine wI H (hK := ?_) | refine wP H (hK := ?_) | refine wM H (hK := ?_) | refine wSl H (hK := ?_) | refine wB H (hK := ?_) | refine wS H (hK := ?_) | refine wEq ?_ | refine wC H (hK := ?_) | (refine wLW H ?_; intro w1 H) | (refine wST H (hK := ?_); intro w1 H _) | refine mSlice_mk ?_ | refine mInt_mk ?_ | refine mBool_mk ?_ | refine mTup_mk ?_ | refine mCons_mk ?_ | refine mNil_mk ?_ | refine mAgg_mk ?_ | refine mPtr_mk ?_ | refine mStr_mk ?_)
  refine wLookupF H (hK := ?_)
  cases hg : aget l s with
  | none =>
    refine mPtr_mk (br (fun _ => ?_) (fun h => by cases h))
    exact ⟨_, ⟨by simp [bsOf, synOf, hg], rfl⟩, H.diskClose⟩
  | some f =>
    refine mPtr_mk (br (fun h => by cases h) (fun _ => ?_))
    have H := file_out (H.front (filesO l)) hg
    obtain ⟨_, _, _, he, h1, _⟩ := (H.has.all (sliceO 5 1 (.slice f.a f.n f.c) (bvals f.bs)) (by simp) : SliceAt _ 5 1 (.slice f.a f.n f.c) (bvals f.bs))
    cases he
    have hfn : f.n = f.bs.length := by simpa using h1
    repeat (first | refine nn ?_ | refine wI H (hK := ?_) | refine wP H (hK := ?_) | refine wM H (hK := ?_) | refine wSl H (hK := ?_) | refine wB H (hK := ?_) | refine wS H (hK := ?_) | refine wEq ?_ | refine wC H (hK := ?_) | (refine wLW H ?_; intro w1 H) | (refine wST H (hK := ?_); intro w1 H _) | refine mSlice_mk ?_ | refine mInt_mk ?_ | refine mBool_mk ?_ | refine mTup_mk ?_ | refine mCons_mk ?_ | refine mNil_mk ?_ | refine mAgg_mk ?_ | refine mPtr_mk ?_ | refine mStr_mk ?_)
    have hb := hn f hg
    have hw : IntKind.wrap .i64 ((f.n : Int) - (f.syn : Int)) = (f.bs.length : Int) - (f.syn : Int) := by rw [hfn]; exact wrap_id (by omega) (by omega)
    rw [hw]
    have H := file_back hg H
    have H := ((H.front (filesM bm l)).front (pt db (.cells #[.int .i64 size, .int .i64 used, .int .i64 born, .map (some bm)] 67))).diskClose
    exact ⟨_, ⟨by simp [bsOf, synOf, hg], rfl⟩, H⟩

theorem Lose_spec {db bm : Nat} {size used born : Int} {l : Files} (hA : Has w [diskO db bm size used born l]) (hb : 0 ≤ born ∧ born ≤ 1000000000000) :
    CallS Try.prog fn_disk_Disk_Lose #[.pointer (some ⟨db, 0, none⟩)] w [diskO db bm size used born l] fun r _ A => r = .tuple #[] ∧ ∃ bm', A = [diskO db bm' size 0 (born + 1) []] := by
  refine CallS_intro hA fun H => disk_Disk_Lose_sound _ _ _ ?_
  have H := H.diskOpen
  refine wALM H fun bm' w1 H => ?_
  have H := (H.newMap strV)
  repeat (first | refine nn ?_ | refine wI H (hK := ?_) | refine wP H (hK := ?_) | refine wM H (hK := ?_) | refine wSl H (hK := ?_) | refine wB H (hK := ?_) | refine wS H (hK := ?_) | refine wEq ?_ | refine wC H (hK := ?_) | (refine wLW H ?_; intro w1 H) | (refine wST H (hK := ?_); intro w1 H _) | refine mSlice_mk ?_ | refine mInt_mk ?_ | refine mBool_mk ?_ | refine mTup_mk ?_ | refine mCons_mk ?_ | refine mNil_mk ?_ | refine mAgg_mk ?_ | refine mPtr_mk ?_ | refine mStr_mk ?_)
  have hw : IntKind.wrap .i64 (born + 1) = born + 1 := wrap_id (by omega) (by omega)
  rw [hw] at H
  have H := ((H.front (filesO l)).tail.front (filesM bm l)).tail
  have H2 : St w (fps [diskO db bm size used born l]) _ ([mapO strV bm' [], pt db (.cells #[.int .i64 size, .int .i64 0, .int .i64 (born + 1), .map (some bm')] 67)] ++ []) := H
  have H3 := Sh.St.close (M := []) (H2.perm List.perm_append_comm)
  have H4 := (H3.front (mapO strV bm' [])).front (pt db (.cells #[.int .i64 size, .int .i64 0, .int .i64 (born + 1), .map (some bm')] 67))
  exact ⟨_, ⟨rfl, bm', rfl⟩, St.diskClose (l := []) H4⟩

/-- The renamed file's place. -/
theorem rename_rest {w1 : World} {A : List Own} {db bm : Nat} {size used born : Int} {l : Files} {s t : ByteArray} {f : FileR} {K : Value → World → Prop} (hst : t ≠ s)
    (H : St w (fps A) w1 [pt f.fb (.cells #[.slice f.a f.n f.c, .int .i64 f.syn] 71), sliceO 5 1 (.slice f.a f.n f.c) (bvals f.bs), filesO (adel (adel l s) t),
      pt db (.cells #[.int .i64 size, .int .i64 used, .int .i64 born, .map (some bm)] 67), filesM bm l])
    (hK : ∀ w', St w (fps A) w' [diskO db bm size used born (aput (adel l s) t f)] → K (.int .i64 0) w') :
    disk_Disk_Rename_b0 (some ⟨db, 0, none⟩) s t (some ⟨f.fb, 0, none⟩) K w1 := by
  refine nn ?_
  repeat (first | refine nn ?_ | refine wI H (hK := ?_) | refine wP H (hK := ?_) | refine wM H (hK := ?_) | refine wSl H (hK := ?_) | refine wB H (hK := ?_) | refine wS H (hK := ?_) | refine wEq ?_ | refine wC H (hK := ?_) | (refine wLW H ?_; intro w1 H) | (refine wST H (hK := ?_); intro w1 H _) | refine mSlice_mk ?_ | refine mInt_mk ?_ | refine mBool_mk ?_ | refine mTup_mk ?_ | refine mCons_mk ?_ | refine mNil_mk ?_ | refine mAgg_mk ?_ | refine mPtr_mk ?_ | refine mStr_mk ?_)
  refine mapUpdate_own map_str (i := 4) H rfl t _ fun w2 H _ => ?_
  repeat (first | refine nn ?_ | refine wI H (hK := ?_) | refine wP H (hK := ?_) | refine wM H (hK := ?_) | refine wSl H (hK := ?_) | refine wB H (hK := ?_) | refine wS H (hK := ?_) | refine wEq ?_ | refine wC H (hK := ?_) | (refine wLW H ?_; intro w1 H) | (refine wST H (hK := ?_); intro w1 H _) | refine mSlice_mk ?_ | refine mInt_mk ?_ | refine mBool_mk ?_ | refine mTup_mk ?_ | refine mCons_mk ?_ | refine mNil_mk ?_ | refine mAgg_mk ?_ | refine mPtr_mk ?_ | refine mStr_mk ?_)
  refine delete_own map_str (i := 4) H rfl s fun w3 H _ => ?_
  repeat (first | refine nn ?_ | refine wI H (hK := ?_) | refine wP H (hK := ?_) | refine wM H (hK := ?_) | refine wSl H (hK := ?_) | refine wB H (hK := ?_) | refine wS H (hK := ?_) | refine wEq ?_ | refine wC H (hK := ?_) | (refine wLW H ?_; intro w1 H) | (refine wST H (hK := ?_); intro w1 H _) | refine mSlice_mk ?_ | refine mInt_mk ?_ | refine mBool_mk ?_ | refine mTup_mk ?_ | refine mCons_mk ?_ | refine mNil_mk ?_ | refine mAgg_mk ?_ | refine mPtr_mk ?_ | refine mStr_mk ?_)
  refine hK _ ?_
  rw [adel_aput_comm _ hst] at H
  have e : aput (adel (l.map fun e => (e.1, (.pointer (some ⟨e.2.fb, 0, none⟩) : Value))) s) t (.pointer (some ⟨f.fb, 0, none⟩)) = ptrs (aput (adel l s) t f) := by
    rw [adel_map (fun f : FileR => (.pointer (some ⟨f.fb, 0, none⟩) : Value))]
    exact aput_map (fun f : FileR => (.pointer (some ⟨f.fb, 0, none⟩) : Value)) (adel l s) t f
  rw [e] at H
  have H := file_in (l := adel l s) (s := t) H
  have H := (H.front (mapO strV bm (ptrs (aput (adel l s) t f)))).front (pt db (.cells #[.int .i64 size, .int .i64 used, .int .i64 born, .map (some bm)] 67))
  exact St.diskClose H

attribute [local irreducible] disk_Disk_Rename_b0
theorem Rename_spec {db bm : Nat} {size used born : Int} {l : Files} {s t : ByteArray} (hA : Has w [diskO db bm size used born l]) (hu : -1000000000000 ≤ used ∧ used ≤ 1000000000000) (hn : (bsOf l t).length ≤ 1000000000000) :
    CallS Try.prog fn_disk_Disk_Rename #[.pointer (some ⟨db, 0, none⟩), .string s, .string t] w [diskO db bm size used born l] fun r _ A =>
      (aget l s = none ∧ r = .int .i64 4 ∧ A = [diskO db bm size used born l]) ∨
      (∃ f, aget l s = some f ∧ nameOk t = false ∧ r = .int .i64 1 ∧ A = [diskO db bm size used born l]) ∨
      (∃ f, aget l s = some f ∧ nameOk t = true ∧ s = t ∧ r = .int .i64 0 ∧ A = [diskO db bm size used born l]) ∨
      (∃ f, aget l s = some f ∧ nameOk t = true ∧ s ≠ t ∧ r = .int .i64 0 ∧ A = [diskO db bm size (used - (bsOf l t).length) born (aput (adel l s) t f)]) := by
  refine CallS_intro hA fun H => disk_Disk_Rename_sound _ _ _ _ _ ?_
  have H := H.diskOpen
  repeat (first | refine nn ?_ | refine wI H (hK := ?_) | refine wP H (hK := ?_) | refine wM H (hK := ?_) | refine wSl H (hK := ?_) | refine wB H (hK := ?_) | refine wS H (hK := ?_) | refine wEq ?_ | refine wC H (hK := ?_) | (refine wLW H ?_; intro w1 H) | (refine wST H (hK := ?_); intro w1 H _) | refine mSlice_mk ?_ | refine mInt_mk ?_ | refine mBool_mk ?_ | refine mTup_mk ?_ | refine mCons_mk ?_ | refine mNil_mk ?_ | refine mAgg_mk ?_ | refine mPtr_mk ?_ | refine mStr_mk ?_)
  refine wLookupF H (hK := ?_)
  cases hg : aget l s with
  | none =>
    refine mPtr_mk (br (fun _ => ?_) (fun h => by cases h))
    exact ⟨_, .inl ⟨rfl, rfl, rfl⟩, H.diskClose⟩
  | some f =>
    refine mPtr_mk (br (fun h => by cases h) (fun _ => ?_))
    refine wCall H (fun _ => Name_spec t _) (hK := ?_)
    rintro r w1 A' ⟨rfl, rfl⟩ _ H
    repeat (first | refine nn ?_ | refine wI H (hK := ?_) | refine wP H (hK := ?_) | refine wM H (hK := ?_) | refine wSl H (hK := ?_) | refine wB H (hK := ?_) | refine wS H (hK := ?_) | refine wEq ?_ | refine wC H (hK := ?_) | (refine wLW H ?_; intro w1 H) | (refine wST H (hK := ?_); intro w1 H _) | refine mSlice_mk ?_ | refine mInt_mk ?_ | refine mBool_mk ?_ | refine mTup_mk ?_ | refine mCons_mk ?_ | refine mNil_mk ?_ | refine mAgg_mk ?_ | refine mPtr_mk ?_ | refine mStr_mk ?_)
    refine br (fun h => ⟨_, .inr (.inl ⟨f, rfl, by simpa using h, rfl, rfl⟩), St.diskClose (R := []) H⟩) (fun hok => ?_)
    have hok : nameOk t = true := by simpa using hok
    refine br (fun h => ?_) (fun h => ?_)
    · have hst : s = t := by
        have : s.toList = t.toList := by simpa using h
        rw [ByteArray.toList_eq, ByteArray.toList_eq] at this
        cases s; cases t
        simpa using this
      exact ⟨_, .inr (.inr (.inl ⟨f, rfl, hok, hst, rfl, rfl⟩)), St.diskClose (R := []) H⟩
    · have hst : t ≠ s := fun e => by subst e; simp at h
      repeat (first | refine nn ?_ | refine wI H (hK := ?_) | refine wP H (hK := ?_) | refine wM H (hK := ?_) | refine wSl H (hK := ?_) | refine wB H (hK := ?_) | refine wS H (hK := ?_) | refine wEq ?_ | refine wC H (hK := ?_) | (refine wLW H ?_; intro w1 H) | (refine wST H (hK := ?_); intro w1 H _) | refine mSlice_mk ?_ | refine mInt_mk ?_ | refine mBool_mk ?_ | refine mTup_mk ?_ | refine mCons_mk ?_ | refine mNil_mk ?_ | refine mAgg_mk ?_ | refine mPtr_mk ?_ | refine mStr_mk ?_)
      refine wLookupF H (hK := ?_)
      have H := file_out (H.front (filesO l)) hg
      cases hg2 : aget l t with
      | none =>
        refine mPtr_mk (br (fun h => by cases h) (fun _ => ?_))
        rw [show filesO (adel l s) = filesO (adel (adel l s) t) by rw [adel_none (l := adel l s) (by rw [aget_adel_ne hst, hg2])]] at H
        refine rename_rest hst H fun w' H => ?_
        exact ⟨_, .inr (.inr (.inr ⟨f, rfl, hok, Ne.symm hst, rfl, by simp [bsOf, hg2]⟩)), H⟩
      | some o =>
        refine mPtr_mk (br (fun _ => ?_) (fun h => by cases h))
        have H := file_out (H.front (filesO (adel l s))) (by rw [aget_adel_ne hst, hg2])
        obtain ⟨_, _, _, he, h1, _⟩ := (H.has.all (sliceO 5 1 (.slice o.a o.n o.c) (bvals o.bs)) (by simp) : SliceAt _ 5 1 (.slice o.a o.n o.c) (bvals o.bs))
        cases he
        have hon : o.n = o.bs.length := by simpa using h1
        repeat (first | refine nn ?_ | refine wI H (hK := ?_) | refine wP H (hK := ?_) | refine wM H (hK := ?_) | refine wSl H (hK := ?_) | refine wB H (hK := ?_) | refine wS H (hK := ?_) | refine wEq ?_ | refine wC H (hK := ?_) | (refine wLW H ?_; intro w1 H) | (refine wST H (hK := ?_); intro w1 H _) | refine mSlice_mk ?_ | refine mInt_mk ?_ | refine mBool_mk ?_ | refine mTup_mk ?_ | refine mCons_mk ?_ | refine mNil_mk ?_ | refine mAgg_mk ?_ | refine mPtr_mk ?_ | refine mStr_mk ?_)
        have hl : (bsOf l t).length = o.bs.length := by simp [bsOf, hg2]
        have hw : IntKind.wrap .i64 (used - (o.n : Int)) = used - ((bsOf l t).length : Int) := by rw [hon, hl]; exact wrap_id (by omega) (by omega)
        rw [hw] at H
        have H := ((H.tail.tail).front (sliceO 5 1 (.slice f.a f.n f.c) (bvals f.bs))).front (pt f.fb (.cells #[.slice f.a f.n f.c, .int .i64 f.syn] 71))
        refine rename_rest hst H fun w' H => ?_
        exact ⟨_, .inr (.inr (.inr ⟨f, rfl, hok, Ne.symm hst, rfl, rfl⟩)), H⟩
end
end Go.Proofs.Ytimgbkabfkdabaa
