/- DG DH DI, laid together. -/
import Derived.Test.YtimgbkabfkdabaaHDE
/- The reference's disk in memory: Sync, Delete, Rename, Read, Unsynced, Lose; an element stored anew. -/
namespace Go.Proofs.Ytimgbkabfkdabaa
open Go.Sh
attribute [local irreducible] rRun LDI LDB LDS LDP LDSl LDM LD Go.Sh.ST AL ALM LetW CallR CallV CallI NN IX SIX Br Req mInt mBool mStr mPtr mSlice mMap mAgg mTup mCons mNil mNth mPA LoopS

section
variable {w0 w : World} {F : List Nat} {L M : List Own} {rb : Nat} {size born : Int} {R : RD}
theorem set3_walk {i b fn fc : Nat} {fa : Option Addr} {f : RFile} {K : World → Prop} (hf : f.v = .slice fa fn fc) (hi : i < R.l.length) (hb : R.a = some ⟨b, 0, none⟩)
    (H : St w0 F w (rdP rb size born R :: rdS R :: rdM R.l :: f.own :: L)) (hK : ∀ w' R', R'.l = R.l.set i f → St w0 F w' (rdO rb size born R' :: L) → K w') :
    ST w ⟨b, i * 3, none⟩ (.string f.name) fun w1 => ST w1 (Addr.add ⟨b, i * 3, none⟩ 1) (.slice fa fn fc) fun w2 => ST w2 (Addr.add ⟨b, i * 3, none⟩ 2) (.int .i64 f.syn) fun w3 => K w3 := by
  obtain ⟨g, hgi⟩ : ∃ g, R.l[i]? = some g := ⟨_, List.getElem?_eq_getElem hi⟩
  have hi0 : i * 3 + 3 ≤ (R.l.flatMap RFile.cells).length := by rw [flat_length fcells_len]; omega
  have H : St w0 F w (sliceO 82 3 (.slice (some ⟨b, 0, none⟩) R.n R.c) (R.l.flatMap RFile.cells) :: pt rb (.cells #[.int .i64 size, .slice R.a R.n R.c, .int .i64 born] 56) :: rdM R.l :: f.own :: L) := by
    have H2 := H.front (rdS R)
    unfold rdS rdP at H2
    rw [hb] at H2
    rw [hb]
    exact H2
  refine wSTc H (hi := by omega) (hK := fun w4 H => ?_)
  refine wSTc H (p := i * 3 + 1) (hi := by rw [List.length_set]; omega) (hK := fun w5 H => ?_)
  refine wSTc H (p := i * 3 + 2) (hi := by rw [List.length_set, List.length_set]; omega) (hK := fun w6 H => ?_)
  rw [flat_set3 (f := RFile.cells) (x := f) fcells_len (by simp [RFile.cells, hf]) R.l _ hi] at H
  have H := H.front (rdM R.l)
  have hp1 : (R.l.map RFile.own).Perm (g.own :: (R.l.eraseIdx i).map RFile.own) := by
    have := (perm_front (L := R.l) hgi).map RFile.own
    simpa using this
  have H := (St.out H hp1).tail
  have H := H.front f.own
  have hp2 : ((R.l.set i f).map RFile.own).Perm (f.own :: (R.l.eraseIdx i).map RFile.own) := by
    have := ((perm_set (L := R.l) f hgi).symm).map RFile.own
    simpa using this
  have H := St.into (M := (R.l.set i f).map RFile.own) H hp2
  have H := (H.front (sliceO 82 3 (.slice (some ⟨b, 0, none⟩) R.n R.c) ((R.l.set i f).flatMap RFile.cells))).front (pt rb (.cells #[.int .i64 size, .slice R.a R.n R.c, .int .i64 born] 56))
  refine hK _ ⟨some ⟨b, 0, none⟩, R.n, R.c, R.l.set i f⟩ rfl (St.rdClose (R := ⟨some ⟨b, 0, none⟩, R.n, R.c, R.l.set i f⟩) (by
    have H2 := H
    rw [hb] at H2
    exact H2))
theorem flat_set2 {α : Type} {f : α → List Value} {x : α} {c2 : Value} (hk : ∀ x, (f x).length = 3) : ∀ (l : List α) (i : Nat), (∀ y, l[i]? = some y → f x = (f y).set 2 c2) →
    (l.flatMap f).set (i * 3 + 2) c2 = (l.set i x).flatMap f
  | [], i, _ => by simp
  | a :: t, 0, h => by
    have h3 := hk a
    have hx := h a rfl
    match ha : f a, h3 with
    | [a0, a1, a2], _ =>
      rw [ha] at hx
      simp [ha, hx]
  | a :: t, i + 1, h => by
    have h3 := hk a
    have ih := flat_set2 (c2 := c2) (x := x) hk t i (fun y hy => h y (by simpa using hy))
    match ha : f a, h3 with
    | [a0, a1, a2], _ =>
      have e0 : (i + 1) * 3 = i * 3 + 1 + 1 + 1 := by omega
      rw [List.flatMap_cons, ha, e0, List.set_cons_succ, List.flatMap_cons, ha, ← ih]
      rfl
theorem at_name {s : ByteArray} {x : List UInt8 × Nat} (hs : Srt R.A) (hx : aget R.A s = some x) : ∃ f, R.l[fnd s R.A]? = some f ∧ f.name = s ∧ x = (f.bs, f.syn) := by
  have hA := (fnd_spec hs).1 x hx
  rw [RD.get] at hA
  obtain ⟨f, hf, hfx⟩ := Option.map_eq_some_iff.1 hA
  exact ⟨f, hf, congrArg Prod.fst hfx, (congrArg Prod.snd hfx).symm⟩
theorem sync_some {A : List AF} (hs : Srt A) (s t : ByteArray) : (aget (syncA A s) t).isSome = (aget A t).isSome := by
  unfold syncA
  cases hg : aget A s with
  | none => rfl
  | some x =>
    simp only
    rw [aget_ins hs]
    split
    · rename_i h; rw [h, hg]; rfl
    · rfl
theorem syncs_some' {ns : List ByteArray} {t : ByteArray} : ∀ {A : List AF}, Srt A → (aget (ns.foldl syncA A) t).isSome = (aget A t).isSome := by
  induction ns with
  | nil => intro A _; rfl
  | cons s r ih => intro A h; rw [List.foldl_cons, ih (h.sync s), sync_some h]
theorem ins_len {A : List AF} (hs : Srt A) {s : ByteArray} {x : List UInt8 × Nat} : (insA s x A).length ≤ A.length + 1 := by
  cases hg : aget A s with
  | none => rw [insA_none hs hg]; simp; omega
  | some y => rw [insA_some hs (by rw [hg]; rfl)]; simp
theorem sync_len {A : List AF} (hs : Srt A) (s : ByteArray) : (syncA A s).length = A.length := by
  unfold syncA
  cases hg : aget A s with
  | none => rfl
  | some x => simp only; rw [insA_some hs (by rw [hg]; rfl)]; simp

theorem rSync_spec {na : Option Addr} {nn' nc : Nat} {ns : List ByteArray} (hA : Has w [rdO rb size born R]) (hl : R.l.length ≤ 900000) (hs : Srt R.A) (hnl : ns.length ≤ 1000000000000)
    (hb : Ext w [rdO rb size born R] 1 (.slice na nn' nc) (strs ns)) :
    CallS Try.prog fn_glacierref2_Disk_Sync #[.pointer (some ⟨rb, 0, none⟩), .slice na nn' nc] w [rdO rb size born R] fun r _ A =>
      (allA R.A ns = false ∧ r = .int .i64 4 ∧ A = [rdO rb size born R]) ∨ (allA R.A ns = true ∧ r = .int .i64 0 ∧ ∃ R', R'.A = ns.foldl syncA R.A ∧ A = [rdO rb size born R']) := by
  have hn : nn' = ns.length := by have := hb.1.len; simpa [strs] using this
  subst hn
  refine CallS_intro hA fun H => glacierref2_Disk_Sync_sound _ _ _ _ _ _ ?_
  refine rall_walk (H.rdOpen) hl hs hnl (fun w' L' H => hb.reads (by decide) H.fr) fun w1 H => mBool_mk ?_
  refine br (fun h => ⟨_, .inl ⟨by simpa using h, rfl, rfl⟩, H.rdClose⟩) (fun h => ?_)
  have hall : allA R.A ns = true := by simpa using h
  refine wLoop (fun k x w' => ∃ (i : Nat) (R' : RD), k + i = ns.length ∧ x = (some ⟨rb, 0, none⟩, na, ns.length, nc, (i : Int)) ∧ R'.A = (ns.take i).foldl syncA R.A ∧ R'.l.length = R.l.length ∧ St w (fps [rdO rb size born R]) w' [rdO rb size born R']) ?_ ?_
  · exact ⟨ns.length, 0, R, by omega, rfl, rfl, rfl, H.rdClose⟩
  clear H
  rintro k x w1 ⟨i, R', hk, rfl, hR, hRl, H⟩
  refine br (fun h => ?_) (fun h => ?_)
  · have hi : i < ns.length := by simp at h; omega
    obtain ⟨s, hs'⟩ : ∃ s, ns[i]? = some s := ⟨_, List.getElem?_eq_getElem hi⟩
    have htk : (ns.take (i + 1)).foldl syncA R.A = syncA ((ns.take i).foldl syncA R.A) s := by
      obtain ⟨hi', he⟩ := List.getElem?_eq_some_iff.1 hs'
      rw [← List.take_append_getElem hi', List.foldl_append, he]; rfl
    rw [← hR] at htk
    have hsR : Srt R'.A := by rw [hR]; exact hs.syncs
    have hsome : (aget R'.A s).isSome = true := by rw [hR, syncs_some' hs]; exact List.all_eq_true.1 hall s (List.mem_of_getElem? hs')
    obtain ⟨x, hx⟩ := Option.isSome_iff_exists.1 hsome
    obtain ⟨f, hf, hfn, hfx⟩ := at_name hsR hx
    have hlt := (List.getElem?_eq_some_iff.1 hf).1
    have hw1 : IntKind.wrap .i64 ((i : Int) + 1) = ((i + 1 : Nat) : Int) := by rw [wrap_id (by omega) (by omega)]; rfl
    refine wIXr (hb.reads (by decide) H.fr) (i := i) (by simpa [strs] using hi) rfl fun ad had => ?_
    refine ldS (had.trans (show (strs ns)[i]? = some (.string s) by simp [strs, hs'])) ?_
    refine find_walk H.rdOpen (by omega) hsR fun w2 _ H => ?_
    refine mTup_mk (mCons_mk (mInt_mk (mCons_mk (mBool_mk (mNil_mk ?_)))))
    refine wLW H ?_
    intro w3 H
    refine nn ?_
    refine wSl H (j := 1) (b := rb) (hK := nn ?_)
    refine wSl H (j := 1) (b := rb) (hK := ?_)
    refine wIXf H hf rfl fun ad c0 c1 c2 => ?_
    obtain ⟨va, vc, hv⟩ := file_val H (List.mem_of_getElem? hf)
    rw [hv] at c1
    refine ldSl c1 (wEq ?_)
    clear c0 c1 c2
    refine wIXfe H hf rfl fun b hb' => ?_
    have H : St w (fps [rdO rb size born R]) w3 (sliceO 82 3 (.slice (some ⟨b, 0, none⟩) R'.n R'.c) (R'.l.flatMap RFile.cells) :: pt rb (.cells #[.int .i64 size, .slice R'.a R'.n R'.c, .int .i64 born] 56) :: [rdM R'.l]) := by
      have H2 := H.front (rdS R')
      unfold rdS rdP at H2
      rw [hb'] at H2
      rw [hb']
      exact H2
    have hi0 : fnd s R'.A * 3 + 3 ≤ (R'.l.flatMap RFile.cells).length := by rw [flat_length fcells_len]; omega
    refine wSTc H (p := fnd s R'.A * 3 + 2) (hi := by omega) (hK := fun w4 H => ?_)
    rw [flat_set2 (f := RFile.cells) (x := ⟨f.name, f.v, f.bs, f.bs.length⟩) fcells_len R'.l _ (fun y hy => by rw [hf] at hy; cases hy; rfl)] at H
    have hM : (R'.l.set (fnd s R'.A) ⟨f.name, f.v, f.bs, f.bs.length⟩).map RFile.own = R'.l.map RFile.own := by
      rw [List.map_set]
      apply List.ext_getElem?
      intro j
      rw [List.getElem?_set]
      split
      · rename_i he
        subst he
        rw [List.getElem?_map, hf]
        simp [hlt, RFile.own]
      · rfl
    have H := H.perm (List.Perm.swap _ _ _)
    have H := St.rdClose (R := ⟨some ⟨b, 0, none⟩, R'.n, R'.c, R'.l.set (fnd s R'.A) ⟨f.name, f.v, f.bs, f.bs.length⟩⟩) (L := []) (by
      have H2 : St w (fps [rdO rb size born R]) w4 (pt rb (.cells #[.int .i64 size, .slice R'.a R'.n R'.c, .int .i64 born] 56) :: sliceO 82 3 (.slice (some ⟨b, 0, none⟩) R'.n R'.c) ((R'.l.set (fnd s R'.A) ⟨f.name, f.v, f.bs, f.bs.length⟩).flatMap RFile.cells) :: [rdM R'.l]) := H
      rw [hb'] at H2
      unfold rdM at H2 ⊢
      rw [← hM] at H2
      exact H2)
    refine ⟨k - 1, by omega, i + 1, _, by omega, by rw [hw1], ?_, by simp [hRl], H⟩
    rw [htk]
    unfold syncA
    rw [hx]
    simp only
    rw [insA_some hsR (by rw [hx]; rfl), hfx]
    unfold RD.A
    rw [List.map_set]
    simp [RFile.fv, hfn]
  · have hi : ns.length ≤ i := by simp at h; omega
    rw [List.take_of_length_le hi] at hR
    exact ⟨_, .inr ⟨hall, rfl, R', hR, rfl⟩, H⟩

theorem rDelete_spec {na : Option Addr} {nn' nc : Nat} {ns : List ByteArray} (hA : Has w [rdO rb size born R]) (hl : R.l.length ≤ 900000) (hs : Srt R.A) (hnl : ns.length ≤ 1000000000000)
    (hb : Ext w [rdO rb size born R] 1 (.slice na nn' nc) (strs ns)) :
    CallS Try.prog fn_glacierref2_Disk_Delete #[.pointer (some ⟨rb, 0, none⟩), .slice na nn' nc] w [rdO rb size born R] fun r _ A =>
      (allA R.A ns = false ∧ r = .int .i64 4 ∧ A = [rdO rb size born R]) ∨ (allA R.A ns = true ∧ r = .int .i64 0 ∧ ∃ R', R'.A = ns.foldl adel R.A ∧ A = [rdO rb size born R']) := by
  have hn : nn' = ns.length := by have := hb.1.len; simpa [strs] using this
  subst hn
  refine CallS_intro hA fun H => glacierref2_Disk_Delete_sound _ _ _ _ _ _ ?_
  refine rall_walk (H.rdOpen) hl hs hnl (fun w' L' H => hb.reads (by decide) H.fr) fun w1 H => mBool_mk ?_
  refine br (fun h => ⟨_, .inl ⟨by simpa using h, rfl, rfl⟩, H.rdClose⟩) (fun h => ?_)
  have hall : allA R.A ns = true := by simpa using h
  refine wLoop (fun k x w' => ∃ (i : Nat) (R' : RD), k + i = ns.length ∧ x = (some ⟨rb, 0, none⟩, na, ns.length, nc, (i : Int)) ∧ R'.A = (ns.take i).foldl adel R.A ∧ R'.l.length ≤ R.l.length ∧ St w (fps [rdO rb size born R]) w' [rdO rb size born R']) ?_ ?_
  · exact ⟨ns.length, 0, R, by omega, rfl, rfl, Nat.le_refl _, H.rdClose⟩
  clear H
  rintro k x w1 ⟨i, R', hk, rfl, hR, hRl, H⟩
  refine br (fun h => ?_) (fun h => ?_)
  · have hi : i < ns.length := by simp at h; omega
    obtain ⟨s, hs'⟩ : ∃ s, ns[i]? = some s := ⟨_, List.getElem?_eq_getElem hi⟩
    have htk : (ns.take (i + 1)).foldl adel R.A = adel ((ns.take i).foldl adel R.A) s := by
      obtain ⟨hi', he⟩ := List.getElem?_eq_some_iff.1 hs'
      rw [← List.take_append_getElem hi', List.foldl_append, he]; rfl
    rw [← hR] at htk
    have hsR : Srt R'.A := by rw [hR]; exact hs.dels
    have hw1 : IntKind.wrap .i64 ((i : Int) + 1) = ((i + 1 : Nat) : Int) := by rw [wrap_id (by omega) (by omega)]; rfl
    refine wIXr (hb.reads (by decide) H.fr) (i := i) (by simpa [strs] using hi) rfl fun ad had => ?_
    refine ldS (had.trans (show (strs ns)[i]? = some (.string s) by simp [strs, hs'])) ?_
    refine drop_walk (by omega) hsR H (fun hg w2 H => ?_) (fun f hf hfn w2 R2 hR2 hR2l H => ?_)
    · refine mTup_mk (mNil_mk ?_)
      exact ⟨k - 1, by omega, i + 1, R', by omega, by rw [hw1], by rw [htk, adel_none hg], hRl, H⟩
    · refine mTup_mk (mNil_mk ?_)
      exact ⟨k - 1, by omega, i + 1, R2, by omega, by rw [hw1], by rw [htk, hR2], by omega, H.left (L := [_])⟩
  · have hi : ns.length ≤ i := by simp at h; omega
    rw [List.take_of_length_le hi] at hR
    exact ⟨_, .inr ⟨hall, rfl, R', hR, rfl⟩, H⟩

theorem rRename_spec {s t : ByteArray} (hA : Has w [rdO rb size born R]) (hl : R.l.length ≤ 900000) (hs : Srt R.A) :
    CallS Try.prog fn_glacierref2_Disk_Rename #[.pointer (some ⟨rb, 0, none⟩), .string s, .string t] w [rdO rb size born R] fun r _ A =>
      (aget R.A s = none ∧ r = .int .i64 4 ∧ A = [rdO rb size born R]) ∨
      ((aget R.A s).isSome = true ∧ nameOk t = false ∧ r = .int .i64 1 ∧ A = [rdO rb size born R]) ∨
      ((aget R.A s).isSome = true ∧ nameOk t = true ∧ s = t ∧ r = .int .i64 0 ∧ A = [rdO rb size born R]) ∨
      ((aget R.A s).isSome = true ∧ nameOk t = true ∧ s ≠ t ∧ r = .int .i64 0 ∧ ∃ R', R'.A = insA t (usedOf R.A s) (adel R.A s) ∧ A = [rdO rb size born R']) := by
  refine CallS_intro hA fun H => glacierref2_Disk_Rename_sound _ _ _ _ _ ?_
  refine find_walk H.rdOpen (by omega) hs fun w1 _ H => ?_
  refine mTup_mk (mCons_mk (mInt_mk (mCons_mk (mBool_mk (mNil_mk ?_)))))
  refine br (fun hg => ?_) (fun hg => ?_)
  · have hg : aget R.A s = none := by
      cases hq : aget R.A s with
      | none => rfl
      | some x => rw [hq] at hg; cases hg
    exact ⟨_, .inl ⟨hg, rfl, rfl⟩, H.rdClose⟩
  have hg : (aget R.A s).isSome = true := by simpa using hg
  obtain ⟨x, hx⟩ := Option.isSome_iff_exists.1 hg
  refine rName_walk t (mBool_mk ?_)
  refine br (fun hno => ⟨_, .inr (.inl ⟨hg, by simpa using hno, rfl, rfl⟩), H.rdClose⟩) (fun hok => ?_)
  have hok : nameOk t = true := by simpa using hok
  rw [text_eq]
  refine br (fun he => ⟨_, .inr (.inr (.inl ⟨hg, hok, by simpa using he, rfl, rfl⟩)), H.rdClose⟩) (fun he => ?_)
  have hst : s ≠ t := by simpa using he
  obtain ⟨f, hf, hfn, hfx⟩ := at_name hs hx
  refine nn ?_
  refine wSl H (j := 1) (b := rb) (hK := ?_)
  refine wIXf H hf rfl fun ad c0 c1 c2 => ?_
  obtain ⟨va, vc, hv⟩ := file_val H (List.mem_of_getElem? hf)
  rw [hv] at c1
  refine ldS c0 (ldSl c1 (ldI c2 ?_))
  clear c0 c1 c2
  refine wAL H.rdClose fun q w2 H => ?_
  have H : St w (fps [rdO rb size born R]) w2 [pt q (.cells #[.string ⟨#[]⟩, .slice none 0 0, .int .i64 0] 82), rdO rb size born R] := H
  refine wST H (b := q) (j := 0) (hK := ?_)
  intro w3 H _
  refine wST H (b := q) (j := 1) (hK := ?_)
  intro w4 H _
  refine wST H (b := q) (j := 2) (hK := ?_)
  intro w5 H _
  refine drop_walk hl hs (H.front (rdO rb size born R)) (fun hno _ _ => by rw [hno] at hx; cases hx) (fun f' hf' hfn' w6 R2 hR2 hR2l H => ?_)
  rw [hf] at hf'
  cases hf'
  refine mTup_mk (mNil_mk ?_)
  have H : St w (fps [rdO rb size born R]) w6 [rdO rb size born R2, f.own, pt q (.cells #[.string f.name, .slice va f.bs.length vc, .int .i64 f.syn] 82)] := H
  refine wST H (b := q) (j := 0) (hK := ?_)
  intro w7 H _
  refine wS H (b := q) (j := 0) (hK := wSl H (b := q) (j := 1) (hK := wI H (b := q) (j := 2) (hK := ?_)))
  refine put_walk (f := ⟨t, f.v, f.bs, f.syn⟩) hv (by omega) (by rw [hR2]; exact hs.del s) H fun w8 R3 hR3 H => ?_
  refine mTup_mk (mNil_mk ?_)
  refine ⟨_, .inr (.inr (.inr ⟨hg, hok, hst, rfl, R3, ?_, rfl⟩)), H.left (L := [_])⟩
  rw [hR3, hR2, usedOf_some hx, hfx]

theorem rRead_walk {s : ByteArray} {K : Value → World → Prop} (H : St w0 F w (rdO rb size born R :: L)) (hl : R.l.length ≤ 900000) (hs : Srt R.A)
    (h0 : aget R.A s = none → ∀ w', St w0 F w' (rdO rb size born R :: L) → K (.tuple #[.slice none 0 0, .int .i64 4]) w')
    (hK : ∀ x a c, aget R.A s = some x → ∀ w', St w0 F w' (rdO rb size born R :: L) → Reads w' 1 (.slice a x.1.length c) (bvals x.1) → K (.tuple #[.slice a x.1.length c, .int .i64 0]) w') :
    CallR Try.prog fn_glacierref2_Disk_Read #[.pointer (some ⟨rb, 0, none⟩), .string s] w K := by
  refine glacierref2_Disk_Read_sound _ _ _ _ ?_
  refine find_walk H.rdOpen (by omega) hs fun w1 _ H => ?_
  refine mTup_mk (mCons_mk (mInt_mk (mCons_mk (mBool_mk (mNil_mk ?_)))))
  refine br (fun hg => ?_) (fun hg => ?_)
  · have hg : aget R.A s = none := by
      cases hq : aget R.A s with
      | none => rfl
      | some x => rw [hq] at hg; cases hg
    exact h0 hg _ H.rdClose
  have hg : (aget R.A s).isSome = true := by simpa using hg
  obtain ⟨x, hx⟩ := Option.isSome_iff_exists.1 hg
  obtain ⟨f, hf, hfn, hfx⟩ := at_name hs hx
  refine nn ?_
  refine wSl H (j := 1) (b := rb) (hK := ?_)
  refine wIXf H hf rfl fun ad c0 c1 c2 => ?_
  obtain ⟨va, vc, hv⟩ := file_val H (List.mem_of_getElem? hf)
  rw [hv] at c1
  have hrd := (file_slice H (List.mem_of_getElem? hf)).reads
  rw [hv] at hrd
  refine ldSl c1 ?_
  have := hK x va vc hx w1 H.rdClose
  rw [hfx] at this
  exact this hrd
theorem rUnsynced_walk {s : ByteArray} {K : Value → World → Prop} (H : St w0 F w (rdO rb size born R :: L)) (hl : R.l.length ≤ 900000) (hs : Srt R.A) (hw : WhA R.A) (ht : totA R.A ≤ 1000000000000)
    (hK : ∀ w', St w0 F w' (rdO rb size born R :: L) → K (.int .i64 (((usedOf R.A s).1.length : Int) - ((usedOf R.A s).2 : Int))) w') :
    CallR Try.prog fn_glacierref2_Disk_Unsynced #[.pointer (some ⟨rb, 0, none⟩), .string s] w K := by
  refine glacierref2_Disk_Unsynced_sound _ _ _ _ ?_
  refine find_walk H.rdOpen (by omega) hs fun w1 _ H => ?_
  refine mTup_mk (mCons_mk (mInt_mk (mCons_mk (mBool_mk (mNil_mk ?_)))))
  refine br (fun hg => ?_) (fun hg => ?_)
  · have hg : aget R.A s = none := by
      cases hq : aget R.A s with
      | none => rfl
      | some x => rw [hq] at hg; cases hg
    have := hK _ H.rdClose
    rw [usedOf_none hg] at this
    exact this
  have hg : (aget R.A s).isSome = true := by simpa using hg
  obtain ⟨x, hx⟩ := Option.isSome_iff_exists.1 hg
  have hul := used_le hs s
  have hwx := hw.get hs hx
  rw [usedOf_some hx] at hK hul
  obtain ⟨f, hf, hfn, rfl⟩ := at_name hs hx
  refine wLW H ?_
  intro w2 H
  refine nn ?_
  refine wSl H (j := 1) (b := rb) (hK := ?_)
  refine wIXf H hf rfl fun ad c0 c1 c2 => ?_
  obtain ⟨va, vc, hv⟩ := file_val H (List.mem_of_getElem? hf)
  rw [hv] at c1
  refine ldSl c1 (wEq (nn ?_))
  refine wSl H (j := 1) (b := rb) (hK := ?_)
  refine wIXf H hf rfl fun ad c0 c1 c2 => ?_
  refine ldI c2 ?_
  have hw1 : IntKind.wrap .i64 ((f.bs.length : Int) - (f.syn : Int)) = (f.bs.length : Int) - (f.syn : Int) := wrap_id (by simp only at hul hwx; omega) (by simp only at hul hwx; omega)
  rw [hw1]
  exact hK _ H.rdClose
theorem rLose_spec (hA : Has w [rdO rb size born R]) (hb : 0 ≤ born ∧ born ≤ 1000000000000) :
    CallS Try.prog fn_glacierref2_Disk_Lose #[.pointer (some ⟨rb, 0, none⟩)] w [rdO rb size born R] fun r _ A => r = .tuple #[] ∧ A = [rdO rb size (born + 1) ⟨none, 0, 0, []⟩] := by
  refine CallS_intro hA fun H => glacierref2_Disk_Lose_sound _ _ _ ?_
  have H := H.rdOpen
  have H : St w (fps [rdO rb size born R]) w [pt rb (.cells #[.int .i64 size, .slice R.a R.n R.c, .int .i64 born] 56), rdS R, rdM R.l] := H
  have hw : IntKind.wrap .i64 (born + 1) = born + 1 := wrap_id (by omega) (by omega)
  refine nn ?_
  refine wST H (j := 1) (hK := ?_)
  intro w1 H _
  refine nn ?_
  refine wI H (j := 2) (hK := nn ?_)
  rw [hw]
  refine wST H (j := 2) (hK := ?_)
  intro w2 H _
  have H := ((H.front (rdM R.l)).tail.front (rdS R)).tail
  have H2 : St w (fps [rdO rb size born R]) w2 (rdM [] :: pt rb (.cells #[.int .i64 size, .slice none 0 0, .int .i64 (born + 1)] 56) :: []) := Sh.St.close (M := []) H
  have H3 := (H2.nothing 82 3 none).front (pt rb (.cells #[.int .i64 size, .slice none 0 0, .int .i64 (born + 1)] 56))
  exact ⟨_, ⟨rfl, rfl⟩, St.rdClose (R := ⟨none, 0, 0, []⟩) H3⟩
end
end Go.Proofs.Ytimgbkabfkdabaa

/- The reference's disk in memory: Crash, List, Twin. -/
namespace Go.Proofs.Ytimgbkabfkdabaa
open Go.Sh
attribute [local irreducible] rRun LDI LDB LDS LDP LDSl LDM LD Go.Sh.ST AL ALM LetW CallR CallV CallI NN IX SIX Br Req mInt mBool mStr mPtr mSlice mMap mAgg mTup mCons mNil mNth mPA LoopS

section
variable {w0 w : World} {F : List Nat} {L M : List Own} {rb : Nat} {size born : Int} {R : RD}
theorem Reads.takeR {w : World} {a : Option Addr} {n c k : Nat} {cs : List Value} (h : Reads w 1 (.slice a n c) cs) (hk : k ≤ n) (hc : n ≤ c) : Reads w 1 (.slice (if c = 0 then a else a.map (·.add (0 * 1))) (k - 0) (c - 0)) (cs.take k) := by
  have r1 := h.sub (l := 0) (h := k) (m := c) (Nat.zero_le _) hk (by omega)
  simpa using r1
theorem crash_step {picks : List Int} {q i : Nat} {x : Int} {f : RFile} {va pa : Option Addr} {vc pc : Nat} {K0 : ((Option Addr) × (Option Addr) × Nat × Nat × Int) → World → Prop} (hf : R.l[i]? = some f) (hv : f.v = .slice va f.bs.length vc) (hsy : f.syn ≤ f.bs.length) (hbl : f.bs.length ≤ 1000000000000)
    (hl : R.l.length ≤ 900000) (hx : x = (pickK picks[i]? (f.bs.length - f.syn) : Int))
    (H : St w0 F w (pt q (.cells #[.string f.name, .slice va f.bs.length vc, .int .i64 f.syn] 82) :: rdP rb size born R :: rdS R :: rdM R.l :: L))
    (hK : ∀ w' R' v', R'.l = R.l.set i ⟨f.name, v', (crashF picks[i]? (f.bs, f.syn)).1, (crashF picks[i]? (f.bs, f.syn)).2⟩ → St w0 F w' (rdO rb size born R' :: L) → K0 (some ⟨rb, 0, none⟩, pa, picks.length, pc, ((i + 1 : Nat) : Int)) w') :
    glacierref2_Disk_Crash_b1 (some ⟨rb, 0, none⟩) pa picks.length pc (i : Int) ⟨q, 0, none⟩ x K0 w := by
  subst hx
  have hp := pickK_le picks[i]? (f.bs.length - f.syn)
  have hlt := (List.getElem?_eq_some_iff.1 hf).1
  have hc : f.bs.length ≤ vc := by
    have h1 := (H.get (i := 3) rfl : (rdM R.l).holds w) (f.own) (List.mem_map.2 ⟨f, List.mem_of_getElem? hf, rfl⟩)
    obtain ⟨_, _, _, he, _, h2, _⟩ := (h1 : SliceAt w 5 1 f.v (bvals f.bs))
    rw [hv] at he
    cases he
    exact h2
  refine wAL H fun b w1 H => ?_
  refine wSl H (b := q) (j := 1) (hK := wI H (b := q) (j := 2) (hK := ?_))
  have hw : IntKind.wrap .i64 ((f.syn : Int) + (pickK picks[i]? (f.bs.length - f.syn) : Int)) = ((f.syn + pickK picks[i]? (f.bs.length - f.syn) : Nat) : Int) := by rw [wrap_id (by omega) (by omega)]; omega
  rw [hw]
  refine rRun_intro (sliceAt_run (P := Try.prog) elem_bytes (a := va) (len := f.bs.length) (cap := vc) (l := 0) (h := f.syn + pickK picks[i]? (f.bs.length - f.syn)) (m := vc) (lo := none) (hi := some (.int .i64 ((f.syn + pickK picks[i]? (f.bs.length - f.syn) : Nat) : Int))) (mx := none) rfl ⟨rfl, by omega⟩ (fun h => by cases h) rfl) ?_
  refine mSlice_mk ?_
  have H := H.tail.nothing 5 1 (some ⟨b, 0, none⟩)
  have hfs : SliceAt w1 5 1 f.v (bvals f.bs) := (H.get (i := 4) rfl : (rdM R.l).holds w1) (f.own) (List.mem_map.2 ⟨f, List.mem_of_getElem? hf, rfl⟩)
  rw [hv] at hfs
  have hr := Reads.takeR (k := f.syn + pickK picks[i]? (f.bs.length - f.syn)) hfs.reads (by omega) hc
  have hbt : (bvals f.bs).take (f.syn + pickK picks[i]? (f.bs.length - f.syn)) = bvals (crashF picks[i]? (f.bs, f.syn)).1 := by simp [bvals, crashF]
  rw [hbt] at hr
  obtain ⟨hc1, hc2, _⟩ := crashF_len picks[i]? (f.bs, f.syn) hsy
  simp only at hc2
  obtain ⟨n1, hn1, hs1⟩ := hr.src (P := Try.prog) (tx := 30) elem_bytes.under (bvals_one _)
  refine append_own (t := 30) (n := n1) elem_bytes (i := 0) H rfl hs1 (by simp; omega) (by decide) fun v' w2 H _ _ => ?_
  obtain ⟨ya, yn, yc, rfl, hyn, _⟩ := (H.get (i := 0) rfl : SliceAt _ _ _ _ _)
  rw [List.nil_append] at H hyn
  have hyn : yn = (crashF picks[i]? (f.bs, f.syn)).2 := by rw [← hc1]; simpa using hyn
  have H : St w0 F w2 (sliceO 5 1 (.slice ya yn yc) (bvals (crashF picks[i]? (f.bs, f.syn)).1) :: pt q (.cells #[.string f.name, .slice va f.bs.length vc, .int .i64 f.syn] 82) :: pt rb (.cells #[.int .i64 size, .slice R.a R.n R.c, .int .i64 born] 56) :: rdS R :: rdM R.l :: L) := H
  refine mSlice_mk ?_
  refine wST H (b := q) (j := 1) (hK := ?_)
  intro w3 H _
  refine wSl H (b := q) (j := 1) (hK := ?_)
  refine wST H (b := q) (j := 2) (hK := ?_)
  intro w4 H _
  refine wLW H ?_
  intro w5 H
  refine nn ?_
  refine wSl H (b := rb) (j := 1) (hK := ?_)
  refine wS H (b := q) (j := 0) (hK := wSl H (b := q) (j := 1) (hK := wI H (b := q) (j := 2) (hK := ?_)))
  have H := (((H.front (RFile.own ⟨f.name, .slice ya yn yc, (crashF picks[i]? (f.bs, f.syn)).1, (crashF picks[i]? (f.bs, f.syn)).2⟩)).front (rdM R.l)).front (rdS R)).front (rdP rb size born R)
  have hw1 : IntKind.wrap .i64 ((i : Int) + 1) = ((i + 1 : Nat) : Int) := by rw [wrap_id (by omega) (by omega)]; rfl
  refine wIXfe H hf rfl fun bb hbb => ?_
  have e : ((yn : Nat) : Int) = (((crashF picks[i]? (f.bs, f.syn)).2 : Nat) : Int) := by rw [hyn]
  rw [e]
  refine set3_walk (f := ⟨f.name, .slice ya yn yc, (crashF picks[i]? (f.bs, f.syn)).1, (crashF picks[i]? (f.bs, f.syn)).2⟩) rfl hlt hbb H fun w6 R' hR H => ?_
  show K0 (_, _, _, _, IntKind.wrap .i64 ((i : Int) + 1)) w6
  rw [hw1]
  refine hK w6 R' _ hR (H.front (pt q (.cells #[.string f.name, .slice ya yn yc, .int .i64 (yn : Int)] 82))).tail

theorem rCrash_spec {pa : Option Addr} {pn pc : Nat} {picks : List Int} (hA : Has w [rdO rb size born R]) (hl : R.l.length ≤ 900000) (hw : WhA R.A) (ht : totA R.A ≤ 1000000000000)
    (hp : Ext w [rdO rb size born R] 1 (.slice pa pn pc) (ints picks)) :
    CallS Try.prog fn_glacierref2_Disk_Crash #[.pointer (some ⟨rb, 0, none⟩), .slice pa pn pc] w [rdO rb size born R] fun r _ A =>
      r = .tuple #[] ∧ ∃ R', R'.A = crashA picks R.A ∧ A = [rdO rb size born R'] := by
  have hpn : pn = picks.length := by have := hp.1.len; simpa [ints] using this
  subst hpn
  refine CallS_intro hA fun H => glacierref2_Disk_Crash_sound _ _ _ _ _ _ ?_
  refine wLoop (fun k s w' => ∃ (i : Nat) (R' : RD), k + i = R.l.length ∧ s = (some ⟨rb, 0, none⟩, pa, picks.length, pc, (i : Int)) ∧ R'.l.length = R.l.length ∧ (∀ j, R'.A[j]? = if j < i then (crashA picks R.A)[j]? else R.A[j]?) ∧
    St w (fps [rdO rb size born R]) w' [rdO rb size born R']) ?_ ?_
  · exact ⟨R.l.length, 0, R, by omega, rfl, rfl, fun j => by simp, H⟩
  clear H
  rintro k s w1 ⟨i, R', hk, rfl, hRl, hRA, H⟩
  have H := H.rdOpen
  have hn := rd_n H
  refine nn ?_
  refine wSl H (b := rb) (j := 1) (hK := ?_)
  refine br (fun h => ?_) (fun h => ?_)
  · have hi : i < R'.l.length := by simp [hn] at h; omega
    obtain ⟨f, hf⟩ : ∃ f, R'.l[i]? = some f := ⟨_, List.getElem?_eq_getElem hi⟩
    have hAi : R.A[i]? = some f.fv := by
      have := hRA i
      rw [if_neg (by omega), RD.get, hf] at this
      exact this.symm
    have hsy : f.syn ≤ f.bs.length := hw f.fv (List.mem_of_getElem? hAi)
    have hbl : f.bs.length ≤ 1000000000000 := by
      have h1 := totA_take hAi
      have h2 := totA_take_le R.A (i + 1)
      have h3 : f.fv.2.1.length = f.bs.length := rfl
      omega
    obtain ⟨va, vc, hv⟩ := file_val H (List.mem_of_getElem? hf)
    refine nn ?_
    refine wSl H (b := rb) (j := 1) (hK := ?_)
    refine wIXf H hf rfl fun ad c0 c1 c2 => ?_
    rw [hv] at c1
    refine ldS c0 (ldSl c1 (ldI c2 ?_))
    clear c0 c1 c2
    refine wAL H fun q w2 H => ?_
    have H : St w (fps [rdO rb size born R]) w2 [pt q (.cells #[.string ⟨#[]⟩, .slice none 0 0, .int .i64 0] 82), rdP rb size born R', rdS R', rdM R'.l] := H
    refine wST H (b := q) (j := 0) (hK := ?_)
    intro w3 H _
    refine wST H (b := q) (j := 1) (hK := ?_)
    intro w4 H _
    refine wST H (b := q) (j := 2) (hK := ?_)
    intro w5 H _
    refine wSl H (b := q) (j := 1) (hK := wI H (b := q) (j := 2) (hK := ?_))
    have next : ∀ w' R2 v', R2.l = R'.l.set i ⟨f.name, v', (crashF picks[i]? (f.bs, f.syn)).1, (crashF picks[i]? (f.bs, f.syn)).2⟩ → St w (fps [rdO rb size born R]) w' [rdO rb size born R2] →
        ∃ k', k' < k ∧ ∃ (j : Nat) (R3 : RD), k' + j = R.l.length ∧ ((some ⟨rb, 0, none⟩, pa, picks.length, pc, ((i + 1 : Nat) : Int)) : (Option Addr) × (Option Addr) × Nat × Nat × Int) = (some ⟨rb, 0, none⟩, pa, picks.length, pc, (j : Int)) ∧ R3.l.length = R.l.length ∧ (∀ j', R3.A[j']? = if j' < j then (crashA picks R.A)[j']? else R.A[j']?) ∧
          St w (fps [rdO rb size born R]) w' [rdO rb size born R3] := by
      intro w' R2 v' hR2 H
      refine ⟨k - 1, by omega, i + 1, R2, by omega, rfl, by rw [hR2, List.length_set, hRl], fun j => ?_, H⟩
      rw [RD.get, hR2, List.getElem?_set]
      by_cases hij : i = j
      · subst hij
        rw [if_pos rfl, if_pos hi, if_pos (by omega), crash_get, hAi]
        rfl
      · rw [if_neg hij, ← RD.get, hRA j]
        by_cases hji : j < i
        · rw [if_pos hji, if_pos (by omega)]
        · rw [if_neg hji, if_neg (by omega)]
    refine br (fun hip => ?_) (fun hip => ?_)
    · have hip : i < picks.length := by simpa using hip
      obtain ⟨p, hpi⟩ : ∃ p, picks[i]? = some p := ⟨_, List.getElem?_eq_getElem hip⟩
      have hcell : (ints picks)[i]? = some (.int .i64 p) := by simp [ints, hpi]
      refine wIXr (hp.reads (by decide) H.fr) (i := i) (by simpa [ints] using hip) rfl fun ad had => ?_
      refine ldI (had.trans hcell) ?_
      refine br (fun hp0 => ?_) (fun hp0 => ?_)
      · have hp0 : 0 ≤ p := by simpa using hp0
        refine wIXr (hp.reads (by decide) H.fr) (i := i) (by simpa [ints] using hip) rfl fun ad had => ?_
        refine ldI (had.trans hcell) ?_
        have e0 : IntKind.wrap .i64 ((f.bs.length : Int) - (f.syn : Int)) = ((f.bs.length - f.syn : Nat) : Int) := by rw [wrap_id (by omega) (by omega)]; omega
        rw [e0, wrap_id (by omega) (by omega)]
        refine wReq (by omega) ?_
        refine crash_step hf hv hsy hbl (by omega) ?_ H next
        rw [hpi]
        unfold pickK
        simp only [hp0, if_true]
        rw [Int.tmod_eq_emod_of_nonneg hp0]
        have := Int.emod_nonneg p (show (((f.bs.length - f.syn : Nat) : Int) + 1) ≠ 0 by omega)
        omega
      · have hp0 : ¬ 0 ≤ p := by simpa using hp0
        refine crash_step hf hv hsy hbl (by omega) ?_ H next
        rw [hpi]
        unfold pickK
        simp only [hp0, if_false]
        rfl
    · have hip : ¬ i < picks.length := by simpa using hip
      refine crash_step hf hv hsy hbl (by omega) ?_ H next
      rw [List.getElem?_eq_none (by omega)]
      rfl
  · have hi : R'.l.length ≤ i := by simp [hn] at h; omega
    refine ⟨_, ⟨rfl, R', ?_, rfl⟩, H.rdClose⟩
    apply List.ext_getElem?
    intro j
    rw [hRA j]
    by_cases hji : j < i
    · rw [if_pos hji]
    · rw [if_neg hji, crash_get, List.getElem?_eq_none (by rw [RD.len]; omega)]
      rfl
end
end Go.Proofs.Ytimgbkabfkdabaa

/- List and Twin: the reference's; Twin of the disk in memory. -/
namespace Go.Proofs.Ytimgbkabfkdabaa
open Go.Sh
attribute [local irreducible] rRun LDI LDB LDS LDP LDSl LDM LD Go.Sh.ST AL ALM LetW CallR CallV CallI NN IX SIX Br Req mInt mBool mStr mPtr mSlice mMap mAgg mTup mCons mNil mNth mPA LoopS

section
variable {w0 w : World} {F : List Nat} {L M : List Own} {rb : Nat} {size born : Int} {R : RD}
theorem rList_spec {pa : Option Addr} {pn pc : Nat} {ps : List ByteArray} (hA : Has w [rdO rb size born R]) (hl : R.l.length ≤ 900000)
    (hp : Ext w [rdO rb size born R] 1 (.slice pa pn pc) (strs ps)) (hpl : ps.length ≤ 1000000000000) :
    CallS Try.prog fn_glacierref2_Disk_List #[.pointer (some ⟨rb, 0, none⟩), .slice pa pn pc] w [rdO rb size born R] fun r _ A =>
      ∃ a n c, r = .slice a n c ∧ A = [sliceO 9 1 (.slice a n c) (strs ((namesA R.A).filter (want ps))), rdO rb size born R] := by
  have hpn : pn = ps.length := by have := hp.1.len; simpa [strs] using this
  subst hpn
  refine CallS_intro hA fun H => glacierref2_Disk_List_sound _ _ _ _ _ _ ?_
  have H := H.rdOpen.nothing 9 1 none
  have H : St w (fps [rdO rb size born R]) w [rdP rb size born R, rdS R, rdM R.l, sliceO 9 1 (.slice none 0 0) []] := H.perm (List.perm_append_comm (l₁ := [_]) (l₂ := [_, _, _]))
  refine wLoop (fun k s w' => ∃ (i : Nat) (oa : Option Addr) (on oc : Nat), k + i = R.l.length ∧ s = (some ⟨rb, 0, none⟩, pa, ps.length, pc, oa, on, oc, (i : Int)) ∧
    St w (fps [rdO rb size born R]) w' [rdP rb size born R, rdS R, rdM R.l, sliceO 9 1 (.slice oa on oc) (strs ((namesA (R.A.take i)).filter (want ps)))]) ?_ ?_
  · exact ⟨R.l.length, 0, none, 0, 0, by omega, rfl, H⟩
  clear H
  rintro k s w1 ⟨i, oa, on, oc, hk, rfl, H⟩
  have hn := rd_n H
  refine nn ?_
  refine wSl H (b := rb) (j := 1) (hK := ?_)
  refine br (fun h => ?_) (fun h => ?_)
  · have hi : i < R.l.length := by simp [hn] at h; omega
    obtain ⟨f, hf⟩ : ∃ f, R.l[i]? = some f := ⟨_, List.getElem?_eq_getElem hi⟩
    have hAi : R.A[i]? = some f.fv := by rw [RD.get, hf]; rfl
    have hw1 : IntKind.wrap .i64 ((i : Int) + 1) = ((i + 1 : Nat) : Int) := by rw [wrap_id (by omega) (by omega)]; rfl
    have htk : (namesA (R.A.take (i + 1))).filter (want ps) = (namesA (R.A.take i)).filter (want ps) ++ if want ps f.name then [f.name] else [] := by
      obtain ⟨hi', he⟩ := List.getElem?_eq_some_iff.1 hAi
      unfold namesA
      rw [← List.take_append_getElem hi', List.map_append, List.filter_append, he]
      congr 1
      have : f.fv.1 = f.name := rfl
      cases hq : want ps f.name <;> simp [this, hq]
    have hlen : ((namesA (R.A.take i)).filter (want ps)).length ≤ R.l.length := by
      refine Nat.le_trans (List.length_filter_le _ _) ?_
      unfold namesA
      rw [List.length_map, List.length_take, RD.len]
      omega
    refine wLoop (fun k' s w' => ∃ (j : Nat) (is : Bool), k' + j = ps.length ∧ s = (some ⟨rb, 0, none⟩, pa, ps.length, pc, oa, on, oc, (i : Int), is, (j : Int)) ∧ is = (ps.isEmpty || (ps.take j).any fun p => hasPre f.name p) ∧
      St w (fps [rdO rb size born R]) w' [rdP rb size born R, rdS R, rdM R.l, sliceO 9 1 (.slice oa on oc) (strs ((namesA (R.A.take i)).filter (want ps)))]) ?_ ?_
    · refine ⟨ps.length, 0, _, by omega, rfl, ?_, H⟩
      cases ps with
      | nil => rfl
      | cons a t => simp; omega
    clear H
    rintro k' s w2 ⟨j, is, hk', rfl, his, H⟩
    refine br (fun h => ?_) (fun h => ?_)
    · have hj : j < ps.length := by simp at h; omega
      obtain ⟨p, hpj⟩ : ∃ p, ps[j]? = some p := ⟨_, List.getElem?_eq_getElem hj⟩
      have hwj : IntKind.wrap .i64 ((j : Int) + 1) = ((j + 1 : Nat) : Int) := by rw [wrap_id (by omega) (by omega)]; rfl
      have htj : ((ps.take (j + 1)).any fun p => hasPre f.name p) = (((ps.take j).any fun p => hasPre f.name p) || hasPre f.name p) := by
        obtain ⟨hj', he⟩ := List.getElem?_eq_some_iff.1 hpj
        rw [← List.take_append_getElem hj', List.any_append, he]
        simp
      refine wLW H ?_
      intro w3 H
      refine br (fun ht => ?_) (fun ht => ?_)
      · have ht : is = true := ht
        refine ⟨k' - 1, by omega, j + 1, true, by omega, by rw [hwj], ?_, H⟩
        rw [htj, ← Bool.or_assoc, ← his, ht]; rfl
      · have ht : is = false := ht
        refine nn ?_
        refine wSl H (b := rb) (j := 1) (hK := ?_)
        refine wIXf H hf rfl fun ad c0 c1 c2 => ?_
        refine ldS c0 ?_
        refine wIXr (hp.reads (by decide) H.fr) (i := j) (by simpa [strs] using hj) rfl fun ad had => ?_
        refine ldS (had.trans (show (strs ps)[j]? = some (.string p) by simp [strs, hpj])) ?_
        refine begins_walk (mBool_mk ?_)
        refine ⟨k' - 1, by omega, j + 1, hasPre f.name p, by omega, by rw [hwj], ?_, H⟩
        rw [htj, ← Bool.or_assoc, ← his, ht]; rfl
    · have hj : ps.length ≤ j := by simp at h; omega
      rw [List.take_of_length_le hj] at his
      have his : is = want ps f.name := his
      refine br (fun ht => ?_) (fun ht => ?_)
      · have ht : is = true := ht
        rw [← his, ht, if_pos rfl] at htk
        refine nn ?_
        refine wSl H (b := rb) (j := 1) (hK := ?_)
        refine wIXf H hf rfl fun ad c0 c1 c2 => ?_
        refine ldS c0 ?_
        refine wAL H fun b w3 H => ?_
        have hsrc : Reads w3 1 (.slice (some ⟨b, 0, none⟩) 1 1) (strs [f.name]) := by
          refine ⟨_, _, _, rfl, by simp [strs], Nat.le_refl _, .inr ⟨_, rfl, fun j hj => ?_⟩⟩
          have : j = 0 := by simp [strs] at hj; omega
          subst this
          rw [Addr.add_mk, cell_blk (H.blk (i := 0) rfl)]
          rfl
        obtain ⟨m, _, hs⟩ := hsrc.src (P := Try.prog) (tx := 28) elem_str.under (by simp [strs, Value.oneCell'])
        refine append_own (t := 28) (n := m) elem_str (i := 4) H rfl hs (by simp [strs]; omega) (by decide) fun v' w4 H _ _ => ?_
        obtain ⟨a', len, cap, rfl, _⟩ := (H.get (i := 4) rfl : SliceAt _ _ _ _ _)
        refine mSlice_mk ?_
        have e : strs ((namesA (R.A.take i)).filter (want ps)) ++ strs [f.name] = strs ((namesA (R.A.take (i + 1))).filter (want ps)) := by rw [htk]; simp [strs]
        rw [e] at H
        exact ⟨k - 1, by omega, i + 1, a', len, cap, by omega, by rw [hw1], H.tail⟩
      · have ht : is = false := ht
        rw [← his, ht, if_neg (by decide), List.append_nil] at htk
        exact ⟨k - 1, by omega, i + 1, oa, on, oc, by omega, by rw [hw1], by rw [htk]; exact H⟩
  · have hi : R.l.length ≤ i := by simp [hn] at h; omega
    rw [List.take_of_length_le (by rw [RD.len]; omega)] at H
    exact ⟨_, ⟨oa, on, oc, rfl, rfl⟩, H.rdClose.front (sliceO 9 1 (.slice oa on oc) (strs ((namesA R.A).filter (want ps))))⟩

theorem rTwin_spec (hA : Has w [rdO rb size born R]) (hl : R.l.length ≤ 900000) (ht : totA R.A ≤ 1000000000000) :
    CallS Try.prog fn_glacierref2_Disk_Twin #[.pointer (some ⟨rb, 0, none⟩)] w [rdO rb size born R] fun r _ A =>
      ∃ rb' R', r = .pointer (some ⟨rb', 0, none⟩) ∧ R'.A = R.A ∧ A = [rdO rb size born R, rdO rb' size born R'] := by
  refine CallS_intro hA fun H => glacierref2_Disk_Twin_sound _ _ _ ?_
  have H := H.rdOpen
  refine wLW H ?_
  intro w1 H
  refine nn ?_
  refine wI H (b := rb) (j := 0) (hK := nn ?_)
  refine wI H (b := rb) (j := 2) (hK := wEq ?_)
  refine wAL H.rdClose fun tb w2 H => ?_
  have H : St w (fps [rdO rb size born R]) w2 [rdO rb size born R, rdO tb size born ⟨none, 0, 0, []⟩] := by
    have H2 : St w (fps [rdO rb size born R]) w2 (rdM [] :: pt tb (.cells #[.int .i64 size, .slice none 0 0, .int .i64 born] 56) :: [rdO rb size born R]) := Sh.St.close (M := []) H
    have H3 := (H2.nothing 82 3 none).front (pt tb (.cells #[.int .i64 size, .slice none 0 0, .int .i64 born] 56))
    exact (St.rdClose (R := ⟨none, 0, 0, []⟩) H3).front (rdO rb size born R)
  refine wLoop (fun k s w' => ∃ (i : Nat) (T : RD), k + i = R.l.length ∧ s = (some ⟨rb, 0, none⟩, ⟨tb, 0, none⟩, (i : Int)) ∧ T.A = R.A.take i ∧ St w (fps [rdO rb size born R]) w' [rdO rb size born R, rdO tb size born T]) ?_ ?_
  · exact ⟨R.l.length, 0, ⟨none, 0, 0, []⟩, by omega, rfl, rfl, H⟩
  clear H
  rintro k s w1 ⟨i, T, hk, rfl, hT, H⟩
  have H := H.rdOpen
  have hn := rd_n H
  have hTl : T.l.length ≤ i := by
    have := congrArg List.length hT
    rw [RD.len, List.length_take] at this
    omega
  refine nn ?_
  refine wSl H (b := rb) (j := 1) (hK := ?_)
  refine br (fun h => ?_) (fun h => ?_)
  · have hi : i < R.l.length := by simp [hn] at h; omega
    obtain ⟨f, hf⟩ : ∃ f, R.l[i]? = some f := ⟨_, List.getElem?_eq_getElem hi⟩
    have hAi : R.A[i]? = some f.fv := by rw [RD.get, hf]; rfl
    have hw1 : IntKind.wrap .i64 ((i : Int) + 1) = ((i + 1 : Nat) : Int) := by rw [wrap_id (by omega) (by omega)]; rfl
    have hbl : f.bs.length ≤ 1000000000000 := by
      have h1 := totA_take hAi
      have h2 := totA_take_le R.A (i + 1)
      have h3 : f.fv.2.1.length = f.bs.length := rfl
      omega
    obtain ⟨va, vc, hv⟩ := file_val H (List.mem_of_getElem? hf)
    refine nn ?_
    refine wSl H (b := rb) (j := 1) (hK := ?_)
    refine wIXf H hf rfl fun ad c0 c1 c2 => ?_
    rw [hv] at c1
    refine ldS c0 (ldSl c1 (ldI c2 ?_))
    clear c0 c1 c2
    refine wAL H fun q w2 H => ?_
    have H : St w (fps [rdO rb size born R]) w2 [pt q (.cells #[.string ⟨#[]⟩, .slice none 0 0, .int .i64 0] 82), rdP rb size born R, rdS R, rdM R.l, rdO tb size born T] := H
    refine wST H (b := q) (j := 0) (hK := ?_)
    intro w3 H _
    refine wST H (b := q) (j := 1) (hK := ?_)
    intro w4 H _
    refine wST H (b := q) (j := 2) (hK := ?_)
    intro w5 H _
    refine wAL H fun b w6 H => ?_
    refine wSl H (b := q) (j := 1) (hK := ?_)
    have H := H.tail.nothing 5 1 (some ⟨b, 0, none⟩)
    have hfs : SliceAt w6 5 1 f.v (bvals f.bs) := (H.get (i := 4) rfl : (rdM R.l).holds w6) (f.own) (List.mem_map.2 ⟨f, List.mem_of_getElem? hf, rfl⟩)
    rw [hv] at hfs
    obtain ⟨n1, hn1, hs1⟩ := hfs.reads.src (P := Try.prog) (tx := 30) elem_bytes.under (bvals_one _)
    refine append_own (t := 30) (n := n1) elem_bytes (i := 0) H rfl hs1 (by simp; omega) (by decide) fun v' w7 H _ _ => ?_
    obtain ⟨ya, yn, yc, rfl, hyn, _⟩ := (H.get (i := 0) rfl : SliceAt _ _ _ _ _)
    rw [List.nil_append] at H hyn
    have H : St w (fps [rdO rb size born R]) w7 [sliceO 5 1 (.slice ya yn yc) (bvals f.bs), pt q (.cells #[.string f.name, .slice va f.bs.length vc, .int .i64 f.syn] 82), rdP rb size born R, rdS R, rdM R.l, rdO tb size born T] := H
    refine mSlice_mk ?_
    refine wST H (b := q) (j := 1) (hK := ?_)
    intro w8 H _
    refine wLW H ?_
    intro w9 H
    have H := (H.front (rdO tb size born T)).rdOpen
    have H : St w (fps [rdO rb size born R]) w9 [pt tb (.cells #[.int .i64 size, .slice T.a T.n T.c, .int .i64 born] 56), rdS T, rdM T.l, sliceO 5 1 (.slice ya yn yc) (bvals f.bs), pt q (.cells #[.string f.name, .slice ya yn yc, .int .i64 f.syn] 82), rdP rb size born R, rdS R, rdM R.l] := H
    refine wSl H (b := tb) (j := 1) (hK := ?_)
    refine wS H (b := q) (j := 0) (hK := wSl H (b := q) (j := 1) (hK := wI H (b := q) (j := 2) (hK := ?_)))
    refine wAL H fun b1 w10 H => ?_
    refine wC H (b := tb) (j := 1) (hK := ?_)
    have hrd : Reads w10 3 (.slice (some ⟨b1, 0, none⟩) 1 1) (RFile.cells ⟨f.name, .slice ya yn yc, f.bs, f.syn⟩) := el_reads (f := ⟨f.name, .slice ya yn yc, f.bs, f.syn⟩) (n := f.syn) H rfl
    obtain ⟨n2, hn2, hs2⟩ := hrd.src (P := Try.prog) (tx := 54) elem_file.under (by intro u hu; simp [RFile.cells] at hu; rcases hu with rfl | rfl | rfl <;> rfl)
    have hlT : (T.l.flatMap RFile.cells).length = T.l.length * 3 := flat_length fcells_len T.l
    refine append_own (t := 54) (n := n2) elem_file (i := 2) H rfl hs2 (by rw [hlT, fcells_len]; omega) (by decide) fun v' w11 H _ _ => ?_
    obtain ⟨za, zn, zc, rfl, _⟩ := (H.get (i := 2) rfl : SliceAt _ _ _ _ _)
    have e : T.l.flatMap RFile.cells ++ RFile.cells ⟨f.name, .slice ya yn yc, f.bs, f.syn⟩ = (T.l ++ [RFile.mk f.name (.slice ya yn yc) f.bs f.syn]).flatMap RFile.cells := by simp
    rw [e] at H
    have H : St w (fps [rdO rb size born R]) w11 [pt tb (.cells #[.int .i64 size, .slice T.a T.n T.c, .int .i64 born] 56), sliceO 82 3 (.slice za zn zc) ((T.l ++ [RFile.mk f.name (.slice ya yn yc) f.bs f.syn]).flatMap RFile.cells), rdM T.l, sliceO 5 1 (.slice ya yn yc) (bvals f.bs), pt q (.cells #[.string f.name, .slice ya yn yc, .int .i64 f.syn] 82), rdP rb size born R, rdS R, rdM R.l] := H.tail
    refine mSlice_mk ?_
    refine wST H (b := tb) (j := 1) (hK := ?_)
    intro w12 H _
    have H := (H.front (rdM T.l)).front (sliceO 5 1 (.slice ya yn yc) (bvals f.bs))
    have H := St.into (M := (T.l ++ [RFile.mk f.name (.slice ya yn yc) f.bs f.syn]).map RFile.own) H (by
      rw [List.map_append]
      exact List.perm_append_comm (l₁ := T.l.map RFile.own) (l₂ := [RFile.own (RFile.mk f.name (.slice ya yn yc) f.bs f.syn)]))
    have H := (H.front (sliceO 82 3 (.slice za zn zc) ((T.l ++ [RFile.mk f.name (.slice ya yn yc) f.bs f.syn]).flatMap RFile.cells))).front (pt tb (.cells #[.int .i64 size, .slice za zn zc, .int .i64 born] 56))
    have H := St.rdClose (R := ⟨za, zn, zc, T.l ++ [RFile.mk f.name (.slice ya yn yc) f.bs f.syn]⟩) H
    have H := ((H.front (rdM R.l)).front (rdS R)).front (rdP rb size born R)
    have H := H.rdClose.left (L := [_, _])
    refine ⟨k - 1, by omega, i + 1, _, by omega, by rw [hw1], ?_, H⟩
    obtain ⟨hi', he⟩ := List.getElem?_eq_some_iff.1 hAi
    rw [← List.take_append_getElem hi', he, ← hT]
    unfold RD.A
    simp [RFile.fv]
  · have hi : R.l.length ≤ i := by simp [hn] at h; omega
    rw [List.take_of_length_le (by rw [RD.len]; omega)] at hT
    exact ⟨_, ⟨tb, T, rfl, hT, rfl⟩, H.rdClose⟩
end
end Go.Proofs.Ytimgbkabfkdabaa
