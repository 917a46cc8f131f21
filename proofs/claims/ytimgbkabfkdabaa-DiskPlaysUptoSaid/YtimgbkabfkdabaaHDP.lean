/- DP DQ, laid together. -/
import Derived.Test.YtimgbkabfkdabaaHDM
/- DiskPlays: what it walks. -/
namespace Go.Proofs.Ytimgbkabfkdabaa
open Go.Sh
attribute [local irreducible] rRun LDI LDB LDS LDP LDSl LDM LD Go.Sh.ST AL ALM LetW CallR CallV CallI NN IX SIX Br Req mInt mBool mStr mPtr mSlice mMap mAgg mTup mCons mNil mNth mPA LoopS
attribute [local irreducible] nextA

abbrev actO (q : Nat) (x : ActD) : Own := pt q (.cells #[.int .i64 x.op, .string x.name, .string x.to, .slice x.na x.nn' x.nc, .slice x.ba x.bn x.bc, .slice x.pa x.pn x.pc] 46)
theorem small_names {w : World} {x : ActD} (h : x.ok w) : x.nn' = x.names.length := by
  have := h.1.len
  simpa [strs] using this
section
variable {w0 w : World} {F : List Nat} {L M : List Own} {rb db bm q : Nat} {size born : Int} {R : RD} {l : Files} {A : List AF} {x : ActD}
variable {b : Option Addr} {n c : Nat} {i : Int} {RR : Value → World → Prop} {K0 : ((Option Addr) × Nat × Nat × (Option Addr) × (Option Addr) × Int) → World → Prop}

set_option maxHeartbeats 4000000 in
theorem plays_1 (hr : Rep l A) (hRA : R.A = A) (hg : Good size A) (hsz : 0 ≤ size ∧ size ≤ 1073741824) (hlA : A.length ≤ 800000)
    (H : St w0 F w [diskO db bm size (total l) born l, rdO rb size born R, actO q x])
    (hK : ∀ w', St w0 F w' [diskO db bm size (total l) born l, rdO rb size born R] → K0 (b, n, c, some ⟨db, 0, none⟩, some ⟨rb, 0, none⟩, IntKind.wrap .i64 (i + 1)) w') :
    glacierlaw2_DiskPlays_b1 b n c (some ⟨db, 0, none⟩) (some ⟨rb, 0, none⟩) i ⟨q, 0, none⟩ K0 RR w := by
  have hR9 : R.l.length ≤ 900000 := by rw [← RD.len, hRA]; omega
  have hRs : Srt R.A := by rw [hRA]; exact hg.srt
  have hfit := hg.fits
  have hu := used_le hg.srt x.name
  refine wS H (b := q) (j := 1) (hK := ?_)
  have rest : ∀ w1, St w0 F w1 [rdO rb size born R, diskO db bm size (total l) born l, actO q x] →
      (Go.Sh.LDS w1 (Addr.add ⟨q, 0, none⟩ 1) fun v33 =>
  Go.Sh.LDS w1 (Addr.add ⟨q, 0, none⟩ 1) fun v34 =>
  CallR Try.prog fn_disk_Name #[(.string v33)] w1 fun res12 w_21 =>
  mBool res12 fun v35 =>
  (World.cell? w_21 (Addr.add ⟨q, 0, none⟩ 1) = some (.string v34) ∧ 
  CallR Try.prog fn_glacierref2_Name #[(.string v34)] w_21 fun res13 w_22 =>
  mBool res13 fun v36 =>
  (w_22 = w_22 ∧ 
  Br (!(v35 == v36)) (
  RR (.bool false) w_22) (
  Go.Sh.LDS w_22 (Addr.add ⟨q, 0, none⟩ 1) fun v37 =>
  Go.Sh.LDS w_22 (Addr.add ⟨q, 0, none⟩ 1) fun v38 =>
  CallR Try.prog fn_disk_Disk_Unsynced #[(.pointer (some ⟨db, 0, none⟩)), (.string v37)] w_22 fun res14 w_23 =>
  mInt .i64 res14 fun v39 =>
  (World.cell? w_23 (Addr.add ⟨q, 0, none⟩ 1) = some (.string v38) ∧ 
  CallR Try.prog fn_glacierref2_Disk_Unsynced #[(.pointer (some ⟨rb, 0, none⟩)), (.string v38)] w_23 fun res15 w_24 =>
  mInt .i64 res15 fun v40 =>
  Br (v39 != v40) (
  RR (.bool false) w_24) (
  glacierlaw2_DiskPlays_b0 b n c (some ⟨db, 0, none⟩) (some ⟨rb, 0, none⟩) i K0 w_24)))))) := by
    intro w1 H
    refine wS H (b := q) (j := 1) (hK := wS H (b := q) (j := 1) (hK := ?_))
    refine wCall (A := []) (B := [rdO rb size born R, diskO db bm size (total l) born l, actO q x]) H (fun _ => Name_spec x.name w1) (hK := ?_)
    rintro r w2 A' ⟨rfl, rfl⟩ _ H
    have H : St w0 F w2 [rdO rb size born R, diskO db bm size (total l) born l, actO q x] := H
    refine mBool_mk (wC H (b := q) (j := 1) (hK := ?_))
    refine rName_walk x.name (mBool_mk (wEq ?_))
    refine br (fun h => ?_) (fun _ => ?_)
    · simp at h
    refine wS H (b := q) (j := 1) (hK := wS H (b := q) (j := 1) (hK := ?_))
    have H := H.front (diskO db bm size (total l) born l)
    refine dUnsynced_walk hr hg hsz.2 H fun w8 H => mInt_mk (wC H (b := q) (j := 1) (hK := ?_))
    have H := H.front (rdO rb size born R)
    refine rUnsynced_walk (s := x.name) H hR9 hRs (by rw [hRA]; exact hg.wh) (by rw [hRA]; omega) fun w9 H => mInt_mk ?_
    rw [hRA]
    refine br (fun h => ?_) (fun _ => ?_)
    · simp at h
    exact hK _ ((H.front (diskO db bm size (total l) born l)).left (L := [_, _]))
  cases hq : aget A x.name with
  | none =>
    refine dRead_none hr hq H fun w1 H => ?_
    refine mTup_mk (mCons_mk (mSlice_mk (mCons_mk (mInt_mk (mNil_mk ?_)))))
    refine wS H (b := q) (j := 1) (hK := ?_)
    have H := H.front (rdO rb size born R)
    refine rRead_walk H hR9 hRs (fun _ w2 H => ?_) (fun y a c hy => by rw [hRA, hq] at hy; cases hy)
    refine mTup_mk (mCons_mk (mSlice_mk (mCons_mk (mInt_mk (mNil_mk (wLW H ?_))))))
    intro w3 H
    refine br (fun h => ?_) (fun _ => rest w3 H)
    simp at h
  | some y =>
    rw [usedOf_some hq] at hu
    refine dRead_walk hr hq (by omega) H fun w1 va vc H => ?_
    have H := H.tail
    refine mTup_mk (mCons_mk (mSlice_mk (mCons_mk (mInt_mk (mNil_mk ?_)))))
    refine wS H (b := q) (j := 1) (hK := ?_)
    have H := H.front (rdO rb size born R)
    refine rRead_walk H hR9 hRs (fun hy => by rw [hRA, hq] at hy; cases hy) (fun y a c hy w2 H _ => ?_)
    refine mTup_mk (mCons_mk (mSlice_mk (mCons_mk (mInt_mk (mNil_mk (wLW H ?_))))))
    intro w3 H
    refine br (fun h => ?_) (fun _ => rest w3 H)
    simp at h

theorem plays_2 (hr : Rep l A) (hRA : R.A = A) (hg : Good size A) (hsz : 0 ≤ size ∧ size ≤ 1073741824) (hlA : A.length ≤ 800000)
    (H : St w0 F w [diskO db bm size (total l) born l, rdO rb size born R, actO q x])
    (hK : ∀ w' db' bm' rb' l' R', Rep l' A → R'.A = A → St w0 F w' [diskO db' bm' size (total l') born l', rdO rb' size born R'] → K0 (b, n, c, some ⟨db', 0, none⟩, some ⟨rb', 0, none⟩, IntKind.wrap .i64 (i + 1)) w') :
    glacierlaw2_DiskPlays_b2 b n c (some ⟨db, 0, none⟩) (some ⟨rb, 0, none⟩) i ⟨q, 0, none⟩ K0 RR w := by
  have hR9 : R.l.length ≤ 900000 := by rw [← RD.len, hRA]; omega
  have hfit := hg.fits
  refine wI H (b := q) (j := 0) (hK := ?_)
  refine br (fun _ => ?_) (fun _ => ?_)
  · refine wCall H (fun hA => Twin_spec hA (fun f s hf => by
      have h1 := used_le hg.srt s
      rw [usedOf_some (hr.get hf)] at h1
      simp only at h1
      omega)) (hK := ?_)
    rintro r w1 A' ⟨tb, tm, l', rfl, hl', rfl⟩ _ H
    have hr' : Rep l' A := ⟨fun s => by rw [hl' s]; exact hr.look s, hr.srt⟩
    have ht : total l = total l' := by
      rw [hr.tot (keys_nodup (H.get (i := 0) rfl)), hr'.tot (keys_nodup (H.get (i := 1) rfl))]
    refine mPtr_mk ?_
    refine wCall H (fun hA => rTwin_spec hA hR9 (by rw [hRA]; omega)) (hK := ?_)
    rintro r w2 A' ⟨rb', R', rfl, hR', rfl⟩ _ H
    refine mPtr_mk ?_
    rw [ht] at H
    have H := (((H.front (actO q x)).front (rdO rb' size born R')).front (diskO tb tm size (total l') born l')).left (L := [_, _, _])
    exact plays_1 hr' (hR'.trans hRA) hg hsz hlA H fun w' H => hK _ _ _ _ _ _ hr' (hR'.trans hRA) H
  · exact plays_1 hr hRA hg hsz hlA H fun w' H => hK _ _ _ _ _ _ hr hRA H
end
end Go.Proofs.Ytimgbkabfkdabaa

/- DiskPlays: its loop. -/
namespace Go.Proofs.Ytimgbkabfkdabaa
open Go.Sh
attribute [local irreducible] rRun LDI LDB LDS LDP LDSl LDM LD Go.Sh.ST AL ALM LetW CallR CallV CallI NN IX SIX Br Req mInt mBool mStr mPtr mSlice mMap mAgg mTup mCons mNil mNth mPA LoopS
attribute [local irreducible] nextA glacierlaw2_DiskPlays_b2

section
variable {w0 w : World} {F : List Nat} {L M : List Own} {rb db bm q : Nat} {size born : Int} {R : RD} {l : Files} {A : List AF} {x : ActD}
variable {b : Option Addr} {n c : Nat} {RR : Value → World → Prop} {K0 : ((Option Addr) × Nat × Nat × (Option Addr) × (Option Addr) × Int) → World → Prop}
set_option maxHeartbeats 8000000 in
theorem plays_6 {xs : List ActD} {i k : Nat} (hb : ActsD w0 (.slice b n c) xs) (hx : xs[i]? = some x) (hsm : x.small) (hr : Rep l A) (hRA : R.A = A) (hg : Ok size A born k) (hk : k ≤ 700000) (hsz : 0 ≤ size ∧ size ≤ 1073741824)
    (H : St w0 [] w [diskO db bm size (total l) born l, rdO rb size born R])
    (hK : ∀ w' db' bm' rb' l' R', Rep l' (nextA size A x) → R'.A = nextA size A x → St w0 [] w' [diskO db' bm' size (total l') (nextB born x) l', rdO rb' size (nextB born x) R'] → K0 (b, n, c, some ⟨db', 0, none⟩, some ⟨rb', 0, none⟩, IntKind.wrap .i64 ((i : Int) + 1)) w') :
    glacierlaw2_DiskPlays_b6 b n c (some ⟨db, 0, none⟩) (some ⟨rb, 0, none⟩) (i : Int) K0 RR w := by
  have hxm := List.mem_of_getElem? hx
  have hok := hb.oks x hxm
  have hnl : x.nn' = x.names.length := small_names hok
  refine act_load (hb.keep H.fr) hx rfl ?_
  refine wAL H fun q w1 H => ?_
  repeat (first | refine nn ?_ | refine wI H (hK := ?_) | refine wP H (hK := ?_) | refine wM H (hK := ?_) | refine wSl H (hK := ?_) | refine wB H (hK := ?_) | refine wS H (hK := ?_) | refine wEq ?_ | refine wC H (hK := ?_) | (refine wLW H ?_; intro w1 H) | (refine wST H (hK := ?_); intro w1 H _) | refine mSlice_mk ?_ | refine mInt_mk ?_ | refine mBool_mk ?_ | refine mTup_mk ?_ | refine mCons_mk ?_ | refine mNil_mk ?_ | refine mAgg_mk ?_ | refine mPtr_mk ?_ | refine mStr_mk ?_)
  have H : St w0 [] w1 [actO q x, diskO db bm size (total l) born l, rdO rb size born R] := H
  have H := (H.front (rdO rb size born R)).front (diskO db bm size (total l) born l)
  refine step_walk (x := x) H hr hg (by rw [hRA]; exact hg) ⟨by omega, by omega⟩ hsz hsz hsm hok ?_
  intro qq w2 bm1 l1 R1 hq hr1 hR1 H
  rw [hRA] at hR1
  have hq := hq rfl hRA.symm
  subst hq
  have hg1 := hg.next hsz.1 x
  generalize hB : nextA size A x = B at hK hr1 hR1 hg1
  generalize hb1 : nextB born x = born1 at hK H hg1
  have hlB := hg1.len
  have hfit := hg1.good.fits
  have hR9 : R1.l.length ≤ 900000 := by rw [← RD.len, hR1]; omega
  refine mBool_mk (br (fun h => by simp at h) (fun _ => ?_))
  have H : St w0 [] w2 [diskO db bm1 size (total l1) born1 l1, rdO rb size born1 R1, actO q x] := H
  refine wCall H (fun hA => Alike_spec hA hr1 hR1 hg1.good hsz (by omega)) (hK := ?_)
  rintro r w3 A' ⟨rfl, rfl⟩ _ H
  have H : St w0 [] w3 [diskO db bm1 size (total l1) born1 l1, rdO rb size born1 R1, actO q x] := H
  refine mBool_mk (br (fun h => by simp at h) (fun _ => ?_))
  refine wSl H (b := q) (j := 3) (hK := ?_)
  have hnd : (keysOf l1).Nodup := keys_nodup (H.get (i := 0) rfl)
  have hlen := hr1.len hnd
  refine wCall H (fun hA => List_spec (l := l1) (ps := x.names) hA (St.extC (A := [_]) (B := [_, _]) H (by decide) hok.1) (by have := hsm.1; omega) (by omega)) (hK := ?_)
  rintro r w4 A' ⟨pa, pn, pc, rfl, rfl⟩ _ H
  have hlist := hr1.listed hnd x.names
  rw [hlist] at H
  generalize hN : (namesA B).filter (want x.names) = N at H
  have hNl : N.length ≤ 800000 := by
    rw [← hN]
    refine Nat.le_trans (List.length_filter_le _ _) ?_
    simp [namesA]; omega
  have hpn : pn = N.length := by have := (H.get (i := 0) rfl : SliceAt _ 9 1 (.slice pa pn pc) _).len; simpa [strs] using this
  subst hpn
  refine mSlice_mk ?_
  have H : St w0 [] w4 [sliceO 9 1 (.slice pa N.length pc) (strs N), diskO db bm1 size (total l1) born1 l1, rdO rb size born1 R1, actO q x] := H
  refine wSl H (b := q) (j := 3) (hK := ?_)
  have H := H.front (rdO rb size born1 R1)
  refine wCall H (fun hA => rList_spec (ps := x.names) hA hR9 (St.extC (A := [_]) (B := [_, _, _]) H (by decide) hok.1) (by have := hsm.1; omega)) (hK := ?_)
  rintro r w5 A' ⟨qa, qn, qc, rfl, rfl⟩ _ H
  rw [hR1, hN] at H
  have hqn : qn = N.length := by have := (H.get (i := 0) rfl : SliceAt _ 9 1 (.slice qa qn qc) _).len; simpa [strs] using this
  subst hqn
  refine mSlice_mk ?_
  have H : St w0 [] w5 [sliceO 9 1 (.slice qa N.length qc) (strs N), rdO rb size born1 R1, sliceO 9 1 (.slice pa N.length pc) (strs N), diskO db bm1 size (total l1) born1 l1, actO q x] := H
  refine wSl H (b := q) (j := 3) (hK := ?_)
  have fin : ∀ w', St w0 [] w' [sliceO 9 1 (.slice qa N.length qc) (strs N), rdO rb size born1 R1, sliceO 9 1 (.slice pa N.length pc) (strs N), diskO db bm1 size (total l1) born1 l1, actO q x] →
      glacierlaw2_DiskPlays_b2 b n c (some ⟨db, 0, none⟩) (some ⟨rb, 0, none⟩) (i : Int) ⟨q, 0, none⟩ K0 RR w' := fun w' H => by
    have H := (((H.front (actO q x)).front (rdO rb size born1 R1)).front (diskO db bm1 size (total l1) born1 l1)).left (L := [_, _, _])
    exact plays_2 hr1 hR1 hg1.good hsz (by omega) H hK
  have loop : glacierlaw2_DiskPlays_b5 b n c (some ⟨db, 0, none⟩) (some ⟨rb, 0, none⟩) (i : Int) ⟨q, 0, none⟩ pa N.length pc qa N.length qc K0 RR w5 := by
    refine wLoop (fun k' s w' => ∃ j : Nat, k' + j = N.length ∧ s = (b, n, c, some ⟨db, 0, none⟩, some ⟨rb, 0, none⟩, (i : Int), ⟨q, 0, none⟩, pa, N.length, pc, qa, N.length, qc, (j : Int)) ∧
      St w0 [] w' [sliceO 9 1 (.slice qa N.length qc) (strs N), rdO rb size born1 R1, sliceO 9 1 (.slice pa N.length pc) (strs N), diskO db bm1 size (total l1) born1 l1, actO q x]) ⟨N.length, 0, by omega, rfl, H⟩ ?_
    clear H
    rintro k' s w6 ⟨j, hk', rfl, H⟩
    refine br (fun h => ?_) (fun h => fin _ H)
    have hj : j < N.length := by simp at h; omega
    refine wSl H (b := q) (j := 3) (hK := ?_)
    refine br (fun _ => ?_) (fun h => fin _ H)
    refine wLW H ?_
    intro w7 H
    have hwj : IntKind.wrap .i64 ((j : Int) + 1) = ((j + 1 : Nat) : Int) := by rw [wrap_id (by omega) (by omega)]; rfl
    obtain ⟨s, hs⟩ : ∃ s, N[j]? = some s := ⟨_, List.getElem?_eq_getElem hj⟩
    have hss : (strs N)[j]? = some (.string s) := by simp [strs, hs]
    have hsl : j < (strs N).length := by simpa [strs] using hj
    refine wIX (H.get (i := 2) rfl : SliceAt _ 9 1 _ _) hsl rfl fun a0 ha0 => ldS (ha0.trans hss) ?_
    refine wIX (H.get (i := 0) rfl : SliceAt _ 9 1 _ _) hsl rfl fun a0 ha0 => ldS (ha0.trans hss) ?_
    refine br (fun h => ?_) (fun _ => ?_)
    · simp at h
    exact ⟨k' - 1, by omega, j + 1, by omega, by rw [hwj], H⟩
  refine br (fun _ => ?_) (fun _ => loop)
  refine br (fun h => ?_) (fun _ => loop)
  simp at h

set_option maxHeartbeats 4000000 in
theorem DiskPlays_spec {xs : List ActD} (hb : ActsD w (.slice b n c) xs) (hlen : xs.length ≤ 150000) (hsm : ∀ x ∈ xs, x.small) :
    CallS Try.prog fn_glacierlaw2_DiskPlays #[.int .i64 size, .slice b n c] w [] fun r _ A => r = .bool true ∧ A = [] := by
  have hn := hb.len
  subst hn
  refine CallS_intro (.nil w) fun H => glacierlaw2_DiskPlays_sound _ _ _ _ _ _ ?_
  have H : St w [] w [] := H
  have fin : ∀ {w' : World} {L : List Own}, St w [] w' L → ∃ A', ((Value.bool true) = .bool true ∧ A' = []) ∧ St w (fps []) w' A' := fun H => ⟨[], ⟨rfl, rfl⟩, Sh.St.left (L := []) H⟩
  refine wCall H (fun _ => known_spec w) (hK := ?_)
  rintro r w1 A' ⟨rfl, rfl⟩ _ H
  refine mBool_mk (br (fun h => by simp at h) (fun _ => ?_))
  refine wCall (A := []) (B := []) H (fun _ => few_spec (hb.keep H.fr) (by omega) hsm) (hK := ?_)
  rintro r w2 A' ⟨rfl, qf, rfl⟩ _ H
  refine mBool_mk (br (fun _ => fin H) (fun _ => ?_))
  refine wCall (A := []) (B := []) H (fun _ => New_spec size w2) (hK := ?_)
  rintro r w3 A' ⟨h1, h2⟩ _ H
  by_cases hs : 1 ≤ size ∧ size ≤ 1073741824
  · obtain ⟨db, bm, rfl, rfl⟩ := h1 hs
    refine mTup_mk (mCons_mk (mPtr_mk (mCons_mk (mInt_mk (mNil_mk ?_)))))
    refine wCall (A := []) (B := [diskO db bm size 0 0 []]) H (fun _ => rdNew_spec size w3) (hK := ?_)
    rintro r w4 A' ⟨g1, _⟩ _ H
    obtain ⟨rb, rfl, rfl⟩ := g1 hs
    refine mTup_mk (mCons_mk (mPtr_mk (mCons_mk (mInt_mk (mNil_mk ?_)))))
    refine br (fun h => by simp at h) (fun _ => br (fun h => by simp at h) (fun _ => br (fun h => by simp at h) (fun _ => ?_)))
    refine wLoop (fun k' s w' => ∃ (i db bm rb : Nat) (l : Files) (R : RD), k' + i = xs.length ∧ s = (b, xs.length, c, some ⟨db, 0, none⟩, some ⟨rb, 0, none⟩, (i : Int)) ∧ Rep l (runA size [] (xs.take i)) ∧ R.A = runA size [] (xs.take i) ∧
      St w [] w' [diskO db bm size (total l) (runB 0 (xs.take i)) l, rdO rb size (runB 0 (xs.take i)) R]) ?_ ?_
    · exact ⟨xs.length, 0, db, bm, rb, [], ⟨none, 0, 0, []⟩, by omega, rfl, Rep.nil, rfl, H.front (diskO db bm size 0 0 [])⟩
    clear H
    rintro k' s w5 ⟨i, db, bm, rb, l, R, hk', rfl, hr, hRA, H⟩
    refine br (fun h => ?_) (fun _ => fin H)
    have hi : i < xs.length := by simp at h; omega
    obtain ⟨x, hx⟩ : ∃ x, xs[i]? = some x := ⟨_, List.getElem?_eq_getElem hi⟩
    have hwi : IntKind.wrap .i64 ((i : Int) + 1) = ((i + 1 : Nat) : Int) := by rw [wrap_id (by omega) (by omega)]; rfl
    have hOk : Ok size (runA size [] (xs.take i)) (runB 0 (xs.take i)) (0 + i) := by
      have := Ok.run (xs := xs.take i) (size := size) (by omega) (Ok.zero (by omega))
      rw [List.length_take, Nat.min_eq_left (Nat.le_of_lt hi)] at this
      exact this
    refine plays_6 hb hx (hsm x (List.mem_of_getElem? hx)) hr hRA hOk (by omega) ⟨by omega, by omega⟩ H ?_
    intro w' db' bm' rb' l' R' hr' hR' H
    rw [← runA_next hx] at hr' hR'
    rw [← runB_next hx] at H
    exact ⟨k' - 1, by omega, i + 1, db', bm', rb', l', R', by omega, by rw [hwi], hr', hR', H⟩
  · obtain ⟨rfl, rfl⟩ := h2 hs
    refine mTup_mk (mCons_mk (mPtr_mk (mCons_mk (mInt_mk (mNil_mk ?_)))))
    refine wCall (A := []) (B := []) H (fun _ => rdNew_spec size w3) (hK := ?_)
    rintro r w4 A' ⟨_, g2⟩ _ H
    obtain ⟨rfl, rfl⟩ := g2 hs
    refine mTup_mk (mCons_mk (mPtr_mk (mCons_mk (mInt_mk (mNil_mk ?_)))))
    refine br (fun h => by simp at h) (fun _ => br (fun h => by simp at h) (fun _ => br (fun _ => fin H) (fun h => by simp at h)))
end
end Go.Proofs.Ytimgbkabfkdabaa
