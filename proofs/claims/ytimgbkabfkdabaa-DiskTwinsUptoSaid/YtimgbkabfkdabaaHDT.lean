/- DiskFronts: what it walks. -/
import Derived.Test.YtimgbkabfkdabaaHDM
namespace Go.Proofs.Ytimgbkabfkdabaa
open Go.Sh
attribute [local irreducible] rRun LDI LDB LDS LDP LDSl LDM LD Go.Sh.ST AL ALM LetW CallR CallV CallI NN IX SIX Br Req mInt mBool mStr mPtr mSlice mMap mAgg mTup mCons mNil mNth mPA LoopS
attribute [local irreducible] nextA

theorem crashF_take (p : Option Int) (x : List UInt8 × Nat) (h : x.2 ≤ x.1.length) : x.1.take (crashF p x).1.length = (crashF p x).1 := by
  rw [(crashF_len p x h).1]; rfl
theorem crashF_whole (p : Option Int) (bs : List UInt8) : crashF p (bs, bs.length) = (bs, bs.length) := by
  have h : pickK p 0 = 0 := Nat.le_zero.1 (pickK_le p 0)
  unfold crashF
  simp only [Nat.sub_self, h, Nat.add_zero, List.take_length]
theorem crash_twice {A : List AF} (hw : WhA A) (picks picks' : List Int) : crashA picks' (crashA picks A) = crashA picks A := by
  apply List.ext_getElem?
  intro i
  rw [crash_get, crash_get]
  cases hq : A[i]? with
  | none => rfl
  | some x =>
    have := (crashF_len picks[i]? x.2 (hw x (List.mem_of_getElem? hq))).1
    simp only [Option.map_some]
    generalize crashF picks[i]? x.2 = y at this ⊢
    obtain ⟨bs, n⟩ := y
    simp only at this
    subst this
    rw [crashF_whole]

section
variable {w0 w : World} {F : List Nat} {L M : List Own} {db bm tb tm : Nat} {size born : Int} {l : Files} {A : List AF}
variable {b : Option Addr} {n c : Nat} {RR : Value → World → Prop}
theorem dTwin_walk {K : Value → World → Prop} (hr : Rep l A) (hg : Good size A) (hsz : size ≤ 1073741824) (H : St w0 F w (diskO db bm size (total l) born l :: L))
    (hK : ∀ w' tb tm l', Rep l' A → St w0 F w' (diskO db bm size (total l) born l :: diskO tb tm size (total l') born l' :: L) → K (.pointer (some ⟨tb, 0, none⟩)) w') :
    CallR Try.prog fn_disk_Disk_Twin #[.pointer (some ⟨db, 0, none⟩)] w K := by
  have hfit := hg.fits
  refine wCall H (fun hA => Twin_spec hA (fun f s hf => by
      have h1 := used_le hg.srt s
      rw [usedOf_some (hr.get hf)] at h1
      simp only at h1
      omega)) (hK := ?_)
  rintro r w1 A' ⟨tb, tm, l', rfl, hl', rfl⟩ _ H
  have hr' : Rep l' A := ⟨fun s => by rw [hl' s]; exact hr.look s, hr.srt⟩
  have ht : total l = total l' := by
    rw [hr.tot (keys_nodup (H.get (i := 0) rfl)), hr'.tot (keys_nodup (H.get (i := 1) rfl))]
  have H : St w0 F w1 (diskO db bm size (total l) born l :: diskO tb tm size (total l) born l' :: L) := H
  refine hK w1 tb tm l' hr' ?_
  rw [← ht]
  exact H
theorem dCrash_walk {K : Value → World → Prop} {pa : Option Addr} {pn pc : Nat} {picks : List Int} (hp : Reads w0 1 (.slice pa pn pc) (ints picks)) (hr : Rep l A) (hg : Good size A) (hsz : size ≤ 1073741824) (hlA : A.length ≤ 800000) (H : St w0 [] w (diskO db bm size (total l) born l :: L))
    (hK : ∀ w' l', Rep l' (crashA picks A) → St w0 [] w' (diskO db bm size (total l') born l' :: L) → K (.tuple #[]) w') :
    CallR Try.prog fn_disk_Disk_Crash #[.pointer (some ⟨db, 0, none⟩), .slice pa pn pc] w K := by
  have hnd : (keysOf l).Nodup := keys_nodup (H.get (i := 0) rfl)
  have htot := hr.tot hnd
  have hlen := hr.len hnd
  have hfit := hg.fits
  refine wCall H (fun hA => Crash_spec (l := l) (picks := picks) hA (St.extC (A := [_]) (B := L) H (by decide) hp) (by omega) (hr.whole hg.wh) rfl (by omega)) (hK := ?_)
  rintro r w4 A' ⟨rfl, l', hcr, rfl⟩ _ H
  exact hK w4 l' (hr.crash hnd hcr) H
theorem Good.crash {picks : List Int} (hg : Good size A) : Good size (crashA picks A) := by
  have := totA_crash hg.wh picks
  have hf := hg.fits
  exact ⟨hg.srt.crash _, hg.wh.crash _, by omega⟩

theorem fronts_0 {pa : Option Addr} {pn pc : Nat} {picks : List Int} (hp : Reads w0 1 (.slice pa pn pc) (ints picks)) (hr : Rep l (crashA picks A)) (hg : Good 1048576 A) (hlA : A.length ≤ 800000)
    (H : St w0 [] w (diskO db bm 1048576 (total l) born l :: L)) (hfin : ∀ w' L, St w0 [] w' L → RR (.bool true) w') : glacierlaw2_DiskFronts_b0 pa pn pc (some ⟨db, 0, none⟩) RR w := by
  have hg' := hg.crash (picks := picks)
  refine dTwin_walk hr hg' (by decide) H fun w1 tb tm l' hr' H => mPtr_mk ?_
  refine dCrash_walk hp hr hg' (by decide) (by rw [crash_len]; exact hlA) H fun w2 l2 hr2 H => mTup_mk (mNil_mk ?_)
  rw [crash_twice hg.wh] at hr2
  have ht : total l2 = total l' := by rw [hr2.tot (keys_nodup (H.get (i := 0) rfl)), hr'.tot (keys_nodup (H.get (i := 1) rfl))]
  refine wCall H (fun hA => Used_spec hA) (hK := ?_)
  rintro r w3 A' ⟨rfl, rfl⟩ _ H
  refine mInt_mk ?_
  have H := H.front (diskO tb tm 1048576 (total l') born l')
  refine wCall H (fun hA => Used_spec hA) (hK := ?_)
  rintro r w4 A' ⟨rfl, rfl⟩ _ H
  refine mInt_mk ?_
  rw [ht]
  have : ((total l' : Int) == (total l' : Int)) = true := by simp
  rw [this]
  exact hfin _ _ H

set_option maxHeartbeats 8000000 in
theorem fronts_4 {pa : Option Addr} {pn pc : Nat} {picks : List Int} (hp : Reads w0 1 (.slice pa pn pc) (ints picks)) (hr : Rep l A) (hg : Good 1048576 A) (hlA : A.length ≤ 800000)
    (H : St w0 [] w [diskO db bm 1048576 (total l) born l]) (hfin : ∀ w' L, St w0 [] w' L → RR (.bool true) w') : glacierlaw2_DiskFronts_b4 pa pn pc (some ⟨db, 0, none⟩) RR w := by
  have hg' := hg.crash (picks := picks)
  have hlC : (crashA picks A).length ≤ 800000 := by rw [crash_len]; exact hlA
  refine dTwin_walk hr hg (by decide) H fun w1 tb tm l1 hr1 H => mPtr_mk ?_
  refine dCrash_walk hp hr hg (by decide) hlA H fun w2 l2 hr2 H => mTup_mk (mNil_mk ?_)
  have ht1 : total l1 = totA A := hr1.tot (keys_nodup (H.get (i := 1) rfl))
  have ht2 : total l2 = totA (crashA picks A) := hr2.tot (keys_nodup (H.get (i := 0) rfl))
  have htc := totA_crash hg.wh picks
  have H := H.front (diskO tb tm 1048576 (total l1) born l1)
  refine List_all hr1 hlA H fun w3 a n c H hn => mSlice_mk ?_
  subst hn
  have H := H.front (diskO db bm 1048576 (total l2) born l2)
  refine List_all hr2 hlC H fun w4 a' n c' H hn => mSlice_mk ?_
  rw [crash_len] at hn
  subst hn
  rw [crash_names] at H
  refine br (fun h => by simp at h) (fun _ => ?_)
  have H := H.front (diskO db bm 1048576 (total l2) born l2)
  refine wCall H (fun hA => Used_spec hA) (hK := ?_)
  rintro r w3 A' ⟨rfl, rfl⟩ _ H
  refine mInt_mk ?_
  have H := H.front (diskO tb tm 1048576 (total l1) born l1)
  refine wCall H (fun hA => Used_spec hA) (hK := ?_)
  rintro r w4 A' ⟨rfl, rfl⟩ _ H
  refine mInt_mk ?_
  refine br (fun h => by simp at h; omega) (fun _ => ?_)
  refine wLoop (fun k s w' => ∃ i : Nat, k + i = A.length ∧ s = (pa, pn, pc, some ⟨db, 0, none⟩, some ⟨tb, 0, none⟩, a, A.length, c, a', A.length, c', (i : Int)) ∧
    St w0 [] w' [diskO tb tm 1048576 (total l1) born l1, diskO db bm 1048576 (total l2) born l2, sliceO 9 1 (.slice a' A.length c') (strs (namesA A)), sliceO 9 1 (.slice a A.length c) (strs (namesA A))]) ⟨A.length, 0, by omega, rfl, H⟩ ?_
  clear H
  rintro k s w5 ⟨i, hk, rfl, H⟩
  refine br (fun h => ?_) (fun h => ?_)
  · have hi : i < A.length := by simp at h; omega
    obtain ⟨x, hx⟩ : ∃ x, A[i]? = some x := ⟨_, List.getElem?_eq_getElem hi⟩
    obtain ⟨hgx, hwx, hbx⟩ := hg.file hx
    have hxc : (crashA picks A)[i]? = some (x.1, crashF picks[i]? x.2) := by rw [crash_get, hx]; rfl
    obtain ⟨hgc, hwc, hbc⟩ := hg'.file hxc
    simp only at hgc hwc hbc
    obtain ⟨hc1, hc2, hc3⟩ := crashF_len picks[i]? x.2 hwx
    have hct := crashF_take picks[i]? x.2 hwx
    generalize crashF picks[i]? x.2 = y at hgc hwc hbc hc1 hc2 hc3 hct
    have hwi : IntKind.wrap .i64 ((i : Int) + 1) = ((i + 1 : Nat) : Int) := by rw [wrap_id (by omega) (by omega)]; rfl
    have hnm : (strs (namesA A))[i]? = some (.string x.1) := names_get hx
    have hnl : i < (strs (namesA A)).length := by rw [names_len]; exact hi
    refine wIX (H.get (i := 3) rfl : SliceAt _ 9 1 _ _) hnl rfl fun a0 ha0 => ldS (ha0.trans hnm) ?_
    refine dRead_walk hr1 hgx (by omega) H fun w6 va vc H => ?_
    refine mTup_mk (mCons_mk (mSlice_mk (mCons_mk (mInt_mk (mNil_mk ?_)))))
    refine wIX (H.get (i := 4) rfl : SliceAt _ 9 1 _ _) hnl rfl fun a0 ha0 => ldS (ha0.trans hnm) ?_
    have H := H.front (diskO db bm 1048576 (total l2) born l2)
    refine dRead_walk hr2 hgc (by omega) H fun w7 ua uc H => ?_
    refine mTup_mk (mCons_mk (mSlice_mk (mCons_mk (mInt_mk (mNil_mk ?_)))))
    refine wIX (H.get (i := 5) rfl : SliceAt _ 9 1 _ _) hnl rfl fun a0 ha0 => ldS (ha0.trans hnm) ?_
    have H := H.front (diskO tb tm 1048576 (total l1) born l1)
    refine dUnsynced_walk hr1 hg (by decide) H fun w8 H => mInt_mk (wLW H ?_)
    intro w9 H
    rw [usedOf_some hgx]
    refine br (fun h => by simp at h) (fun _ => ?_)
    refine wIX (H.get (i := 4) rfl : SliceAt _ 9 1 _ _) hnl rfl fun a0 ha0 => ldS (ha0.trans hnm) ?_
    refine wIX (H.get (i := 5) rfl : SliceAt _ 9 1 _ _) hnl rfl fun a0 ha0 => ldS (ha0.trans hnm) ?_
    refine br (fun h => by simp at h) (fun _ => wEq ?_)
    have hw2 : IntKind.wrap .i64 ((x.2.1.length : Int) - ((x.2.1.length : Int) - (x.2.2 : Int))) = (x.2.2 : Int) := by rw [wrap_id (by omega) (by omega)]; omega
    rw [hw2]
    refine br (fun h => by simp at h; omega) (fun _ => wEq (wEq ?_))
    refine br (fun h => by simp at h; omega) (fun _ => wEq ?_)
    have hrd := (H.get (i := 3) rfl : SliceAt w9 5 1 (.slice va x.2.1.length vc) (bvals x.2.1)).reads
    have hcap : x.2.1.length ≤ vc := by
      obtain ⟨_, _, _, he, _, h2, _⟩ := hrd
      cases he
      exact h2
    refine rRun_intro (sliceAt_run (P := Try.prog) elem_bytes (a := va) (len := x.2.1.length) (cap := vc) (l := 0) (h := y.1.length) (m := vc) (lo := none) (hi := some (.int .i64 ((y.1.length : Nat) : Int))) (mx := none) rfl ⟨rfl, by omega⟩ (fun h => by cases h) rfl) (mSlice_mk (wEq ?_))
    have r := hrd.sub (l := 0) (h := y.1.length) (m := vc) (Nat.zero_le _) (by omega) (by omega)
    rw [Nat.mul_one, Nat.mul_one] at r
    have e1 : ((bvals x.2.1).drop 0).take (y.1.length - 0) = bvals y.1 := by
      rw [← hct]; simp [bvals]
    rw [e1] at r
    refine wConvS r elem_bytes.under (by kernel_rfl) (by kernel_rfl) (mStr_mk (wEq ?_))
    refine wConvS (H.get (i := 1) rfl : SliceAt w9 5 1 (.slice ua y.1.length uc) (bvals y.1)).reads elem_bytes.under (by kernel_rfl) (by kernel_rfl) (mStr_mk (wEq ?_))
    refine br (fun h => by simp at h) (fun _ => ?_)
    refine wIX (H.get (i := 5) rfl : SliceAt _ 9 1 _ _) hnl rfl fun a0 ha0 => ldS (ha0.trans hnm) ?_
    have H := H.front (diskO db bm 1048576 (total l2) born l2)
    refine dUnsynced_walk hr2 hg' (by decide) H fun w8 H => mInt_mk ?_
    rw [usedOf_some hgc]
    refine br (fun h => by simp at h; omega) (fun _ => ?_)
    refine ⟨k - 1, by omega, i + 1, by omega, by rw [hwi], ?_⟩
    exact ((((H.front (sliceO 9 1 (.slice a A.length c) (strs (namesA A)))).front (sliceO 9 1 (.slice a' A.length c') (strs (namesA A)))).front (diskO db bm 1048576 (total l2) born l2)).front (diskO tb tm 1048576 (total l1) born l1)).left (L := [_, _, _, _])
  · exact fronts_0 hp hr2 hg hlA (H.front (diskO db bm 1048576 (total l2) born l2)) hfin

set_option maxHeartbeats 4000000 in
theorem DiskFronts_spec {xs : List ActD} {pa : Option Addr} {pn pc : Nat} {picks : List Int} (hb : ActsD w (.slice b n c) xs) (hp : Reads w 1 (.slice pa pn pc) (ints picks)) (hlen : xs.length ≤ 150000) (hsm : ∀ x ∈ xs, x.small) :
    CallS Try.prog fn_glacierlaw2_DiskFronts #[.slice b n c, .slice pa pn pc] w [] fun r _ A => r = .bool true ∧ A = [] := by
  have hn := hb.len
  subst hn
  refine CallS_intro (.nil w) fun H => glacierlaw2_DiskFronts_sound _ _ _ _ _ _ _ _ ?_
  have H : St w [] w [] := H
  have fin : ∀ (w' : World) (L : List Own), St w [] w' L → ∃ A', ((Value.bool true) = .bool true ∧ A' = []) ∧ St w (fps []) w' A' := fun _ _ H => ⟨[], ⟨rfl, rfl⟩, Sh.St.left (L := []) H⟩
  refine wCall H (fun _ => known_spec w) (hK := ?_)
  rintro r w1 A' ⟨rfl, rfl⟩ _ H
  refine mBool_mk (br (fun h => by simp at h) (fun _ => ?_))
  refine wCall (A := []) (B := []) H (fun _ => few_spec (hb.keep H.fr) (by omega) hsm) (hK := ?_)
  rintro r w2 A' ⟨rfl, qf, rfl⟩ _ H
  refine mBool_mk (br (fun _ => fin _ _ H) (fun _ => ?_))
  refine br (fun _ => fin _ _ H) (fun _ => ?_)
  refine wCall (A := []) (B := []) H (fun _ => New_spec 1048576 w2) (hK := ?_)
  rintro r w3 A' ⟨h1, _⟩ _ H
  obtain ⟨db, bm, rfl, rfl⟩ := h1 (by decide)
  refine mTup_mk (mCons_mk (mPtr_mk (mCons_mk (mInt_mk (mNil_mk ?_)))))
  refine br (fun h => by simp at h) (fun _ => br (fun h => by simp at h) (fun _ => ?_))
  refine wCall (A := []) (B := [diskO db bm 1048576 0 0 []]) H (fun _ => rdNew_spec 1048576 w3) (hK := ?_)
  rintro r w4 A' ⟨g1, _⟩ _ H
  obtain ⟨rb, rfl, rfl⟩ := g1 (by decide)
  refine mTup_mk (mCons_mk (mPtr_mk (mCons_mk (mInt_mk (mNil_mk ?_)))))
  refine wLoop (fun k' s w' => ∃ (i bm : Nat) (l : Files) (R : RD), k' + i = xs.length ∧ s = (b, xs.length, c, pa, pn, pc, some ⟨db, 0, none⟩, some ⟨rb, 0, none⟩, (i : Int)) ∧ Rep l (runA 1048576 [] (xs.take i)) ∧ R.A = runA 1048576 [] (xs.take i) ∧
      St w [] w' [diskO db bm 1048576 (total l) (runB 0 (xs.take i)) l, rdO rb 1048576 (runB 0 (xs.take i)) R]) ?_ ?_
  · exact ⟨xs.length, 0, bm, [], ⟨none, 0, 0, []⟩, by omega, rfl, Rep.nil, rfl, H.front (diskO db bm 1048576 0 0 [])⟩
  clear H
  rintro k' s w5 ⟨i, bm, l, R, hk', rfl, hr, hRA, H⟩
  have hOk : Ok 1048576 (runA 1048576 [] (xs.take i)) (runB 0 (xs.take i)) (0 + i) := by
    have := Ok.run (xs := xs.take i) (size := 1048576) (by decide) (Ok.zero (by decide))
    rw [List.length_take, Nat.min_eq_left (by omega)] at this
    exact this
  refine br (fun h => ?_) (fun _ => ?_)
  · have hi : i < xs.length := by simp at h; omega
    obtain ⟨x, hx⟩ : ∃ x, xs[i]? = some x := ⟨_, List.getElem?_eq_getElem hi⟩
    have hwi : IntKind.wrap .i64 ((i : Int) + 1) = ((i + 1 : Nat) : Int) := by rw [wrap_id (by omega) (by omega)]; rfl
    have hxm := List.mem_of_getElem? hx
    refine act_load (hb.keep H.fr) hx rfl ?_
    refine step_walk (x := x) H hr hOk (by rw [hRA]; exact hOk) ⟨by omega, by omega⟩ (by decide) (by decide) (hsm x hxm) (hb.oks x hxm) ?_
    intro q w3 bm'' l'' R'' _ hr'' hR'' H
    rw [hRA] at hR''
    rw [← runA_next hx] at hr'' hR''
    rw [← runB_next hx] at H
    exact mBool_mk ⟨k' - 1, by omega, i + 1, bm'', l'', R'', by omega, by rw [hwi], hr'', hR'', H⟩
  · have := hOk.len
    exact fronts_4 hp hr hOk.good (by omega) (H.left (L := [_])) fin
end
end Go.Proofs.Ytimgbkabfkdabaa
