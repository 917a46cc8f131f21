/- DiskTwins: the end of it, and all of it. -/
import Derived.Test.YtimgbkabfkdabaaHDV
import Derived.Test.YtimgbkabfkdabaaHDT
namespace Go.Proofs.Ytimgbkabfkdabaa
open Go.Sh
attribute [local irreducible] rRun LDI LDB LDS LDP LDSl LDM LD Go.Sh.ST AL ALM LetW CallR CallV CallI NN IX SIX Br Req mInt mBool mStr mPtr mSlice mMap mAgg mTup mCons mNil mNth mPA LoopS
attribute [local irreducible] nextA

theorem runB_app {b : Int} {xs ys : List ActD} : runB b (xs ++ ys) = runB (runB b xs) ys := by unfold runB; rw [List.foldl_append]
section
variable {w0 w : World} {F : List Nat} {L M : List Own} {rb db bm q : Nat} {size born : Int} {R : RD} {l : Files} {A : List AF} {x : ActD}
variable {b lb rt : Option Addr} {n c ln lc rn rc : Nat} {RR : Value → World → Prop} {K0 : KT}
theorem New_walk {K : Value → World → Prop} (H : St w0 [] w L) (hK : ∀ w' db bm, St w0 [] w' (diskO db bm 1048576 0 0 [] :: L) → K (.tuple #[.pointer (some ⟨db, 0, none⟩), .int .i64 0]) w') :
    CallR Try.prog fn_disk_New #[.int .i64 1048576] w K := by
  refine wCall (A := []) (B := L) H (fun hA => New_spec 1048576 w) (hK := ?_)
  rintro r w1 A' ⟨hr0, _⟩ _ H
  obtain ⟨eb, em, rfl, rfl⟩ := hr0 (by decide)
  exact hK _ _ _ H

set_option maxHeartbeats 8000000 in
theorem twins_8 {xs ys zs : List ActD} (hb : ActsD w0 (.slice b n c) xs) (hy : ActsD w0 (.slice lb ln lc) ys) (hz : ActsD w0 (.slice rt rn rc) zs) (hlx : xs.length ≤ 150000) (hly : ys.length ≤ 150000) (hlz : zs.length ≤ 150000)
    (hsx : ∀ x ∈ xs, x.small) (hsy : ∀ x ∈ ys, x.small) (hsz : ∀ x ∈ zs, x.small) (hr : Rep l (runA 1048576 [] xs)) (hRA : R.A = runA 1048576 [] xs)
    (H : St w0 [] w [diskO db bm 1048576 (total l) (runB 0 xs) l, rdO rb 1048576 (runB 0 xs) R]) (hfin : ∀ w' L, St w0 [] w' L → RR (.bool true) w') :
    glacierlaw2_DiskTwins_b8 b n c lb ln lc rt rn rc (some ⟨db, 0, none⟩) (some ⟨rb, 0, none⟩) RR w := by
  have ok0 : Ok 1048576 (runA 1048576 [] xs) (runB 0 xs) (0 + xs.length) := Ok.run (size := 1048576) (by decide) (Ok.zero (by decide))
  have okY : Ok 1048576 (runA 1048576 (runA 1048576 [] xs) ys) (runB (runB 0 xs) ys) (0 + xs.length + ys.length) := Ok.run (by decide) ok0
  have okZ : Ok 1048576 (runA 1048576 (runA 1048576 [] xs) zs) (runB (runB 0 xs) zs) (0 + xs.length + zs.length) := Ok.run (by decide) ok0
  have hl0 := ok0.len
  have hlY := okY.len
  have hlZ := okZ.len
  have hf0 := ok0.good.fits
  have hR9 : R.l.length ≤ 900000 := by rw [← RD.len, hRA]; omega
  refine same_walk hb hlx hsx hr H fun w1 H => mBool_mk (br (fun h => by simp at h) (fun _ => ?_))
  refine dTwin_walk hr ok0.good (by decide) H fun w2 tb tm l' hr' H => mPtr_mk ?_
  have H := H.front (rdO rb 1048576 (runB 0 xs) R)
  refine wCall H (fun hA => rTwin_spec hA hR9 (by rw [hRA]; omega)) (hK := ?_)
  rintro r w3 A' ⟨rb', R', rfl, hR', rfl⟩ _ H
  refine mPtr_mk (br (fun h => by simp at h) (fun _ => ?_))
  have H : St w0 [] w3 [rdO rb 1048576 (runB 0 xs) R, rdO rb' 1048576 (runB 0 xs) R', diskO db bm 1048576 (total l) (runB 0 xs) l, diskO tb tm 1048576 (total l') (runB 0 xs) l'] := H
  have H := H.front (diskO db bm 1048576 (total l) (runB 0 xs) l)
  refine play_walk hy hly hsy hr ok0 (by omega) H fun w4 bm1 l1 hr1 H => mTup_mk (mNil_mk ?_)
  have H := H.front (diskO tb tm 1048576 (total l') (runB 0 xs) l')
  refine play_walk hz hlz hsz hr' ok0 (by omega) H fun w5 tm1 l2 hr2 H => mTup_mk (mNil_mk ?_)
  refine New_walk H fun w6 e1 f1 H => mTup_mk (mCons_mk (mPtr_mk (mCons_mk (mInt_mk (mNil_mk ?_)))))
  refine New_walk H fun w7 e2 f2 H => mTup_mk (mCons_mk (mPtr_mk (mCons_mk (mInt_mk (mNil_mk ?_)))))
  have H := H.front (diskO e1 f1 1048576 0 0 [])
  refine play_walk (l := []) hb hlx hsx Rep.nil (Ok.zero (by decide)) (by decide) H fun w8 f11 m1 hm1 H => mTup_mk (mNil_mk ?_)
  refine play_walk hy hly hsy hm1 ok0 (by omega) H fun w9 f12 m2 hm2 H => mTup_mk (mNil_mk ?_)
  have H := H.front (diskO e2 f2 1048576 0 0 [])
  refine play_walk (l := []) hb hlx hsx Rep.nil (Ok.zero (by decide)) (by decide) H fun w10 f21 m3 hm3 H => mTup_mk (mNil_mk ?_)
  refine play_walk hz hlz hsz hm3 ok0 (by omega) H fun w11 f22 m4 hm4 H => mTup_mk (mNil_mk (wLW H ?_))
  intro w12 H
  have HR := (H.front (rdO rb' 1048576 (runB 0 xs) R')).rdOpen
  have hn1 := rd_n HR
  obtain ⟨M', HRp⟩ : ∃ M', St w0 [] w12 (pt rb' (.cells #[.int .i64 1048576, .slice R'.a R'.n R'.c, .int .i64 (runB 0 xs)] 56) :: M') := ⟨_, HR⟩
  refine nn (wSl HRp (b := rb') (j := 1) (hK := wEq (nn ?_)))
  have HR2 := (H.front (rdO rb 1048576 (runB 0 xs) R)).rdOpen
  have hn2 := rd_n HR2
  obtain ⟨M', HRp2⟩ : ∃ M', St w0 [] w12 (pt rb (.cells #[.int .i64 1048576, .slice R.a R.n R.c, .int .i64 (runB 0 xs)] 56) :: M') := ⟨_, HR2⟩
  refine wSl HRp2 (b := rb) (j := 1) (hK := wEq ?_)
  have hnn : R'.n = R.n := by rw [hn1, hn2, ← RD.len, ← RD.len, hR']
  refine br (fun _ => ?_) (fun h => by rw [hnn] at h; simp at h)
  have H := (H.front (diskO e1 f12 1048576 (total m2) (runB (runB 0 xs) ys) m2)).front (diskO db bm1 1048576 (total l1) (runB (runB 0 xs) ys) l1)
  refine equal_walk hr1 hm2 okY.good (by decide) (by omega) H fun w13 H => mBool_mk (br (fun _ => ?_) (fun h => by simp at h))
  have H := (H.front (diskO e2 f22 1048576 (total m4) (runB (runB 0 xs) zs) m4)).front (diskO tb tm1 1048576 (total l2) (runB (runB 0 xs) zs) l2)
  refine equal_walk hr2 hm4 okZ.good (by decide) (by omega) H fun w14 H => mBool_mk (hfin _ _ H)

set_option maxHeartbeats 4000000 in
theorem DiskTwins_spec {xs ys zs : List ActD} (hb : ActsD w (.slice b n c) xs) (hy : ActsD w (.slice lb ln lc) ys) (hz : ActsD w (.slice rt rn rc) zs) (hlx : xs.length ≤ 150000) (hly : ys.length ≤ 150000) (hlz : zs.length ≤ 150000)
    (hsx : ∀ x ∈ xs, x.small) (hsy : ∀ x ∈ ys, x.small) (hsz : ∀ x ∈ zs, x.small) :
    CallS Try.prog fn_glacierlaw2_DiskTwins #[.slice b n c, .slice lb ln lc, .slice rt rn rc] w [] fun r _ A => r = .bool true ∧ A = [] := by
  have hn := hb.len
  subst hn
  refine CallS_intro (.nil w) fun H => glacierlaw2_DiskTwins_sound _ _ _ _ _ _ _ _ _ _ _ ?_
  have H : St w [] w [] := H
  have fin : ∀ (w' : World) (L : List Own), St w [] w' L → ∃ A', ((Value.bool true) = .bool true ∧ A' = []) ∧ St w (fps []) w' A' := fun _ _ H => ⟨[], ⟨rfl, rfl⟩, Sh.St.left (L := []) H⟩
  refine wCall H (fun _ => known_spec w) (hK := ?_)
  rintro r w1 A' ⟨rfl, rfl⟩ _ H
  refine mBool_mk (br (fun h => by simp at h) (fun _ => ?_))
  refine wCall (A := []) (B := []) H (fun _ => few_spec (hb.keep H.fr) (by omega) hsx) (hK := ?_)
  rintro r w2 A' ⟨rfl, qf, rfl⟩ _ H
  refine mBool_mk (br (fun _ => fin _ _ H) (fun _ => ?_))
  refine wCall (A := []) (B := []) H (fun _ => few_spec (hy.keep H.fr) (by omega) hsy) (hK := ?_)
  rintro r w2 A' ⟨rfl, qf, rfl⟩ _ H
  refine mBool_mk (br (fun _ => fin _ _ H) (fun _ => ?_))
  refine wCall (A := []) (B := []) H (fun _ => few_spec (hz.keep H.fr) (by omega) hsz) (hK := ?_)
  rintro r w2 A' ⟨rfl, qf, rfl⟩ _ H
  refine mBool_mk (br (fun _ => fin _ _ H) (fun _ => ?_))
  refine wCall (A := []) (B := []) H (fun _ => New_spec 1048576 w2) (hK := ?_)
  rintro r w3 A' ⟨h1, _⟩ _ H
  obtain ⟨db, bm, rfl, rfl⟩ := h1 (by decide)
  refine mTup_mk (mCons_mk (mPtr_mk (mCons_mk (mInt_mk (mNil_mk ?_)))))
  refine wCall (A := []) (B := [diskO db bm 1048576 0 0 []]) H (fun _ => rdNew_spec 1048576 w3) (hK := ?_)
  rintro r w4 A' ⟨g1, _⟩ _ H
  obtain ⟨rb, rfl, rfl⟩ := g1 (by decide)
  refine mTup_mk (mCons_mk (mPtr_mk (mCons_mk (mInt_mk (mNil_mk ?_)))))
  refine br (fun h => by simp at h) (fun _ => br (fun h => by simp at h) (fun _ => ?_))
  refine wLoop (fun k' s w' => ∃ (i bm : Nat) (l : Files) (R : RD), k' + i = xs.length ∧ s = (b, xs.length, c, lb, ln, lc, rt, rn, rc, some ⟨db, 0, none⟩, some ⟨rb, 0, none⟩, (i : Int)) ∧ Rep l (runA 1048576 [] (xs.take i)) ∧ R.A = runA 1048576 [] (xs.take i) ∧
      St w [] w' [diskO db bm 1048576 (total l) (runB 0 (xs.take i)) l, rdO rb 1048576 (runB 0 (xs.take i)) R]) ?_ ?_
  · exact ⟨xs.length, 0, bm, [], ⟨none, 0, 0, []⟩, by omega, rfl, Rep.nil, rfl, H.front (diskO db bm 1048576 0 0 [])⟩
  clear H
  rintro k' s w5 ⟨i, bm, l, R, hk', rfl, hr, hRA, H⟩
  have hOk : Ok 1048576 (runA 1048576 [] (xs.take i)) (runB 0 (xs.take i)) (0 + i) := by
    have := Ok.run (xs := xs.take i) (size := 1048576) (by decide) (Ok.zero (by decide))
    rw [List.length_take, Nat.min_eq_left (by omega)] at this
    exact this
  refine br (fun h => ?_) (fun h => ?_)
  · have hi : i < xs.length := by simp at h; omega
    obtain ⟨x, hx⟩ : ∃ x, xs[i]? = some x := ⟨_, List.getElem?_eq_getElem hi⟩
    have hwi : IntKind.wrap .i64 ((i : Int) + 1) = ((i + 1 : Nat) : Int) := by rw [wrap_id (by omega) (by omega)]; rfl
    refine twins_7 hb hx (hsx x (List.mem_of_getElem? hx)) hr hRA hOk (by omega) (by decide) H ?_
    intro w' bm' l' R' hr' hR' H
    rw [← runA_next hx] at hr' hR'
    rw [← runB_next hx] at H
    exact ⟨k' - 1, by omega, i + 1, bm', l', R', by omega, by rw [hwi], hr', hR', H⟩
  · have hi : i = xs.length := by simp at h; omega
    subst hi
    rw [List.take_length] at hr hRA H
    exact twins_8 (xs := xs) hb hy hz hlx hly hlz hsx hsy hsz hr hRA H fin
end
end Go.Proofs.Ytimgbkabfkdabaa
