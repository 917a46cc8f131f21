/- DiskTwins: what it walks. -/
import Derived.Test.YtimgbkabfkdabaaHDM
namespace Go.Proofs.Ytimgbkabfkdabaa
open Go.Sh
attribute [local irreducible] rRun LDI LDB LDS LDP LDSl LDM LD Go.Sh.ST AL ALM LetW CallR CallV CallI NN IX SIX Br Req mInt mBool mStr mPtr mSlice mMap mAgg mTup mCons mNil mNth mPA LoopS
attribute [local irreducible] nextA glacierlaw2_DiskTwins_b3 glacierlaw2_DiskTwins_b0

abbrev actT (q : Nat) (x : ActD) : Own := pt q (.cells #[.int .i64 x.op, .string x.name, .string x.to, .slice x.na x.nn' x.nc, .slice x.ba x.bn x.bc, .slice x.pa x.pn x.pc] 46)
abbrev KT := ((Option Addr) × Nat × Nat × (Option Addr) × Nat × Nat × (Option Addr) × Nat × Nat × (Option Addr) × (Option Addr) × Int) → World → Prop
section
variable {w0 w : World} {F : List Nat} {L M : List Own} {rb db bm q : Nat} {size born : Int} {R : RD} {l : Files} {A : List AF} {x : ActD}
variable {b lb rt : Option Addr} {n c ln lc rn rc : Nat} {RR : Value → World → Prop} {K0 : KT}
/-- Bytes overwritten. -/
theorem twins_2 {d r : Option Addr} {i : Int} {a : Option Addr} {cc : Nat} {cs : List Value} (hn : cs.length ≤ 1000000000000) (H : St w0 F w (sliceO 5 1 (.slice a cs.length cc) cs :: L))
    (hK : ∀ w', St w0 F w' L → glacierlaw2_DiskTwins_b0 b n c lb ln lc rt rn rc d r i K0 w') :
    glacierlaw2_DiskTwins_b2 b n c lb ln lc rt rn rc d r i a cs.length cc 0 K0 w := by
  refine wLoop (fun k s w' => ∃ (j : Nat) (cs' : List Value), k + j = cs.length ∧ s = (b, n, c, lb, ln, lc, rt, rn, rc, d, r, i, a, cs.length, cc, (j : Int)) ∧ cs'.length = cs.length ∧
    St w0 F w' (sliceO 5 1 (.slice a cs.length cc) cs' :: L)) ⟨cs.length, 0, cs, by omega, rfl, rfl, H⟩ ?_
  clear H
  rintro k s w1 ⟨j, cs', hk, rfl, hl, H⟩
  refine br (fun h => ?_) (fun _ => hK _ H.tail)
  have hj : j < cs'.length := by simp at h; omega
  have hwj : IntKind.wrap .i64 ((j : Int) + 1) = ((j + 1 : Nat) : Int) := by rw [wrap_id (by omega) (by omega)]; rfl
  refine wIXe (H.get (i := 0) rfl : SliceAt _ 5 1 _ _) hj rfl fun b' hb' _ => ?_
  subst hb'
  refine wSTe H (hi := hj) (hK := fun w2 H => ?_)
  exact ⟨k - 1, by omega, j + 1, _, by omega, by rw [hwj], by rw [List.length_set]; exact hl, H⟩
theorem twins_5 {d r : Option Addr} {i : Int} {a : Option Addr} {cc : Nat} {cs : List Value} (hn : cs.length ≤ 1000000000000) (H : St w0 F w (sliceO 5 1 (.slice a cs.length cc) cs :: L))
    (hK : ∀ w', St w0 F w' L → glacierlaw2_DiskTwins_b3 b n c lb ln lc rt rn rc d r i K0 w') :
    glacierlaw2_DiskTwins_b5 b n c lb ln lc rt rn rc d r i a cs.length cc 0 K0 w := by
  refine wLoop (fun k s w' => ∃ (j : Nat) (cs' : List Value), k + j = cs.length ∧ s = (b, n, c, lb, ln, lc, rt, rn, rc, d, r, i, a, cs.length, cc, (j : Int)) ∧ cs'.length = cs.length ∧
    St w0 F w' (sliceO 5 1 (.slice a cs.length cc) cs' :: L)) ⟨cs.length, 0, cs, by omega, rfl, rfl, H⟩ ?_
  clear H
  rintro k s w1 ⟨j, cs', hk, rfl, hl, H⟩
  refine br (fun h => ?_) (fun _ => hK _ H.tail)
  have hj : j < cs'.length := by simp at h; omega
  have hwj : IntKind.wrap .i64 ((j : Int) + 1) = ((j + 1 : Nat) : Int) := by rw [wrap_id (by omega) (by omega)]; rfl
  refine wIXe (H.get (i := 0) rfl : SliceAt _ 5 1 _ _) hj rfl fun b' hb' _ => ?_
  subst hb'
  refine wSTe H (hi := hj) (hK := fun w2 H => ?_)
  exact ⟨k - 1, by omega, j + 1, _, by omega, by rw [hwj], by rw [List.length_set]; exact hl, H⟩
end

section
variable {w0 w : World} {F : List Nat} {L M : List Own} {rb db bm q : Nat} {size born : Int} {R : RD} {l : Files} {A : List AF} {x : ActD}
variable {b lb rt : Option Addr} {n c ln lc rn rc : Nat} {RR : Value → World → Prop} {K0 : KT}
attribute [local semireducible] glacierlaw2_DiskTwins_b3 glacierlaw2_DiskTwins_b0
attribute [local irreducible] glacierlaw2_DiskTwins_b2 glacierlaw2_DiskTwins_b5

set_option maxHeartbeats 4000000 in
theorem twins_3 {xs : List ActD} {i : Nat} (hb : ActsD w0 (.slice b n c) xs) (hx : xs[i]? = some x) (hr : Rep l A) (hg : Good size A) (hsz : 0 ≤ size ∧ size ≤ 1073741824)
    (H : St w0 [] w [diskO db bm size (total l) born l, rdO rb size born R])
    (hK : ∀ w', St w0 [] w' [diskO db bm size (total l) born l, rdO rb size born R] → K0 (b, n, c, lb, ln, lc, rt, rn, rc, some ⟨db, 0, none⟩, some ⟨rb, 0, none⟩, IntKind.wrap .i64 ((i : Int) + 1)) w') :
    glacierlaw2_DiskTwins_b3 b n c lb ln lc rt rn rc (some ⟨db, 0, none⟩) (some ⟨rb, 0, none⟩) (i : Int) K0 w := by
  have hu := used_le hg.srt x.name
  have hfit := hg.fits
  refine wIXel (hb.keep H.fr) hx rfl fun a1 ha1 => ldS (ha1 1 _ rfl) ?_
  cases hq : aget A x.name with
  | none =>
    refine dRead_none hr hq H fun w1 H => ?_
    refine mTup_mk (mCons_mk (mSlice_mk (mCons_mk (mInt_mk (mNil_mk ?_)))))
    exact twins_2 (cs := []) (by simp) (H.nothing 5 1 none) fun w' H => hK w' H
  | some y =>
    rw [usedOf_some hq] at hu
    refine dRead_walk hr hq (by omega) H fun w1 va vc H => ?_
    refine mTup_mk (mCons_mk (mSlice_mk (mCons_mk (mInt_mk (mNil_mk ?_)))))
    have e : y.1.length = (bvals y.1).length := by simp
    rw [e] at H ⊢
    exact twins_2 (by simp; omega) H fun w' H => hK w' H

attribute [local irreducible] glacierlaw2_DiskTwins_b3
set_option maxHeartbeats 8000000 in
theorem twins_7 {xs : List ActD} {i k : Nat} (hb : ActsD w0 (.slice b n c) xs) (hx : xs[i]? = some x) (hsm : x.small) (hr : Rep l A) (hRA : R.A = A) (hg : Ok size A born k) (hk : k ≤ 700000) (hsz : 0 ≤ size ∧ size ≤ 1073741824)
    (H : St w0 [] w [diskO db bm size (total l) born l, rdO rb size born R])
    (hK : ∀ w' bm' l' R', Rep l' (nextA size A x) → R'.A = nextA size A x → St w0 [] w' [diskO db bm' size (total l') (nextB born x) l', rdO rb size (nextB born x) R'] → K0 (b, n, c, lb, ln, lc, rt, rn, rc, some ⟨db, 0, none⟩, some ⟨rb, 0, none⟩, IntKind.wrap .i64 ((i : Int) + 1)) w') :
    glacierlaw2_DiskTwins_b7 b n c lb ln lc rt rn rc (some ⟨db, 0, none⟩) (some ⟨rb, 0, none⟩) (i : Int) K0 RR w := by
  have hxm := List.mem_of_getElem? hx
  have hok := hb.oks x hxm
  have hbl : x.bn = x.bs.length := by have := hok.2.1.len; simpa using this
  have hsb := hsm.2.1
  refine wAL H fun e w1 H => ?_
  refine wIXel (hb.keep H.fr) hx rfl fun a1 ha1 => ldSl (ha1 4 _ rfl) ?_
  obtain ⟨m, hm, hs⟩ := (hok.2.1.keep (by decide) H.fr).src (P := Try.prog) (tx := 30) elem_bytes.under (bvals_one x.bs)
  have H := (H.tail).nothing 5 1 (some ⟨e, 0, none⟩)
  refine append_own (t := 30) (n := m) elem_bytes (i := 0) H rfl hs (by simp; omega) (by decide) fun v' w2 H hf hp => ?_
  obtain ⟨ma, mn, mc, rfl, _⟩ := (H.get (i := 0) rfl : SliceAt _ _ _ _ _)
  have hmn : mn = x.bs.length := by
    have := (H.get (i := 0) rfl : SliceAt _ 5 1 (.slice ma mn mc) _).len
    simpa using this
  subst hmn
  have H : St w0 [] w2 [sliceO 5 1 (.slice ma x.bs.length mc) (bvals x.bs), diskO db bm size (total l) born l, rdO rb size born R] := H
  refine mSlice_mk ?_
  refine act_load (hb.keep H.fr) hx rfl ?_
  refine wAL H fun q w3 H => ?_
  repeat (first | refine nn ?_ | refine wI H (hK := ?_) | refine wP H (hK := ?_) | refine wM H (hK := ?_) | refine wSl H (hK := ?_) | refine wB H (hK := ?_) | refine wS H (hK := ?_) | refine wEq ?_ | refine wC H (hK := ?_) | (refine wLW H ?_; intro w1 H) | (refine wST H (hK := ?_); intro w1 H _) | refine mSlice_mk ?_ | refine mInt_mk ?_ | refine mBool_mk ?_ | refine mTup_mk ?_ | refine mCons_mk ?_ | refine mNil_mk ?_ | refine mAgg_mk ?_ | refine mPtr_mk ?_ | refine mStr_mk ?_)
  let y : ActD := { x with ba := ma, bn := x.bs.length, bc := mc }
  have H : St w0 [] w1 [actT q y, sliceO 5 1 (.slice ma x.bs.length mc) (bvals x.bs), diskO db bm size (total l) born l, rdO rb size born R] := H
  have H := (H.front (rdO rb size born R)).front (diskO db bm size (total l) born l)
  have hext : Ext w1 [diskO db bm size (total l) born l, rdO rb size born R] 1 (.slice ma x.bs.length mc) (bvals x.bs) := St.ext (A := [_, _]) H (List.mem_cons_of_mem _ (List.mem_singleton.2 rfl))
  refine step_ext (x := y) H hr hg (by rw [hRA]; exact hg) ⟨by omega, by omega⟩ hsz hsz hsm (St.extC (A := [_, _]) (B := [_, _]) H (by decide) hok.1) hext (St.extC (A := [_, _]) (B := [_, _]) H (by decide) hok.2.2) ?_
  have eN : ∀ B : List AF, nextA size B y = nextA size B x := fun B => by unfold nextA; rfl
  intro qq w2 bm1 l1 R1 _ hr1 hR1 H
  rw [eN] at hr1 hR1
  rw [hRA] at hR1
  have H : St w0 [] w2 [diskO db bm1 size (total l1) (nextB born x) l1, rdO rb size (nextB born x) R1, actT q y, sliceO 5 1 (.slice ma x.bs.length mc) (bvals x.bs)] := H
  refine mBool_mk (wLW H ?_)
  intro w4 H
  refine wConvS (H.get (i := 3) rfl : SliceAt w4 5 1 (.slice ma x.bs.length mc) (bvals x.bs)).reads elem_bytes.under (by kernel_rfl) (by kernel_rfl) (mStr_mk (wEq ?_))
  refine wIXel (hb.keep H.fr) hx rfl fun a1 ha1 => ldSl (ha1 4 _ rfl) ?_
  refine wConvS (St.readC (w := w0) H (by decide) hok.2.1) elem_bytes.under (by kernel_rfl) (by kernel_rfl) (mStr_mk (wEq ?_))
  refine br (fun h => by simp at h) (fun _ => ?_)
  have H := (H.front (sliceO 5 1 (.slice ma x.bs.length mc) (bvals x.bs))).left (L := [_, _, _])
  have e : x.bs.length = (bvals x.bs).length := by simp
  rw [e] at H ⊢
  refine twins_5 (by simp; omega) H fun w5 H => ?_
  exact twins_3 hb hx hr1 (hg.next hsz.1 x).good hsz H fun w6 H => hK w6 _ _ _ hr1 hR1 H
end
end Go.Proofs.Ytimgbkabfkdabaa
