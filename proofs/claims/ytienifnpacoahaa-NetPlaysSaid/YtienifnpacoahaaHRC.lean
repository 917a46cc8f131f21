/- links, same, step. -/
import Derived.Test.YtienifnpacoahaaHRB
import Derived.Test.YtienifnpacoahaaHL
namespace Go.Proofs.Ytienifnpacoahaa
open Go.Sh
attribute [local irreducible] rRun LDI LDB LDS LDP LDSl LDM LD Go.Sh.ST AL ALM LetW CallR CallV CallI NN IX SIX Br Req mInt mBool mStr mPtr mSlice mMap mAgg mTup mCons mNil mNth mPA LoopS

section
variable {w0 w : World} {F : List Nat} {L M : List Own} {rb nb bm : Nat} {nd bd tm : Int} {R : RefR} {l : Bags}
theorem links_spec (hA : Has w [netO nb bm nd bd tm l, refO rb nd bd tm R]) (hs : Same nd bd l R.l) (hnd : 1 ≤ nd ∧ nd ≤ 16) (hll : l.length ≤ 1000000) (hrl : R.l.length ≤ 900000) :
    CallS Try.prog fn_glacierlaw3_links #[.pointer (some ⟨nb, 0, none⟩), .pointer (some ⟨rb, 0, none⟩)] w [netO nb bm nd bd tm l, refO rb nd bd tm R] fun r _ A =>
      r = .bool true ∧ A = [netO nb bm nd bd tm l, refO rb nd bd tm R] := by
  refine CallS_intro hA fun H => glacierlaw3_links_sound _ _ _ _ ?_
  have hkn : (l.map (·.1)).Nodup := by
    have Hn := H.netOpen
    exact bags_nodup (Hn.has.all (bagsM bm l) (by simp))
  have htot : total l = R.l.length := total_bags hkn hs.bags
  refine wCall H (fun hA => Links_spec hA hll) (hK := ?_)
  rintro r w1 A' ⟨la, ln, lc, d, rfl, hd, rfl⟩ _ H
  have told := hs.told hkn hd
  have hln : ln = d.length := by
    obtain ⟨_, _, _, he, h1, _⟩ := (H.get (i := 0) rfl : SliceAt _ 69 3 _ _)
    cases he
    rw [flat_length encL_len] at h1
    omega
  subst hln
  have hdl : d.length ≤ 1000000 := by have := hd.1.length_eq; simp at this; omega
  refine mSlice_mk ?_
  have H : St w (fps [netO nb bm nd bd tm l, refO rb nd bd tm R]) w1 [sliceO 69 3 (.slice la d.length lc) (d.flatMap encL), netO nb bm nd bd tm l, refO rb nd bd tm R] := H
  have Ho := (H.front (refO rb nd bd tm R)).refOpen
  have hel : ∀ {i : Nat} {x : LinkR} {v : Int} {K : Addr → Prop}, d[i]? = some x → v = (i : Int) → (∀ ad : Addr, w1.cell? ad = some (.int .i64 x.1) → w1.cell? (ad.add 1) = some (.int .i64 x.2.1) → w1.cell? (ad.add 2) = some (.int .i64 x.2.2) → K ad) → IX la d.length v 3 K := by
    intro i x v K hi hv hK
    refine wIXs (H.get (i := 0) rfl : SliceAt w1 69 3 (.slice la d.length lc) (d.flatMap encL)) (i := i) (List.getElem?_eq_some_iff.1 hi).1 hv fun b _ hc => ?_
    have h : ∀ j, j < 3 → w1.cell? ((⟨b, i * 3, none⟩ : Addr).add j) = (encL x)[j]? := fun j hj => by
      rw [Addr.add_mk, hc j hj, flat_get encL_len _ _ _ hj, hi]; rfl
    have h0 : (⟨b, i * 3, none⟩ : Addr).add 0 = ⟨b, i * 3, none⟩ := by simp [Addr.add]
    exact hK _ (by rw [← h0]; exact h 0 (by decide)) (h 1 (by decide)) (h 2 (by decide))
  refine wLoop (fun q s w' => w' = w1 ∧ ∃ (f k : Nat), q + f = nd.toNat ∧ s = (some ⟨nb, 0, none⟩, some ⟨rb, 0, none⟩, la, d.length, lc, (k : Int), (f : Int)) ∧ At d f 0 k) ⟨nd.toNat, rfl, 0, 0, by omega, rfl, At.start told⟩ ?_
  rintro q s w' ⟨rfl, f, k, hq, rfl, hat⟩
  refine nn ?_
  refine wI Ho (j := 0) (hK := ?_)
  refine br (fun h => ?_) (fun h => ?_)
  · have hf : (f : Int) < nd := by simpa using h
    have hwf : IntKind.wrap .i64 ((f : Int) + 1) = ((f + 1 : Nat) : Int) := by rw [wrap_id (by omega) (by omega)]; rfl
    refine wLoop (fun q' s w'' => w'' = w' ∧ ∃ (t k : Nat), q' + t = nd.toNat ∧ s = (some ⟨nb, 0, none⟩, some ⟨rb, 0, none⟩, la, d.length, lc, (k : Int), (f : Int), (t : Int)) ∧ At d f t k) ⟨nd.toNat, rfl, 0, k, by omega, rfl, hat⟩ ?_
    rintro q' s w'' ⟨rfl, t, k, hq', rfl, hat⟩
    have hkl := hat.le
    refine nn ?_
    refine wI Ho (j := 0) (hK := ?_)
    refine br (fun h => ?_) (fun h => ?_)
    · have ht : (t : Int) < nd := by simpa using h
      have hwt : IntKind.wrap .i64 ((t : Int) + 1) = ((t + 1 : Nat) : Int) := by rw [wrap_id (by omega) (by omega)]; rfl
      have hwk : IntKind.wrap .i64 ((k : Int) + 1) = ((k + 1 : Nat) : Int) := by rw [wrap_id (by omega) (by omega)]; rfl
      refine Count_walk Ho (by omega) (mInt_mk ?_)
      refine br (fun h => ?_) (fun h => ?_)
      · have hc : cnt R.l f t = 0 := by simpa using h
        exact ⟨q' - 1, by omega, rfl, t + 1, k, by omega, by rw [hwt], hat.skip told hc⟩
      · have hc : cnt R.l f t ≠ 0 := by simpa using h
        obtain ⟨hk, hdk, hat'⟩ := hat.next told hc
        refine br (fun h => absurd h (by simp; omega)) (fun _ => ?_)
        refine hel hdk rfl fun ad c0 c1 c2 => ?_
        refine ldI c0 (ldI c1 (ldI c2 ?_))
        refine rRun_intro (neq_link _ _ _ _ _ _ _) (mBool_mk ?_)
        refine br (fun h => by simp at h) (fun _ => ?_)
        exact ⟨q' - 1, by omega, rfl, t + 1, k + 1, by omega, by rw [hwt, hwk], hat'⟩
    · have ht : ¬ (t : Int) < nd := by simpa using h
      have e : (t : Int) = nd := by omega
      rw [e] at hat
      exact ⟨q - 1, by omega, rfl, f + 1, k, by omega, by rw [hwf], hat.row told⟩
  · have hf : ¬ (f : Int) < nd := by simpa using h
    have e : (f : Int) = nd := by omega
    rw [e] at hat
    have hk := hat.done told
    subst hk
    have hn := ref_n Ho
    refine wLW H ?_
    clear Ho hel H
    intro w2 H
    refine wEq ?_
    refine br (fun _ => ?_) (fun h => by simp at h)
    have Ho := (H.front (refO rb nd bd tm R)).refOpen
    refine nn ?_
    refine wSl Ho (j := 3) (hK := wEq ?_)
    refine wCall H (fun hA => All_spec (l := l) hA (by omega)) (hK := ?_)
    rintro r w3 A' ⟨rfl, rfl⟩ _ H
    refine mInt_mk ⟨⟨rfl, rfl⟩, ?_⟩
    have H : St w (fps [netO nb bm nd bd tm l, refO rb nd bd tm R]) w3 [netO nb bm nd bd tm l, sliceO 69 3 (.slice la d.length lc) (d.flatMap encL), refO rb nd bd tm R] := H
    have Ho := (H.front (refO rb nd bd tm R)).refOpen
    refine wC Ho (b := rb) (j := 3) (hK := ?_)
    refine br (fun _ => ?_) (fun h => by rw [htot, hn] at h; simp at h)
    refine nn ?_
    refine wI Ho (j := 2) (hK := ?_)
    refine wCall H (fun hA => Now_spec hA) (hK := ?_)
    rintro r w4 A' ⟨rfl, rfl⟩ _ H
    have H : St w (fps [netO nb bm nd bd tm l, refO rb nd bd tm R]) w4 [netO nb bm nd bd tm l, sliceO 69 3 (.slice la d.length lc) (d.flatMap encL), refO rb nd bd tm R] := H
    have Ho := (H.front (refO rb nd bd tm R)).refOpen
    refine mInt_mk ?_
    refine wC Ho (b := rb) (j := 2) (hK := ?_)
    exact ⟨_, ⟨by simp, rfl⟩, (H.front (sliceO 69 3 (.slice la d.length lc) (d.flatMap encL))).tail⟩

theorem same_walk {f t : Int} {ba ca : Option Addr} {bn bc cn cc : Nat} {bs : List UInt8} {K : Value → World → Prop} (H : St w0 F w L) (h1 : Reads w 1 (.slice ba bn bc) (bvals bs)) (h2 : Reads w 1 (.slice ca cn cc) (bvals bs))
    (hK : ∀ w', St w0 F w' L → K (.bool true) w') :
    CallR Try.prog fn_glacierlaw3_same #[.agg #[.int .i64 f, .int .i64 t, .slice ba bn bc], .agg #[.int .i64 f, .int .i64 t, .slice ca cn cc]] w K := by
  refine glacierlaw3_same_sound _ _ _ _ _ _ _ _ _ _ _ _ ?_
  refine al H fun a w1 _ hf1 H => ?_
  refine al H fun b w2 _ hf2 H => ?_
  have h1 : Reads w2 1 (.slice ba bn bc) (bvals bs) := (h1.of fun x hx => hf1.block x (h1.lt (by decide) x hx) (by simp)).of fun x hx => hf2.block x (Nat.lt_of_lt_of_le (h1.lt (by decide) x hx) hf1.size) (by simp)
  have h2 : Reads w2 1 (.slice ca cn cc) (bvals bs) := (h2.of fun x hx => hf1.block x (h2.lt (by decide) x hx) (by simp)).of fun x hx => hf2.block x (Nat.lt_of_lt_of_le (h2.lt (by decide) x hx) hf1.size) (by simp)
  have H : St w0 F w2 (pt b (.cells #[.int .i64 f, .int .i64 t, .slice ca cn cc] 31) :: pt a (.cells #[.int .i64 f, .int .i64 t, .slice ba bn bc] 31) :: L) := H
  refine wI H (b := a) (j := 0) (hK := wI H (b := b) (j := 0) (hK := ?_))
  refine br (fun _ => ?_) (fun h => by simp at h)
  refine wI H (b := a) (j := 1) (hK := wI H (b := b) (j := 1) (hK := ?_))
  refine br (fun _ => ?_) (fun h => by simp at h)
  refine wSl H (b := a) (j := 2) (hK := ?_)
  refine wConvS h1 elem_bytes.under (by kernel_rfl) (by kernel_rfl) (mStr_mk ?_)
  refine wSl H (b := b) (j := 2) (hK := ?_)
  refine wConvS h2 elem_bytes.under (by kernel_rfl) (by kernel_rfl) (mStr_mk ?_)
  have := hK _ H.tail.tail
  simpa using this
end
end Go.Proofs.Ytienifnpacoahaa
