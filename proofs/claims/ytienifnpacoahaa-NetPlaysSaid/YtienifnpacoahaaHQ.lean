/- The reference's net in memory: New, Count, lay, meant. -/
import Derived.Test.YtienifnpacoahaaHP
import Derived.Test.YtienifnpacoahaaShRef
namespace Go.Proofs.Ytienifnpacoahaa
open Go.Sh
attribute [local irreducible] rRun LDI LDB LDS LDP LDSl LDM LD Go.Sh.ST AL ALM LetW CallR CallV CallI NN IX SIX Br Req mInt mBool mStr mPtr mSlice mMap mAgg mTup mCons mNil mNth mPA LoopS

structure RMsg where
  (f t : Int) (v : Value) (bs : List UInt8)
def RMsg.cells (m : RMsg) : List Value := [.int .i64 m.f, .int .i64 m.t, m.v]
def RMsg.own (m : RMsg) : Own := sliceO 5 1 m.v (bvals m.bs)
structure RefR where
  (a : Option Addr) (n c : Nat) (l : List RMsg)
def RefR.v (R : RefR) : Value := .slice R.a R.n R.c
def refP (rb : Nat) (nd bd tm : Int) (R : RefR) : Own := pt rb (.cells #[.int .i64 nd, .int .i64 bd, .int .i64 tm, .slice R.a R.n R.c] 61)
def refS (R : RefR) : Own := sliceO 31 3 (.slice R.a R.n R.c) (R.l.flatMap RMsg.cells)
def refM (l : List RMsg) : Own := starO (l.map RMsg.own)
def refO (rb : Nat) (nd bd tm : Int) (R : RefR) : Own := starO [refP rb nd bd tm R, refS R, refM R.l]
theorem cells_len (m : RMsg) : m.cells.length = 3 := rfl
theorem elem_msg : ElemTy Try.prog 59 31 3 40 := elemTy_of (by kernel_rfl) (by kernel_rfl)
def isK (f t : Int) (m : RMsg) : Bool := m.f == f && m.t == t
def cnt (l : List RMsg) (f t : Int) : Nat := (l.filter (isK f t)).length

section
variable {w0 w : World} {F : List Nat} {L M : List Own} {rb : Nat} {nd bd tm : Int} {R : RefR}
theorem _root_.Go.Sh.St.refOpen (H : St w0 F w (refO rb nd bd tm R :: L)) : St w0 F w (refP rb nd bd tm R :: refS R :: refM R.l :: L) := H.open
theorem _root_.Go.Sh.St.refClose (H : St w0 F w (refP rb nd bd tm R :: refS R :: refM R.l :: L)) : St w0 F w (refO rb nd bd tm R :: L) := Sh.St.close (M := [_, _, _]) H
theorem ref_n (H : St w0 F w (refP rb nd bd tm R :: refS R :: refM R.l :: L)) : R.n = R.l.length := by
  obtain ⟨_, _, _, he, h1, _⟩ := (H.get (i := 1) rfl : SliceAt w 31 3 _ _)
  cases he
  rw [flat_length cells_len] at h1
  omega
/-- A message of the reference's: what is read of it. -/
theorem wIXm {i : Nat} {v : Int} {m : RMsg} {K : Addr → Prop} (H : St w0 F w (refP rb nd bd tm R :: refS R :: refM R.l :: L)) (hi : R.l[i]? = some m) (hv : v = (i : Int))
    (hK : ∀ ad : Addr, w.cell? ad = some (.int .i64 m.f) → w.cell? (ad.add 1) = some (.int .i64 m.t) → w.cell? (ad.add 2) = some m.v → K ad) : IX R.a R.n v 3 K := by
  have hn := ref_n H
  have hlt := (List.getElem?_eq_some_iff.1 hi).1
  refine wIXs (H.get (i := 1) rfl : SliceAt w 31 3 _ _) (i := i) (by omega) hv fun b _ hc => ?_
  have h : ∀ j, j < 3 → w.cell? ((⟨b, i * 3, none⟩ : Addr).add j) = m.cells[j]? := fun j hj => by
    rw [Addr.add_mk, hc j hj, flat_get cells_len _ _ _ hj, hi]; rfl
  have h0 : (⟨b, i * 3, none⟩ : Addr).add 0 = ⟨b, i * 3, none⟩ := by simp [Addr.add]
  exact hK _ (by rw [← h0]; exact h 0 (by decide)) (h 1 (by decide)) (h 2 (by decide))
theorem msg_slice (H : St w0 F w (refP rb nd bd tm R :: refS R :: refM R.l :: L)) {m : RMsg} (hm : m ∈ R.l) : SliceAt w 5 1 m.v (bvals m.bs) :=
  (H.get (i := 2) rfl : (refM R.l).holds w) (m.own) (List.mem_map.2 ⟨m, hm, rfl⟩)

theorem rNew_spec (nd bd : Int) (w : World) : CallS Try.prog fn_glacierref3_New #[.int .i64 nd, .int .i64 bd] w [] fun v _ A =>
    ((1 ≤ nd ∧ nd ≤ 16 ∧ 1 ≤ bd ∧ bd ≤ 65536) → ∃ rb, v = .tuple #[.pointer (some ⟨rb, 0, none⟩), .int .i64 0] ∧ A = [refO rb nd bd 0 ⟨none, 0, 0, []⟩]) ∧
    (¬ (1 ≤ nd ∧ nd ≤ 16 ∧ 1 ≤ bd ∧ bd ≤ 65536) → v = .tuple #[.pointer none, .int .i64 1] ∧ A = []) := by
  refine CallS_intro (.nil w) fun H => glacierref3_New_sound _ _ _ _ ?_
  refine br (fun h => ⟨[], ⟨fun h2 => by simp at h; omega, fun _ => ⟨rfl, rfl⟩⟩, H⟩) (fun h1 => ?_)
  refine br (fun h => ⟨[], ⟨fun h2 => by simp at h; omega, fun _ => ⟨rfl, rfl⟩⟩, H⟩) (fun h2 => ?_)
  refine br (fun h => ⟨[], ⟨fun h2 => by simp at h; omega, fun _ => ⟨rfl, rfl⟩⟩, H⟩) (fun h3 => ?_)
  refine br (fun h => ⟨[], ⟨fun h2 => by simp at h; omega, fun _ => ⟨rfl, rfl⟩⟩, H⟩) (fun h4 => ?_)
  simp at h1 h2 h3 h4
  refine wAL H fun rb w1 H => ?_
  have H : St w (fps []) w1 [pt rb (.cells #[.int .i64 nd, .int .i64 bd, .int .i64 0, .slice none 0 0] 61)] := H
  have H2 : St w (fps []) w1 (refM [] :: pt rb (.cells #[.int .i64 nd, .int .i64 bd, .int .i64 0, .slice none 0 0] 61) :: []) := Sh.St.close (M := []) H
  have H3 := (H2.nothing 31 3 none).front (pt rb (.cells #[.int .i64 nd, .int .i64 bd, .int .i64 0, .slice none 0 0] 61))
  exact ⟨_, ⟨fun _ => ⟨rb, rfl, rfl⟩, fun h => absurd ⟨h1, h2, h3, h4⟩ h⟩, St.refClose (R := ⟨none, 0, 0, []⟩) H3⟩

theorem cnt_take {l : List RMsg} {i : Nat} {m : RMsg} {f t : Int} (h : l[i]? = some m) : cnt (l.take (i + 1)) f t = cnt (l.take i) f t + (if isK f t m then 1 else 0) := by
  obtain ⟨hi, he⟩ := List.getElem?_eq_some_iff.1 h
  unfold cnt
  rw [← List.take_append_getElem hi, List.filter_append, List.length_append, he]
  cases hq : isK f t m <;> simp [hq]
theorem cnt_le (l : List RMsg) (f t : Int) : cnt l f t ≤ l.length := List.length_filter_le _ _
theorem cnt_take_le (l : List RMsg) (f t : Int) (i : Nat) : cnt (l.take i) f t ≤ cnt l f t := by
  unfold cnt
  exact ((List.take_sublist i l).filter _).length_le

/-- Count: nothing turns. -/
theorem Count_walk {f t : Int} {K : Value → World → Prop} (H : St w0 F w (refP rb nd bd tm R :: refS R :: refM R.l :: L)) (hl : R.l.length ≤ 1000000) (hK : K (.int .i64 (cnt R.l f t)) w) :
    CallR Try.prog fn_glacierref3_Net_Count #[.pointer (some ⟨rb, 0, none⟩), .int .i64 f, .int .i64 t] w K := by
  have hn := ref_n H
  refine glacierref3_Net_Count_sound _ _ _ _ _ ?_
  refine wLoop (fun k s w' => w' = w ∧ ∃ i : Nat, k + i = R.l.length ∧ s = (some ⟨rb, 0, none⟩, f, t, (cnt (R.l.take i) f t : Int), (i : Int))) ⟨R.l.length, rfl, 0, by omega, rfl⟩ ?_
  rintro k s w' ⟨rfl, i, hk, rfl⟩
  refine nn ?_
  refine wSl H (j := 3) (hK := ?_)
  refine br (fun h => ?_) (fun h => ?_)
  · have hi : i < R.l.length := by simp [hn] at h; omega
    obtain ⟨m, hm⟩ : ∃ m, R.l[i]? = some m := ⟨_, List.getElem?_eq_getElem hi⟩
    have hw1 : IntKind.wrap .i64 ((i : Int) + 1) = ((i + 1 : Nat) : Int) := by rw [wrap_id (by omega) (by omega)]; rfl
    have hc := cnt_take (f := f) (t := t) hm
    have hcl := cnt_le (R.l.take i) f t
    have hcl2 : (R.l.take i).length ≤ R.l.length := (List.take_sublist i R.l).length_le
    have hw2 : IntKind.wrap .i64 ((cnt (R.l.take i) f t : Int) + 1) = ((cnt (R.l.take i) f t + 1 : Nat) : Int) := by rw [wrap_id (by omega) (by omega)]; rfl
    refine nn ?_
    refine wSl H (j := 3) (hK := ?_)
    refine wIXm H hm rfl fun ad c0 c1 c2 => ?_
    refine ldI c0 ?_
    refine br (fun h1 => ?_) (fun h1 => ?_)
    · refine nn ?_
      refine wSl H (j := 3) (hK := ?_)
      refine wIXm H hm rfl fun ad c0 c1 c2 => ?_
      refine ldI c1 ?_
      refine br (fun h2 => ?_) (fun h2 => ?_)
      · have hh : isK f t m = true := by unfold isK; rw [h1, h2]; rfl
        rw [hh, if_pos rfl] at hc
        exact ⟨k - 1, by omega, rfl, i + 1, by omega, by rw [hw1, hw2, hc]⟩
      · have hh : isK f t m = false := by unfold isK; rw [h1, h2]; rfl
        rw [hh, if_neg (by decide)] at hc
        exact ⟨k - 1, by omega, rfl, i + 1, by omega, by rw [hw1, hc]; rfl⟩
    · have hh : isK f t m = false := by unfold isK; rw [h1]; rfl
      rw [hh, if_neg (by decide)] at hc
      exact ⟨k - 1, by omega, rfl, i + 1, by omega, by rw [hw1, hc]; rfl⟩
  · have hi : R.l.length ≤ i := by simp [hn] at h; omega
    rw [List.take_of_length_le hi]
    exact hK

/-- The place of the pick-th message of a link. -/
def nth (f t : Int) : List RMsg → Nat → Option Nat
  | [], _ => none
  | m :: r, q => if isK f t m then (if q = 0 then some 0 else (nth f t r (q - 1)).map (· + 1)) else (nth f t r q).map (· + 1)
theorem nth_some {f t : Int} : ∀ {l : List RMsg} {q : Nat}, q < cnt l f t → ∃ i, nth f t l q = some i ∧ i < l.length
  | [], q, h => by simp [cnt] at h
  | m :: r, q, h => by
    simp only [nth]
    cases hm : isK f t m with
    | true =>
      simp only [if_true]
      by_cases hq : q = 0
      · exact ⟨0, by simp [hq], by simp⟩
      · have : q - 1 < cnt r f t := by simp [cnt, hm] at h ⊢; omega
        obtain ⟨i, h1, h2⟩ := nth_some this
        exact ⟨i + 1, by simp [hq, h1], by simp; omega⟩
    | false =>
      have : q < cnt r f t := by simpa [cnt, hm] using h
      obtain ⟨i, h1, h2⟩ := nth_some this
      exact ⟨i + 1, by simp [h1], by simp; omega⟩
def pickR (l : List RMsg) (f t p : Int) : Option Nat := if cnt l f t = 0 then none else nth f t l (pickI p (cnt l f t))

theorem meant_walk2 {f t p : Int} {K : Value → World → Prop} (H : St w0 F w (refP rb nd bd tm R :: refS R :: refM R.l :: L)) (hl : R.l.length ≤ 1000000)
    (h0 : pickR R.l f t p = none → K (.int .i64 (-1)) w) (hK : ∀ i, pickR R.l f t p = some i → i < R.l.length → K (.int .i64 i) w) :
    CallR Try.prog fn_glacierref3_Net_meant #[.pointer (some ⟨rb, 0, none⟩), .int .i64 f, .int .i64 t, .int .i64 p] w K := by
  have hn := ref_n H
  have hcl := cnt_le R.l f t
  refine glacierref3_Net_meant_sound _ _ _ _ _ _ ?_
  refine Count_walk H hl (mInt_mk ?_)
  refine br (fun h => h0 ?_) (fun h => ?_)
  · have : cnt R.l f t = 0 := by simpa using h
    unfold pickR; rw [if_pos this]
  have hc0 : cnt R.l f t ≠ 0 := by simpa using h
  have hlt : pickI p (cnt R.l f t) < cnt R.l f t := pickI_lt (by omega)
  obtain ⟨i0, hi0, hi0l⟩ := nth_some hlt
  have hpick : pickR R.l f t p = some i0 := by unfold pickR; rw [if_neg hc0, hi0]
  have go : ∀ x : Int, x = (pickI p (cnt R.l f t) : Int) → glacierref3_Net_meant_b3 (some ⟨rb, 0, none⟩) f t x K w := by
    rintro x rfl
    refine wLoop (fun k s w' => w' = w ∧ ∃ i q : Nat, k + i = R.l.length ∧ s = (some ⟨rb, 0, none⟩, f, t, (q : Int), (i : Int)) ∧ (nth f t (R.l.drop i) q).map (· + i) = some i0 ∧ q ≤ 1000000) ⟨R.l.length, rfl, 0, _, by omega, rfl, by simpa using hi0, by omega⟩ ?_
    rintro k s w' ⟨rfl, i, q, hk, rfl, hnth, hq⟩
    refine nn ?_
    refine wSl H (j := 3) (hK := ?_)
    refine br (fun h => ?_) (fun h => ?_)
    · have hi : i < R.l.length := by simp [hn] at h; omega
      obtain ⟨m, hm⟩ : ∃ m, R.l[i]? = some m := ⟨_, List.getElem?_eq_getElem hi⟩
      have hdr : R.l.drop i = m :: R.l.drop (i + 1) := by
        rw [List.drop_eq_getElem_cons hi]
        congr 1
        rw [List.getElem?_eq_getElem hi] at hm
        exact Option.some.inj hm
      rw [hdr] at hnth
      simp only [nth] at hnth
      have hw1 : IntKind.wrap .i64 ((i : Int) + 1) = ((i + 1 : Nat) : Int) := by rw [wrap_id (by omega) (by omega)]; rfl
      have next : ∀ q' : Nat, q' ≤ 1000000 → ((nth f t (R.l.drop (i + 1)) q').map (· + 1)).map (· + i) = some i0 → ∀ x : Int, x = (q' : Int) →
          ∃ k', k' < k ∧ w' = w' ∧ ∃ i2 q : Nat, k' + i2 = R.l.length ∧ ((some ⟨rb, 0, none⟩, f, t, x, IntKind.wrap .i64 ((i : Int) + 1)) : (Option Addr) × Int × Int × Int × Int) = (some ⟨rb, 0, none⟩, f, t, (q : Int), (i2 : Int)) ∧ (nth f t (R.l.drop i2) q).map (· + i2) = some i0 ∧ q ≤ 1000000 := by
        intro q' hq' h' x hx
        subst hx
        refine ⟨k - 1, by omega, rfl, i + 1, q', by omega, by rw [hw1], ?_, hq'⟩
        rw [Option.map_map] at h'
        rw [← h']
        congr 1
        funext y
        simp only [Function.comp_apply]
        omega
      refine nn ?_
      refine wSl H (j := 3) (hK := ?_)
      refine wIXm H hm rfl fun ad c0 c1 c2 => ?_
      refine ldI c0 ?_
      refine br (fun h1 => ?_) (fun h1 => ?_)
      · refine nn ?_
        refine wSl H (j := 3) (hK := ?_)
        refine wIXm H hm rfl fun ad c0 c1 c2 => ?_
        refine ldI c1 ?_
        refine br (fun h2 => ?_) (fun h2 => ?_)
        · have hh : isK f t m = true := by unfold isK; rw [h1, h2]; rfl
          rw [hh] at hnth
          simp only [if_true] at hnth
          refine br (fun h3 => ?_) (fun h3 => ?_)
          · have hq0 : q = 0 := by simpa using h3
            rw [if_pos hq0] at hnth
            have : i = i0 := by simpa using hnth
            subst this
            exact hK _ hpick hi
          · have hq0 : ¬ q = 0 := by simpa using h3
            rw [if_neg hq0] at hnth
            have hw2 : IntKind.wrap .i64 ((q : Int) - 1) = ((q - 1 : Nat) : Int) := by rw [wrap_id (by omega) (by omega)]; omega
            exact next (q - 1) (by omega) hnth _ hw2
        · have hh : isK f t m = false := by unfold isK; rw [h1, h2]; rfl
          rw [hh] at hnth
          exact next q hq hnth _ rfl
      · have hh : isK f t m = false := by unfold isK; rw [h1]; rfl
        rw [hh] at hnth
        exact next q hq hnth _ rfl
    · have hi : R.l.length ≤ i := by simp [hn] at h; omega
      rw [List.drop_of_length_le hi] at hnth
      simp [nth] at hnth
  refine br (fun h => ?_) (fun h => ?_)
  · have hp : p < 0 := by simpa using h
    refine wReq (by omega) (go _ ?_)
    unfold pickI
    rw [if_pos (by omega)]
    simp
  · have hp : ¬ p < 0 := by simpa using h
    refine wReq (by omega) (go _ ?_)
    have := pickI_eq p (cnt R.l f t)
    rw [if_neg (by omega)] at this
    exact this
end
end Go.Proofs.Ytienifnpacoahaa
