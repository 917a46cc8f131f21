/- DC DD, laid together. -/
import Derived.Test.YtimgbkabfkdabaaHDB
import Derived.Test.YtimgbkabfkdabaaShElems
import Derived.Test.YtimgbkabfkdabaaShRef
/- The reference's disk in memory: New, find, Used, put, drop. -/
namespace Go.Proofs.Ytimgbkabfkdabaa
open Go.Sh
attribute [local irreducible] rRun LDI LDB LDS LDP LDSl LDM LD Go.Sh.ST AL ALM LetW CallR CallV CallI NN IX SIX Br Req mInt mBool mStr mPtr mSlice mMap mAgg mTup mCons mNil mNth mPA LoopS

structure RFile where
  (name : ByteArray) (v : Value) (bs : List UInt8) (syn : Nat)
def RFile.cells (f : RFile) : List Value := [.string f.name, f.v, .int .i64 f.syn]
def RFile.own (f : RFile) : Own := sliceO 5 1 f.v (bvals f.bs)
def RFile.fv (f : RFile) : AF := (f.name, (f.bs, f.syn))
structure RD where
  (a : Option Addr) (n c : Nat) (l : List RFile)
def RD.A (R : RD) : List AF := R.l.map RFile.fv
def rdP (rb : Nat) (size born : Int) (R : RD) : Own := pt rb (.cells #[.int .i64 size, .slice R.a R.n R.c, .int .i64 born] 56)
def rdS (R : RD) : Own := sliceO 82 3 (.slice R.a R.n R.c) (R.l.flatMap RFile.cells)
def rdM (l : List RFile) : Own := starO (l.map RFile.own)
def rdO (rb : Nat) (size born : Int) (R : RD) : Own := starO [rdP rb size born R, rdS R, rdM R.l]
theorem fcells_len (f : RFile) : f.cells.length = 3 := rfl
theorem elem_file : ElemTy Try.prog 54 82 3 48 := elemTy_of (by kernel_rfl) (by kernel_rfl)
theorem RD.get (R : RD) (i : Nat) : R.A[i]? = (R.l[i]?).map RFile.fv := by unfold RD.A; rw [List.getElem?_map]
theorem RD.len (R : RD) : R.A.length = R.l.length := by simp [RD.A]

section
variable {w0 w : World} {F : List Nat} {L M : List Own} {rb : Nat} {size born : Int} {R : RD}
theorem _root_.Go.Sh.St.rdOpen (H : St w0 F w (rdO rb size born R :: L)) : St w0 F w (rdP rb size born R :: rdS R :: rdM R.l :: L) := H.open
theorem _root_.Go.Sh.St.rdClose (H : St w0 F w (rdP rb size born R :: rdS R :: rdM R.l :: L)) : St w0 F w (rdO rb size born R :: L) := Sh.St.close (M := [_, _, _]) H
theorem rd_n (H : St w0 F w (rdP rb size born R :: rdS R :: rdM R.l :: L)) : R.n = R.l.length := by
  obtain ⟨_, _, _, he, h1, _⟩ := (H.get (i := 1) rfl : SliceAt w 82 3 _ _)
  cases he
  rw [flat_length fcells_len] at h1
  omega
theorem wIXf {i : Nat} {v : Int} {f : RFile} {K : Addr → Prop} (H : St w0 F w (rdP rb size born R :: rdS R :: rdM R.l :: L)) (hi : R.l[i]? = some f) (hv : v = (i : Int))
    (hK : ∀ ad : Addr, w.cell? ad = some (.string f.name) → w.cell? (ad.add 1) = some f.v → w.cell? (ad.add 2) = some (.int .i64 f.syn) → K ad) : IX R.a R.n v 3 K := by
  have hn := rd_n H
  have hlt := (List.getElem?_eq_some_iff.1 hi).1
  refine wIXs (H.get (i := 1) rfl : SliceAt w 82 3 _ _) (i := i) (by omega) hv fun b _ hc => ?_
  have h : ∀ j, j < 3 → w.cell? ((⟨b, i * 3, none⟩ : Addr).add j) = f.cells[j]? := fun j hj => by
    rw [Addr.add_mk, hc j hj, flat_get fcells_len _ _ _ hj, hi]; rfl
  have h0 : (⟨b, i * 3, none⟩ : Addr).add 0 = ⟨b, i * 3, none⟩ := by simp [Addr.add]
  exact hK _ (by rw [← h0]; exact h 0 (by decide)) (h 1 (by decide)) (h 2 (by decide))
/-- The same, where the place itself is wanted. -/
theorem wIXfe {i : Nat} {v : Int} {f : RFile} {K : Addr → Prop} (H : St w0 F w (rdP rb size born R :: rdS R :: rdM R.l :: L)) (hi : R.l[i]? = some f) (hv : v = (i : Int))
    (hK : ∀ b, R.a = some ⟨b, 0, none⟩ → K ⟨b, i * 3, none⟩) : IX R.a R.n v 3 K := by
  have hn := rd_n H
  have hlt := (List.getElem?_eq_some_iff.1 hi).1
  exact wIXs (H.get (i := 1) rfl : SliceAt w 82 3 _ _) (i := i) (by omega) hv fun b hb _ => hK b hb
theorem file_slice (H : St w0 F w (rdP rb size born R :: rdS R :: rdM R.l :: L)) {f : RFile} (hf : f ∈ R.l) : SliceAt w 5 1 f.v (bvals f.bs) :=
  (H.get (i := 2) rfl : (rdM R.l).holds w) (f.own) (List.mem_map.2 ⟨f, hf, rfl⟩)
theorem file_val (H : St w0 F w (rdP rb size born R :: rdS R :: rdM R.l :: L)) {f : RFile} (hf : f ∈ R.l) : ∃ a c, f.v = .slice a f.bs.length c := by
  obtain ⟨a, n, c, hv, h1, _⟩ := file_slice H hf
  exact ⟨a, c, by rw [hv]; congr 1; simpa using h1⟩
theorem fcell_one (f : RFile) (h : SliceAt w 5 1 f.v (bvals f.bs)) : ∀ u ∈ f.cells, u.oneCell' = true := by
  intro u hu
  obtain ⟨a, n, c, hv, _⟩ := h
  simp [RFile.cells] at hu
  rcases hu with rfl | rfl | rfl
  · rfl
  · rw [hv]; rfl
  · rfl
theorem fcells_one {l : List RFile} (h : ∀ f ∈ l, SliceAt w 5 1 f.v (bvals f.bs)) : ∀ u ∈ l.flatMap RFile.cells, u.oneCell' = true := by
  intro u hu
  obtain ⟨f, hf, hx⟩ := List.mem_flatMap.1 hu
  exact fcell_one f (h f hf) u hx

theorem rdNew_spec (size : Int) (w : World) : CallS Try.prog fn_glacierref2_New #[.int .i64 size] w [] fun v _ A =>
    ((1 ≤ size ∧ size ≤ 1073741824) → ∃ rb, v = .tuple #[.pointer (some ⟨rb, 0, none⟩), .int .i64 0] ∧ A = [rdO rb size 0 ⟨none, 0, 0, []⟩]) ∧
    (¬ (1 ≤ size ∧ size ≤ 1073741824) → v = .tuple #[.pointer none, .int .i64 1] ∧ A = []) := by
  refine CallS_intro (.nil w) fun H => glacierref2_New_sound _ _ _ ?_
  refine br (fun h => ⟨[], ⟨fun h2 => by simp at h; omega, fun _ => ⟨rfl, rfl⟩⟩, H⟩) (fun h1 => ?_)
  refine br (fun h => ⟨[], ⟨fun h2 => by simp at h; omega, fun _ => ⟨rfl, rfl⟩⟩, H⟩) (fun h2 => ?_)
  simp at h1 h2
  refine wAL H fun rb w1 H => ?_
  have H : St w (fps []) w1 [pt rb (.cells #[.int .i64 size, .slice none 0 0, .int .i64 0] 56)] := H
  have H2 : St w (fps []) w1 (rdM [] :: pt rb (.cells #[.int .i64 size, .slice none 0 0, .int .i64 0] 56) :: []) := Sh.St.close (M := []) H
  have H3 := (H2.nothing 82 3 none).front (pt rb (.cells #[.int .i64 size, .slice none 0 0, .int .i64 0] 56))
  exact ⟨_, ⟨fun _ => ⟨rb, rfl, rfl⟩, fun h => absurd ⟨h1, h2⟩ h⟩, St.rdClose (R := ⟨none, 0, 0, []⟩) H3⟩

theorem fnd_drop {s : ByteArray} {A : List AF} {i : Nat} {y : AF} (h : A[i]? = some y) : fnd s (A.drop i) = if ltB y.1 s then fnd s (A.drop (i + 1)) + 1 else 0 := by
  obtain ⟨hi, he⟩ := List.getElem?_eq_some_iff.1 h
  rw [List.drop_eq_getElem_cons hi, he]
  rfl
/-- find. -/
theorem find_walk {s : ByteArray} {K : Value → World → Prop} (H : St w0 F w (rdP rb size born R :: rdS R :: rdM R.l :: L)) (hl : R.l.length ≤ 1000000) (hs : Srt R.A)
    (hK : ∀ w', w'.heap = w.heap → St w0 F w' (rdP rb size born R :: rdS R :: rdM R.l :: L) → K (.tuple #[.int .i64 (fnd s R.A), .bool (aget R.A s).isSome]) w') :
    CallR Try.prog fn_glacierref2_Disk_find #[.pointer (some ⟨rb, 0, none⟩), .string s] w K := by
  have hn := rd_n H
  refine glacierref2_Disk_find_sound _ _ _ _ ?_
  obtain ⟨hsp1, hsp2⟩ := fnd_spec (s := s) hs
  have hend : ∀ i : Nat, fnd s R.A = i → glacierref2_Disk_find_b0 (some ⟨rb, 0, none⟩) s (i : Int) K w := by
    intro i hi
    have hfl := fnd_le s R.A
    rw [RD.len] at hfl
    refine lw H fun w1 hw1 H => ?_
    refine nn ?_
    refine wSl H (j := 1) (hK := wEq ?_)
    refine br (fun h => ?_) (fun h => ?_)
    · have hlt : i < R.l.length := by simp [hn] at h; omega
      obtain ⟨f, hf⟩ : ∃ f, R.l[i]? = some f := ⟨_, List.getElem?_eq_getElem hlt⟩
      refine nn ?_
      refine wSl H (j := 1) (hK := ?_)
      refine wIXf H hf rfl fun ad c0 c1 c2 => ?_
      refine ldS c0 ?_
      have hA : R.A[i]? = some f.fv := by rw [RD.get, hf]; rfl
      have e : decide (f.name = s) = (aget R.A s).isSome := by
        cases hg : aget R.A s with
        | none =>
          rw [hi] at hsp2
          have := hsp2 hg _ hA
          simp
          exact this
        | some x =>
          rw [hi] at hsp1
          have := hsp1 x hg
          rw [hA] at this
          have h2 : f.name = s := congrArg Prod.fst (Option.some.inj this)
          simp [h2]
      rw [text_eq, e]
      have := hK w1 hw1 H
      rw [hi] at this
      exact this
    · have hlt : R.l.length ≤ i := by simp [hn] at h; omega
      have e : (aget R.A s).isSome = false := by
        cases hg : aget R.A s with
        | none => rfl
        | some x =>
          have := hsp1 x hg
          rw [List.getElem?_eq_none (by rw [RD.len]; omega)] at this
          cases this
      have := hK w1 hw1 H
      rw [hi, e] at this
      exact this
  refine wLoop (fun k x w' => w' = w ∧ ∃ i : Nat, k + i = R.l.length ∧ x = (some ⟨rb, 0, none⟩, s, (i : Int)) ∧ fnd s R.A = i + fnd s (R.A.drop i)) ⟨R.l.length, rfl, 0, by omega, rfl, by simp⟩ ?_
  rintro k x w' ⟨rfl, i, hk, rfl, hfi⟩
  refine nn ?_
  refine wSl H (j := 1) (hK := ?_)
  refine br (fun h => ?_) (fun h => ?_)
  · have hlt : i < R.l.length := by simp [hn] at h; omega
    obtain ⟨f, hf⟩ : ∃ f, R.l[i]? = some f := ⟨_, List.getElem?_eq_getElem hlt⟩
    have hA : R.A[i]? = some f.fv := by rw [RD.get, hf]; rfl
    rw [fnd_drop hA] at hfi
    refine nn ?_
    refine wSl H (j := 1) (hK := ?_)
    refine wIXf H hf rfl fun ad c0 c1 c2 => ?_
    refine ldS c0 ?_
    rw [less_eq]
    refine br (fun h => ?_) (fun h => ?_)
    · have h : ltB f.name s := by simpa using h
      have hw1 : IntKind.wrap .i64 ((i : Int) + 1) = ((i + 1 : Nat) : Int) := by rw [wrap_id (by omega) (by omega)]; rfl
      rw [if_pos (show ltB f.fv.1 s from h)] at hfi
      exact ⟨k - 1, by omega, rfl, i + 1, by omega, by rw [hw1], by omega⟩
    · have h : ¬ ltB f.name s := by simpa using h
      rw [if_neg (show ¬ ltB f.fv.1 s from h)] at hfi
      exact hend i hfi
  · have hlt : R.l.length ≤ i := by simp [hn] at h; omega
    rw [List.drop_of_length_le (by rw [RD.len]; omega)] at hfi
    exact hend i hfi
theorem totA_take {A : List AF} {i : Nat} {x : AF} (h : A[i]? = some x) : totA (A.take (i + 1)) = totA (A.take i) + x.2.1.length := by
  obtain ⟨hi, he⟩ := List.getElem?_eq_some_iff.1 h
  unfold totA
  rw [← List.take_append_getElem hi, List.map_append, List.sum_append, he]
  simp
theorem totA_take_le (A : List AF) (i : Nat) : totA (A.take i) ≤ totA A := by
  unfold totA
  conv => rhs; rw [← List.take_append_drop i A, List.map_append, List.sum_append]
  omega
theorem rUsed_walk {K : Value → World → Prop} (H : St w0 F w (rdP rb size born R :: rdS R :: rdM R.l :: L)) (hl : R.l.length ≤ 1000000) (ht : totA R.A ≤ 1000000000000)
    (hK : K (.int .i64 (totA R.A)) w) : CallR Try.prog fn_glacierref2_Disk_Used #[.pointer (some ⟨rb, 0, none⟩)] w K := by
  have hn := rd_n H
  refine glacierref2_Disk_Used_sound _ _ _ ?_
  refine wLoop (fun k x w' => w' = w ∧ ∃ i : Nat, k + i = R.l.length ∧ x = (some ⟨rb, 0, none⟩, (totA (R.A.take i) : Int), (i : Int))) ⟨R.l.length, rfl, 0, by omega, rfl⟩ ?_
  rintro k x w' ⟨rfl, i, hk, rfl⟩
  refine nn ?_
  refine wSl H (j := 1) (hK := ?_)
  refine br (fun h => ?_) (fun h => ?_)
  · have hlt : i < R.l.length := by simp [hn] at h; omega
    obtain ⟨f, hf⟩ : ∃ f, R.l[i]? = some f := ⟨_, List.getElem?_eq_getElem hlt⟩
    have hA : R.A[i]? = some f.fv := by rw [RD.get, hf]; rfl
    have h1 := totA_take hA
    have h2 := totA_take_le R.A (i + 1)
    obtain ⟨va, vc, hv⟩ := file_val H (List.mem_of_getElem? hf)
    refine nn ?_
    refine wSl H (j := 1) (hK := ?_)
    refine wIXf H hf rfl fun ad c0 c1 c2 => ?_
    rw [hv] at c1
    refine ldSl c1 ?_
    have hw1 : IntKind.wrap .i64 ((i : Int) + 1) = ((i + 1 : Nat) : Int) := by rw [wrap_id (by omega) (by omega)]; rfl
    have hw2 : IntKind.wrap .i64 ((totA (R.A.take i) : Int) + (f.bs.length : Int)) = (totA (R.A.take (i + 1)) : Int) := by
      have h3 : f.fv.2.1.length = f.bs.length := rfl
      rw [wrap_id (by omega) (by omega)]
      omega
    exact ⟨k - 1, by omega, rfl, i + 1, by omega, by rw [hw1, hw2]⟩
  · have hlt : R.l.length ≤ i := by simp [hn] at h; omega
    rw [List.take_of_length_le (by rw [RD.len]; omega)]
    exact hK
end
end Go.Proofs.Ytimgbkabfkdabaa

/- The reference's disk in memory: put, drop. -/
namespace Go.Proofs.Ytimgbkabfkdabaa
open Go.Sh
attribute [local irreducible] rRun LDI LDB LDS LDP LDSl LDM LD Go.Sh.ST AL ALM LetW CallR CallV CallI NN IX SIX Br Req mInt mBool mStr mPtr mSlice mMap mAgg mTup mCons mNil mNth mPA LoopS

section
variable {w0 w : World} {F : List Nat} {L M : List Own} {rb : Nat} {size born : Int} {R : RD}
theorem el_reads {b n : Nat} {f : RFile} (H : St w0 F w (pt b (.cells #[.string f.name, f.v, .int .i64 n] 82) :: L)) (hn : (n : Int) = f.syn) : Reads w 3 (.slice (some ⟨b, 0, none⟩) 1 1) f.cells := by
  have e : n = f.syn := by omega
  subst e
  refine ⟨_, _, _, rfl, rfl, Nat.le_refl _, .inr ⟨_, rfl, fun j hj => ?_⟩⟩
  rw [Addr.add_mk, Nat.zero_add, cell_blk (H.blk (i := 0) rfl)]
  have hj : j = 0 ∨ j = 1 ∨ j = 2 := by
    have : j < 3 := hj
    omega
  rcases hj with rfl | rfl | rfl <;> rfl
theorem s_head {i : Nat} (hi : i ≤ R.n) (hc : R.n ≤ R.c) (w' : World) : (Instr.sliceAt 54 (.slice R.a R.n R.c) none (some (.int .i64 (i : Int))) none).run Try.prog w' = .ok (.slice (if R.c = 0 then R.a else R.a.map (·.add (0 * 3))) (i - 0) (R.c - 0)) w' :=
  sliceAt_run elem_file (l := 0) (h := i) (m := R.c) rfl ⟨rfl, by omega⟩ (fun h => by cases h) rfl
theorem s_rest {i : Nat} (hi : i ≤ R.n) (w' : World) : (Instr.sliceAt 54 (.slice R.a R.n R.c) (some (.int .i64 (i : Int))) none none).run Try.prog w' = .ok (.slice (if R.c = i then R.a else R.a.map (·.add (i * 3))) (R.n - i) (R.c - i)) w' :=
  sliceAt_run elem_file (l := i) (h := R.n) (m := R.c) rfl rfl (fun h => by cases h) ⟨rfl, hi⟩
theorem r_head {i : Nat} (h : Reads w 3 (.slice R.a R.n R.c) (R.l.flatMap RFile.cells)) (hi : i ≤ R.n) (hc : R.n ≤ R.c) : Reads w 3 (.slice (if R.c = 0 then R.a else R.a.map (·.add (0 * 3))) (i - 0) (R.c - 0)) ((R.l.take i).flatMap RFile.cells) := by
  have r1 := h.sub (l := 0) (h := i) (m := R.c) (Nat.zero_le _) hi (by omega)
  rwa [Nat.zero_mul, List.drop_zero, Nat.sub_zero, flat_take fcells_len] at r1
theorem r_rest {i : Nat} (h : Reads w 3 (.slice R.a R.n R.c) (R.l.flatMap RFile.cells)) (hn : R.n = R.l.length) (hi : i ≤ R.n) (hc : R.n ≤ R.c) : Reads w 3 (.slice (if R.c = i then R.a else R.a.map (·.add (i * 3))) (R.n - i) (R.c - i)) ((R.l.drop i).flatMap RFile.cells) := by
  have r2 := h.sub (l := i) (h := R.n) (m := R.c) hi (Nat.le_refl _) hc
  rwa [flat_drop fcells_len, flat_take fcells_len, List.take_of_length_le (by rw [List.length_drop]; omega)] at r2

/-- What put does behind the first append. -/
theorem put_tail {i b1 xn xc fn fc : Nat} {xa fa : Option Addr} {f : RFile} {K : Value → World → Prop} (hf : f.v = .slice fa fn fc) (hi : i ≤ R.l.length) (hl : R.l.length ≤ 1000000)
    (hone : ∀ u ∈ R.l.flatMap RFile.cells, u.oneCell' = true)
    (H : St w0 F w (pt b1 (.cells #[.string f.name, .slice fa fn fc, .int .i64 f.syn] 82) :: sliceO 82 3 (.slice xa xn xc) ((R.l.take i).flatMap RFile.cells) :: rdP rb size born R :: rdS R :: rdM R.l :: f.own :: L))
    (hK : ∀ w' R', R'.l = R.l.take i ++ f :: R.l.drop i → St w0 F w' (rdO rb size born R' :: L) → K (.tuple #[]) w') :
    rRun Try.prog (Builtin.append_ #[54, 54] 54 #[(.slice xa xn xc), (.slice (some ⟨b1, 0, none⟩) 1 1)]) w fun sr8 w_19 =>
    mSlice sr8 fun v16 v_n11 v_c11 =>
    NN (some ⟨rb, 0, none⟩) fun p4 =>
    LDSl w_19 (Addr.add p4 1) fun v17 v_n12 v_c12 =>
    rRun Try.prog (Instr.sliceAt 54 (.slice v17 v_n12 v_c12) (some (.int .i64 (i : Int))) none none) w_19 fun sr9 w_20 =>
    mSlice sr9 fun v18 v_n13 v_c13 =>
    rRun Try.prog (Builtin.append_ #[54, 54] 54 #[(.slice v16 v_n11 v_c11), (.slice v18 v_n13 v_c13)]) w_20 fun sr10 w_21 =>
    mSlice sr10 fun v19 v_n14 v_c14 =>
    NN (some ⟨rb, 0, none⟩) fun p5 =>
    ST w_21 (Addr.add p5 1) (.slice v19 v_n14 v_c14) fun w_22 =>
    K (.tuple #[]) w_22 := by
  have l1 : ((R.l.take i).flatMap RFile.cells).length = i * 3 := by rw [flat_length fcells_len, List.length_take]; omega
  have l2 : ((R.l.drop i).flatMap RFile.cells).length = (R.l.length - i) * 3 := by rw [flat_length fcells_len, List.length_drop]
  have hrd : Reads w 3 (.slice (some ⟨b1, 0, none⟩) 1 1) f.cells := el_reads (f := f) (n := f.syn) (by rw [hf]; exact H) rfl
  have ho1 : ∀ u ∈ f.cells, u.oneCell' = true := by
    intro u hu
    simp [RFile.cells, hf] at hu
    rcases hu with rfl | rfl | rfl <;> rfl
  obtain ⟨n1, hn1, hs1⟩ := hrd.src (P := Try.prog) (tx := 54) elem_file.under ho1
  refine append_own (t := 54) (n := n1) elem_file (i := 1) H rfl hs1 (by rw [l1, fcells_len]; omega) (by decide) fun v' w1 H _ _ => ?_
  obtain ⟨ya, yn, yc, rfl, _⟩ := (H.get (i := 1) rfl : SliceAt _ _ _ _ _)
  have e1 : (R.l.take i).flatMap RFile.cells ++ f.cells = (R.l.take i ++ [f]).flatMap RFile.cells := by simp
  rw [e1] at H
  have H : St w0 F w1 (sliceO 82 3 (.slice ya yn yc) ((R.l.take i ++ [f]).flatMap RFile.cells) :: pt rb (.cells #[.int .i64 size, .slice R.a R.n R.c, .int .i64 born] 56) :: rdS R :: rdM R.l :: f.own :: L) := H.tail
  refine mSlice_mk (nn ?_)
  refine wSl H (j := 1) (hK := ?_)
  have hrs : Reads w1 3 (.slice R.a R.n R.c) (R.l.flatMap RFile.cells) := (H.get (i := 2) rfl : SliceAt _ 82 3 (.slice R.a R.n R.c) _).reads
  obtain ⟨hn, hc⟩ : R.n = R.l.length ∧ R.n ≤ R.c := by
    obtain ⟨_, _, _, he, h1, h2, _⟩ := (H.get (i := 2) rfl : SliceAt _ 82 3 (.slice R.a R.n R.c) _)
    cases he
    rw [flat_length fcells_len] at h1
    exact ⟨by omega, h2⟩
  refine rRun_intro (s_rest (by omega) _) (mSlice_mk ?_)
  have r2 := r_rest hrs hn (show i ≤ R.n by omega) hc
  obtain ⟨n2, hn2, hs2⟩ := r2.src (P := Try.prog) (tx := 54) elem_file.under (fun u hu => hone u (by obtain ⟨x, hx, hu⟩ := List.mem_flatMap.1 hu; exact List.mem_flatMap.2 ⟨x, List.mem_of_mem_drop hx, hu⟩))
  have l3 : ((R.l.take i ++ [f]).flatMap RFile.cells).length = (i + 1) * 3 := by rw [← e1, List.length_append, l1, fcells_len]; omega
  refine append_own (t := 54) (n := n2) elem_file (i := 0) H rfl hs2 (by rw [l3, l2]; omega) (by decide) fun v' w2 H _ _ => ?_
  obtain ⟨za, zn, zc, rfl, _⟩ := (H.get (i := 0) rfl : SliceAt _ _ _ _ _)
  have e2 : (R.l.take i ++ [f]).flatMap RFile.cells ++ (R.l.drop i).flatMap RFile.cells = (R.l.take i ++ f :: R.l.drop i).flatMap RFile.cells := by simp
  rw [e2] at H
  have H : St w0 F w2 (sliceO 82 3 (.slice za zn zc) ((R.l.take i ++ f :: R.l.drop i).flatMap RFile.cells) :: pt rb (.cells #[.int .i64 size, .slice R.a R.n R.c, .int .i64 born] 56) :: rdS R :: rdM R.l :: f.own :: L) := H
  refine mSlice_mk (nn ?_)
  refine wST H (j := 1) (hK := ?_)
  intro w3 H _
  have H := ((H.front (rdS R)).tail.front (rdM R.l)).front f.own
  have hp : ((R.l.take i ++ f :: R.l.drop i).map RFile.own).Perm (f.own :: R.l.map RFile.own) := by
    have h1 : (R.l.take i ++ f :: R.l.drop i).Perm (f :: (R.l.take i ++ R.l.drop i)) := List.perm_middle
    rw [List.take_append_drop] at h1
    exact h1.map RFile.own
  have H := St.into (M := (R.l.take i ++ f :: R.l.drop i).map RFile.own) H hp
  have H := (H.front (sliceO 82 3 (.slice za zn zc) ((R.l.take i ++ f :: R.l.drop i).flatMap RFile.cells))).front (pt rb (.cells #[.int .i64 size, .slice za zn zc, .int .i64 born] 56))
  exact hK _ ⟨za, zn, zc, R.l.take i ++ f :: R.l.drop i⟩ rfl (St.rdClose (R := ⟨za, zn, zc, R.l.take i ++ f :: R.l.drop i⟩) H)

theorem put_walk {f : RFile} {fa : Option Addr} {fn fc : Nat} {K : Value → World → Prop} (hf : f.v = .slice fa fn fc) (hl : R.l.length ≤ 900000) (hs : Srt R.A) (H : St w0 F w (rdO rb size born R :: f.own :: L))
    (hK : ∀ w' R', R'.A = insA f.name (f.bs, f.syn) R.A → St w0 F w' (rdO rb size born R' :: L) → K (.tuple #[]) w') :
    CallR Try.prog fn_glacierref2_Disk_put #[.pointer (some ⟨rb, 0, none⟩), .agg #[.string f.name, .slice fa fn fc, .int .i64 f.syn]] w K := by
  refine glacierref2_Disk_put_sound _ _ _ _ _ _ _ _ ?_
  refine wAL H fun q w1 H => ?_
  have H := (H.front (rdO rb size born R)).rdOpen
  have H : St w0 F w1 (pt rb (.cells #[.int .i64 size, .slice R.a R.n R.c, .int .i64 born] 56) :: rdS R :: rdM R.l :: pt q (.cells #[.string f.name, .slice fa fn fc, .int .i64 f.syn] 82) :: f.own :: L) := H
  refine wS H (j := 0) (b := q) (hK := ?_)
  refine find_walk H (by omega) hs fun w2 _ H => ?_
  have H : St w0 F w2 (pt rb (.cells #[.int .i64 size, .slice R.a R.n R.c, .int .i64 born] 56) :: rdS R :: rdM R.l :: pt q (.cells #[.string f.name, .slice fa fn fc, .int .i64 f.syn] 82) :: f.own :: L) := H
  have hn := rd_n H
  have hone := fcells_one (l := R.l) fun x hx => file_slice H hx
  have hfl := fnd_le f.name R.A
  rw [RD.len] at hfl
  refine mTup_mk (mCons_mk (mInt_mk (mCons_mk (mBool_mk (mNil_mk ?_)))))
  refine br (fun hg => ?_) (fun hg => ?_)
  · refine wLW H ?_
    intro w3 H
    refine nn ?_
    refine wSl H (j := 1) (hK := ?_)
    refine wS H (j := 0) (b := q) (hK := ?_)
    refine wSl H (j := 1) (b := q) (hK := ?_)
    refine wI H (j := 2) (b := q) (hK := ?_)
    obtain ⟨x, hx⟩ := Option.isSome_iff_exists.1 hg
    have hA := (fnd_spec hs).1 x hx
    rw [RD.get] at hA
    obtain ⟨g, hgi, hgx⟩ := Option.map_eq_some_iff.1 hA
    have hlt := (List.getElem?_eq_some_iff.1 hgi).1
    refine wIXfe H hgi rfl fun b hb => ?_
    have hi0 : fnd f.name R.A * 3 + 3 ≤ (R.l.flatMap RFile.cells).length := by rw [flat_length fcells_len]; omega
    have H : St w0 F w3 (sliceO 82 3 (.slice (some ⟨b, 0, none⟩) R.n R.c) (R.l.flatMap RFile.cells) :: pt rb (.cells #[.int .i64 size, .slice R.a R.n R.c, .int .i64 born] 56) :: rdM R.l :: pt q (.cells #[.string f.name, .slice fa fn fc, .int .i64 f.syn] 82) :: f.own :: L) := by
      have H2 := H.front (rdS R)
      unfold rdS at H2
      rw [hb] at H2
      rw [hb]
      exact H2
    refine wSTc H (hi := by omega) (hK := fun w4 H => ?_)
    refine wSTc H (p := fnd f.name R.A * 3 + 1) (hi := by rw [List.length_set]; omega) (hK := fun w5 H => ?_)
    refine wSTc H (p := fnd f.name R.A * 3 + 2) (hi := by rw [List.length_set, List.length_set]; omega) (hK := fun w6 H => ?_)
    rw [flat_set3 (f := RFile.cells) (x := f) fcells_len (by simp [RFile.cells, hf]) R.l _ hlt] at H
    have H := ((H.front (pt q (.cells #[.string f.name, .slice fa fn fc, .int .i64 f.syn] 82))).tail.front (rdM R.l))
    have hp1 : (R.l.map RFile.own).Perm (g.own :: (R.l.eraseIdx (fnd f.name R.A)).map RFile.own) := by
      have := (perm_front (L := R.l) hgi).map RFile.own
      simpa using this
    have H := (St.out H hp1).tail
    have H := H.front f.own
    have hp2 : ((R.l.set (fnd f.name R.A) f).map RFile.own).Perm (f.own :: (R.l.eraseIdx (fnd f.name R.A)).map RFile.own) := by
      have := ((perm_set (L := R.l) f hgi).symm).map RFile.own
      simpa using this
    have H := St.into (M := (R.l.set (fnd f.name R.A) f).map RFile.own) H hp2
    have H := (H.front (sliceO 82 3 (.slice (some ⟨b, 0, none⟩) R.n R.c) ((R.l.set (fnd f.name R.A) f).flatMap RFile.cells))).front (pt rb (.cells #[.int .i64 size, .slice R.a R.n R.c, .int .i64 born] 56))
    refine hK _ ⟨some ⟨b, 0, none⟩, R.n, R.c, R.l.set (fnd f.name R.A) f⟩ ?_ (St.rdClose (R := ⟨some ⟨b, 0, none⟩, R.n, R.c, R.l.set (fnd f.name R.A) f⟩) (by
      have H2 := H
      rw [hb] at H2
      exact H2))
    rw [insA_some hs hg]
    unfold RD.A
    rw [List.map_set]
    rfl
  · have hg : aget R.A f.name = none := by
      cases hq : aget R.A f.name with
      | none => rfl
      | some x => rw [hq] at hg; cases hg
    have hc : R.n ≤ R.c := by
      obtain ⟨_, _, _, he, _, h2, _⟩ := (H.get (i := 1) rfl : SliceAt _ 82 3 (.slice R.a R.n R.c) _)
      cases he
      exact h2
    have fin : ∀ w' R', R'.l = R.l.take (fnd f.name R.A) ++ f :: R.l.drop (fnd f.name R.A) → St w0 F w' (rdO rb size born R' :: pt q (.cells #[.string f.name, .slice fa fn fc, .int .i64 f.syn] 82) :: L) → K (.tuple #[]) w' := by
      intro w' R' hR H
      refine hK w' R' ?_ (H.front (pt q (.cells #[.string f.name, .slice fa fn fc, .int .i64 f.syn] 82))).tail
      rw [insA_none hs hg]
      unfold RD.A
      rw [hR]
      simp [List.map_take, List.map_drop, RFile.fv]
      rfl
    refine wLW H ?_
    intro w3 H
    refine nn ?_
    refine wSl H (j := 1) (hK := ?_)
    refine rRun_intro (s_head (by omega) hc _) (mSlice_mk (wEq ?_))
    refine wS H (j := 0) (b := q) (hK := ?_)
    refine wSl H (j := 1) (b := q) (hK := ?_)
    refine wI H (j := 2) (b := q) (hK := ?_)
    -- the first append: nothing, and what comes ahead
    have first : ∀ {w4 : World} {L' : List Own} {b : Nat} {K' : Value → World → Prop}, St w0 F w4 (sliceO 82 3 (.slice (some ⟨b, 0, none⟩) 0 0) [] :: rdS R :: L') →
        (∀ w5 xa xn xc, St w0 F w5 (sliceO 82 3 (.slice xa xn xc) ((R.l.take (fnd f.name R.A)).flatMap RFile.cells) :: rdS R :: L') → K' (.slice xa xn xc) w5) →
        rRun Try.prog (Builtin.append_ #[54, 54] 54 #[(.slice (some ⟨b, 0, none⟩) 0 0), (.slice (if R.c = 0 then R.a else R.a.map (·.add (0 * 3))) (fnd f.name R.A - 0) (R.c - 0))]) w4 K' := by
      intro w4 L' b K' H hK'
      have hrs : Reads w4 3 (.slice R.a R.n R.c) (R.l.flatMap RFile.cells) := (H.get (i := 1) rfl : SliceAt _ 82 3 (.slice R.a R.n R.c) _).reads
      have r1 := r_head hrs (show fnd f.name R.A ≤ R.n by omega) hc
      have l1 : ((R.l.take (fnd f.name R.A)).flatMap RFile.cells).length = fnd f.name R.A * 3 := by rw [flat_length fcells_len, List.length_take]; omega
      obtain ⟨n1, hn1, hs1⟩ := r1.src (P := Try.prog) (tx := 54) elem_file.under (fun u hu => hone u (by obtain ⟨x, hx, hu⟩ := List.mem_flatMap.1 hu; exact List.mem_flatMap.2 ⟨x, List.mem_of_mem_take hx, hu⟩))
      refine append_own (t := 54) (n := n1) elem_file (i := 0) H rfl hs1 (by rw [l1]; simp; omega) (by decide) fun v' w5 H _ _ => ?_
      obtain ⟨ya, yn, yc, rfl, _⟩ := (H.get (i := 0) rfl : SliceAt _ _ _ _ _)
      rw [List.nil_append] at H
      exact hK' _ _ _ _ H
    refine ⟨?_, ?_⟩
    · refine wAL H fun b w4 H => ?_
      refine wC H (b := q) (j := 0) (hK := wC H (b := q) (j := 1) (hK := wC H (b := q) (j := 2) (hK := ?_)))
      refine ⟨rRun_intro (s_head (by omega) hc _) (mSlice_mk ⟨rfl, rfl⟩), ?_⟩
      refine wC H (b := rb) (j := 1) (hK := ?_)
      have H := ((H.tail.nothing 82 3 (some ⟨b, 0, none⟩)).front (rdS R)).front (sliceO 82 3 (.slice (some ⟨b, 0, none⟩) 0 0) [])
      refine ⟨?_, ?_⟩
      · refine first H fun w5 xa xn xc H => mSlice_mk ?_
        refine wC H (b := q) (j := 0) (hK := wC H (b := q) (j := 1) (hK := wC H (b := q) (j := 2) (hK := ?_)))
        refine wAL H fun b1 w6 H => ?_
        exact put_tail hf (by omega) (by omega) hone ((((((H.front f.own).front (rdM R.l)).front (rdS R)).front (rdP rb size born R)).front (sliceO 82 3 (.slice xa xn xc) ((R.l.take (fnd f.name R.A)).flatMap RFile.cells))).front (pt b1 (.cells #[.string f.name, .slice fa fn fc, .int .i64 f.syn] 82))) fin
      · refine wAL H fun b1 w5 H => ?_
        refine ⟨rRun_intro (s_head (by omega) hc _) (mSlice_mk ⟨rfl, rfl⟩), ?_⟩
        refine wC H (b := rb) (j := 1) (hK := ?_)
        have H := (H.front (rdS R)).front (sliceO 82 3 (.slice (some ⟨b, 0, none⟩) 0 0) [])
        refine first H fun w6 xa xn xc H => mSlice_mk ?_
        exact put_tail hf (by omega) (by omega) hone ((((((H.front f.own).front (rdM R.l)).front (rdS R)).front (rdP rb size born R)).front (sliceO 82 3 (.slice xa xn xc) ((R.l.take (fnd f.name R.A)).flatMap RFile.cells))).front (pt b1 (.cells #[.string f.name, .slice fa fn fc, .int .i64 f.syn] 82))) fin
    · refine wAL H fun b3 w4 H => ?_
      refine ⟨rRun_intro (s_head (by omega) hc _) (mSlice_mk ⟨rfl, rfl⟩), ?_⟩
      refine wC H (b := rb) (j := 1) (hK := ?_)
      refine wAL H fun b4 w5 H => ?_
      refine ⟨rRun_intro (s_head (by omega) hc _) (mSlice_mk ⟨rfl, rfl⟩), ?_⟩
      refine wC H (b := rb) (j := 1) (hK := ?_)
      have H := ((H.tail.nothing 82 3 (some ⟨b4, 0, none⟩)).front (rdS R)).front (sliceO 82 3 (.slice (some ⟨b4, 0, none⟩) 0 0) [])
      refine first H fun w6 xa xn xc H => mSlice_mk ?_
      exact put_tail hf (by omega) (by omega) hone ((((((H.front f.own).front (rdM R.l)).front (rdS R)).front (rdP rb size born R)).front (sliceO 82 3 (.slice xa xn xc) ((R.l.take (fnd f.name R.A)).flatMap RFile.cells))).front (pt b3 (.cells #[.string f.name, .slice fa fn fc, .int .i64 f.syn] 82))) fin
end
end Go.Proofs.Ytimgbkabfkdabaa
