/- The reference's net in memory: Deliver, Clear. -/
import Derived.Test.YtienifnpacoahaaHQB
namespace Go.Proofs.Ytienifnpacoahaa
open Go.Sh
attribute [local irreducible] rRun LDI LDB LDS LDP LDSl LDM LD Go.Sh.ST AL ALM LetW CallR CallV CallI NN IX SIX Br Req mInt mBool mStr mPtr mSlice mMap mAgg mTup mCons mNil mNth mPA LoopS

section
variable {w0 w : World} {F : List Nat} {L M : List Own} {rb : Nat} {nd bd tm : Int} {R : RefR}
theorem cells_one {l : List RMsg} (h : ∀ m ∈ l, SliceAt w 5 1 m.v (bvals m.bs)) : ∀ u ∈ l.flatMap RMsg.cells, u.oneCell' = true := by
  intro u hu
  obtain ⟨m, hm, hx⟩ := List.mem_flatMap.1 hu
  exact own_one m (h m hm) u hx
theorem rDeliver_spec {f t p : Int} (hA : Has w [refO rb nd bd tm R]) (hl : R.l.length ≤ 900000) :
    CallS Try.prog fn_glacierref3_Net_Deliver #[.pointer (some ⟨rb, 0, none⟩), .int .i64 f, .int .i64 t, .int .i64 p] w [refO rb nd bd tm R] fun r _ A =>
      (pickR R.l f t p = none ∧ r = .tuple #[.agg #[.int .i64 0, .int .i64 0, .slice none 0 0], .bool false] ∧ A = [refO rb nd bd tm R]) ∨
      (∃ i m, pickR R.l f t p = some i ∧ R.l[i]? = some m ∧ r = .tuple #[.agg #[.int .i64 m.f, .int .i64 m.t, m.v], .bool true] ∧ ∃ R', R'.l = R.l.eraseIdx i ∧ A = [refO rb nd bd tm R', m.own]) := by
  refine CallS_intro hA fun H => glacierref3_Net_Deliver_sound _ _ _ _ _ _ ?_
  refine wAL H fun q w1 H => ?_
  have H := H.front (refO rb nd bd tm R)
  have Ho := H.refOpen
  refine meant_walk2 Ho (by omega) (fun hn => mInt_mk ?_) (fun i hp hi => mInt_mk ?_)
  · refine br (fun _ => ?_) (fun h => absurd h (by decide))
    repeat (first | refine nn ?_ | refine wI H (hK := ?_) | refine wP H (hK := ?_) | refine wM H (hK := ?_) | refine wSl H (hK := ?_) | refine wB H (hK := ?_) | refine wS H (hK := ?_) | refine wEq ?_ | refine wC H (hK := ?_) | (refine wLW H ?_; intro w1 H) | (refine wST H (hK := ?_); intro w1 H _) | refine mSlice_mk ?_ | refine mInt_mk ?_ | refine mBool_mk ?_ | refine mTup_mk ?_ | refine mCons_mk ?_ | refine mNil_mk ?_ | refine mAgg_mk ?_ | refine mPtr_mk ?_ | refine mStr_mk ?_)
    exact ⟨_, .inl ⟨hn, rfl, rfl⟩, H.left (L := [_])⟩
  · refine br (fun h => by simp at h; omega) (fun _ => ?_)
    obtain ⟨m, hm⟩ : ∃ m, R.l[i]? = some m := ⟨_, List.getElem?_eq_getElem hi⟩
    have hn := ref_n Ho
    refine nn ?_
    refine wSl Ho (j := 3) (hK := ?_)
    refine wIXm Ho hm rfl fun ad c0 c1 c2 => ?_
    have hms := msg_slice Ho (List.mem_of_getElem? hm)
    obtain ⟨va, vn, vc, hv, _⟩ := slice_of hms
    rw [hv] at c2
    refine ldI c0 (ldI c1 (ldSl c2 ?_))
    have hall : ∀ x ∈ R.l, SliceAt _ 5 1 x.v (bvals x.bs) := fun x hx => msg_slice Ho hx
    have hone := cells_one hall
    clear c0 c1 c2 hall hms
    refine wAL Ho fun mb w2 H => ?_
    have H : St w (fps [refO rb nd bd tm R]) w2 (pt mb (.cells #[.int .i64 0, .int .i64 0, .slice none 0 0] 31) :: pt rb (.cells #[.int .i64 nd, .int .i64 bd, .int .i64 tm, .slice R.a R.n R.c] 61) :: refS R :: refM R.l :: [pt q (.cells #[.int .i64 0, .int .i64 0, .slice none 0 0] 31)]) := H
    repeat (first | refine nn ?_ | refine wI H (hK := ?_) | refine wP H (hK := ?_) | refine wM H (hK := ?_) | refine wSl H (hK := ?_) | refine wB H (hK := ?_) | refine wS H (hK := ?_) | refine wEq ?_ | refine wC H (hK := ?_) | (refine wLW H ?_; intro w1 H) | (refine wST H (hK := ?_); intro w1 H _) | refine mSlice_mk ?_ | refine mInt_mk ?_ | refine mBool_mk ?_ | refine mTup_mk ?_ | refine mCons_mk ?_ | refine mNil_mk ?_ | refine mAgg_mk ?_ | refine mPtr_mk ?_ | refine mStr_mk ?_)
    have hc : R.n ≤ R.c := by
      obtain ⟨_, _, _, he, _, h2, _⟩ := (H.get (i := 2) rfl : SliceAt _ 31 3 (.slice R.a R.n R.c) _)
      cases he
      exact h2
    have hw1 : IntKind.wrap .i64 ((i : Int) + 1) = ((i + 1 : Nat) : Int) := by rw [wrap_id (by omega) (by omega)]; rfl
    rw [hw1]
    have s1 : ∀ w', (Instr.sliceAt 59 (.slice R.a R.n R.c) none (some (.int .i64 (i : Int))) none).run Try.prog w' = .ok (.slice (if R.c = 0 then R.a else R.a.map (·.add (0 * 3))) (i - 0) (R.c - 0)) w' := fun w' =>
      sliceAt_run elem_msg (l := 0) (h := i) (m := R.c) rfl ⟨rfl, by omega⟩ (fun h => by cases h) rfl
    have s2 : ∀ w', (Instr.sliceAt 59 (.slice R.a R.n R.c) (some (.int .i64 ((i + 1 : Nat) : Int))) none none).run Try.prog w' = .ok (.slice (if R.c = i + 1 then R.a else R.a.map (·.add ((i + 1) * 3))) (R.n - (i + 1)) (R.c - (i + 1))) w' := fun w' =>
      sliceAt_run elem_msg (l := i + 1) (h := R.n) (m := R.c) rfl rfl (fun h => by cases h) ⟨rfl, by omega⟩
    refine rRun_intro (s1 _) (mSlice_mk ⟨rfl, ?_⟩)
    repeat (first | refine nn ?_ | refine wI H (hK := ?_) | refine wP H (hK := ?_) | refine wM H (hK := ?_) | refine wSl H (hK := ?_) | refine wB H (hK := ?_) | refine wS H (hK := ?_) | refine wEq ?_ | refine wC H (hK := ?_) | (refine wLW H ?_; intro w1 H) | (refine wST H (hK := ?_); intro w1 H _) | refine mSlice_mk ?_ | refine mInt_mk ?_ | refine mBool_mk ?_ | refine mTup_mk ?_ | refine mCons_mk ?_ | refine mNil_mk ?_ | refine mAgg_mk ?_ | refine mPtr_mk ?_ | refine mStr_mk ?_)
    refine rRun_intro (s2 _) (mSlice_mk ⟨rfl, ?_⟩)
    refine al H fun b w3 _ hf3 H => ?_
    refine ⟨rRun_intro (s2 _) (mSlice_mk ⟨rfl, rfl⟩), ?_⟩
    refine wC H (b := rb) (j := 3) (hK := ?_)
    refine ⟨rRun_intro (s1 _) (mSlice_mk ⟨rfl, rfl⟩), ?_⟩
    refine wC H (b := rb) (j := 3) (hK := ?_)
    have H := (H.tail).nothing 31 3 (some ⟨b, 0, none⟩)
    have hrd : Reads w3 3 (.slice R.a R.n R.c) (R.l.flatMap RMsg.cells) := (H.get (i := 3) rfl : SliceAt _ 31 3 (.slice R.a R.n R.c) _).reads
    have r1 := hrd.sub (l := 0) (h := i) (m := R.c) (Nat.zero_le _) (by omega) (by omega)
    have r2 := hrd.sub (l := i + 1) (h := R.n) (m := R.c) (by omega) (Nat.le_refl _) hc
    have e1 : ((R.l.flatMap RMsg.cells).drop (0 * 3)).take ((i - 0) * 3) = (R.l.take i).flatMap RMsg.cells := by
      rw [Nat.zero_mul, List.drop_zero, Nat.sub_zero, flat_take cells_len]
    have e2 : ((R.l.flatMap RMsg.cells).drop ((i + 1) * 3)).take ((R.n - (i + 1)) * 3) = (R.l.drop (i + 1)).flatMap RMsg.cells := by
      rw [flat_drop cells_len, flat_take cells_len, List.take_of_length_le (by rw [List.length_drop]; omega)]
    rw [e1] at r1
    rw [e2] at r2
    have l1 : ((R.l.take i).flatMap RMsg.cells).length = i * 3 := by rw [flat_length cells_len, List.length_take]; omega
    have l2 : ((R.l.drop (i + 1)).flatMap RMsg.cells).length = (R.l.length - (i + 1)) * 3 := by rw [flat_length cells_len, List.length_drop]
    obtain ⟨n1, hn1, hs1⟩ := r1.src (P := Try.prog) (tx := 59) elem_msg.under (fun u hu => hone u (by obtain ⟨x, hx, hu⟩ := List.mem_flatMap.1 hu; exact List.mem_flatMap.2 ⟨x, List.mem_of_mem_take hx, hu⟩))
    refine append_own (t := 59) (n := n1) elem_msg (i := 0) H rfl hs1 (by rw [l1]; simp; omega) (by decide) fun v' w4 H hf4 _ => ?_
    rw [List.nil_append] at H
    obtain ⟨xa, xn, xc, rfl, _⟩ := slice_of (H.get (i := 0) rfl : SliceAt _ _ _ _ _)
    refine mSlice_mk ⟨rRun_intro (s2 _) (mSlice_mk ⟨rfl, rfl⟩), ?_⟩
    have r2 : Reads w4 3 _ _ := r2.of fun x hx => hf4.block x (r2.lt (by decide) x hx) (by simp [sfp])
    have H : St w (fps [refO rb nd bd tm R]) w4 (sliceO 31 3 (.slice xa xn xc) ((R.l.take i).flatMap RMsg.cells) :: pt mb (.cells #[.int .i64 m.f, .int .i64 m.t, .slice va vn vc] 31) :: pt rb (.cells #[.int .i64 nd, .int .i64 bd, .int .i64 tm, .slice R.a R.n R.c] 61) :: refS R :: refM R.l :: [pt q (.cells #[.int .i64 0, .int .i64 0, .slice none 0 0] 31)]) := H
    refine wC H (b := rb) (j := 3) (hK := ?_)
    obtain ⟨n2, hn2, hs2⟩ := r2.src (P := Try.prog) (tx := 59) elem_msg.under (fun u hu => hone u (by obtain ⟨x, hx, hu⟩ := List.mem_flatMap.1 hu; exact List.mem_flatMap.2 ⟨x, List.mem_of_mem_drop hx, hu⟩))
    refine append_own (t := 59) (n := n2) elem_msg (i := 0) H rfl hs2 (by rw [l1, l2]; omega) (by decide) fun v' w5 H hf5 _ => ?_
    have ee : (R.l.take i).flatMap RMsg.cells ++ (R.l.drop (i + 1)).flatMap RMsg.cells = (R.l.eraseIdx i).flatMap RMsg.cells := by
      rw [← List.flatMap_append, List.eraseIdx_eq_take_drop_succ]
    rw [ee] at H
    obtain ⟨ya, yn, yc, rfl, _⟩ := slice_of (H.get (i := 0) rfl : SliceAt _ _ _ _ _)
    refine mSlice_mk (nn ?_)
    have H : St w (fps [refO rb nd bd tm R]) w5 (sliceO 31 3 (.slice ya yn yc) ((R.l.eraseIdx i).flatMap RMsg.cells) :: pt mb (.cells #[.int .i64 m.f, .int .i64 m.t, .slice va vn vc] 31) :: pt rb (.cells #[.int .i64 nd, .int .i64 bd, .int .i64 tm, .slice R.a R.n R.c] 61) :: refS R :: refM R.l :: [pt q (.cells #[.int .i64 0, .int .i64 0, .slice none 0 0] 31)]) := H
    repeat (first | refine nn ?_ | refine wI H (hK := ?_) | refine wP H (hK := ?_) | refine wM H (hK := ?_) | refine wSl H (hK := ?_) | refine wB H (hK := ?_) | refine wS H (hK := ?_) | refine wEq ?_ | refine wC H (hK := ?_) | (refine wLW H ?_; intro w1 H) | (refine wST H (hK := ?_); intro w1 H _) | refine mSlice_mk ?_ | refine mInt_mk ?_ | refine mBool_mk ?_ | refine mTup_mk ?_ | refine mCons_mk ?_ | refine mNil_mk ?_ | refine mAgg_mk ?_ | refine mPtr_mk ?_ | refine mStr_mk ?_)
    have H := ((H.front (refS R)).tail).front (refM R.l)
    have hperm : (R.l.map RMsg.own).Perm (m.own :: (R.l.eraseIdx i).map RMsg.own) := by
      have := (perm_front (L := R.l) hm).map RMsg.own
      simpa using this
    have H := St.out H hperm
    have H := ((H.front (refM (R.l.eraseIdx i))).front (sliceO 31 3 (.slice ya yn yc) ((R.l.eraseIdx i).flatMap RMsg.cells))).front (pt rb (.cells #[.int .i64 nd, .int .i64 bd, .int .i64 tm, .slice ya yn yc] 61))
    have H := St.refClose (R := ⟨ya, yn, yc, R.l.eraseIdx i⟩) H
    refine ⟨_, .inr ⟨i, m, hp, hm, by rw [hv], ⟨ya, yn, yc, R.l.eraseIdx i⟩, rfl, rfl⟩, H.left (L := [_, _])⟩

/-- Only some of many parts. -/
theorem _root_.Go.Sh.St.some {N N' : List Own} (H : St w0 F w (starO M :: L)) (h : M.Perm (N ++ N')) : St w0 F w (starO N :: L) := by
  have h1 : St w0 F w (N ++ N' ++ L) := H.open.perm (h.append_right L)
  have h2 : St w0 F w (N' ++ (N ++ L)) := by
    rw [List.append_assoc] at h1
    refine h1.perm ?_
    rw [← List.append_assoc, ← List.append_assoc]
    exact List.perm_append_comm.append_right L
  exact (h2.right).close
def keepR (node : Int) (m : RMsg) : Bool := m.f != node && m.t != node
theorem rClear_spec {node : Int} (hA : Has w [refO rb nd bd tm R]) (hl : R.l.length ≤ 900000) :
    CallS Try.prog fn_glacierref3_Net_Clear #[.pointer (some ⟨rb, 0, none⟩), .int .i64 node] w [refO rb nd bd tm R] fun r _ A =>
      r = .tuple #[] ∧ ∃ R', R'.l = R.l.filter (keepR node) ∧ A = [refO rb nd bd tm R'] := by
  refine CallS_intro hA fun H => glacierref3_Net_Clear_sound _ _ _ _ ?_
  have H := H.refOpen
  have H := H.nothing 31 3 none
  have hone := cells_one (l := R.l) fun m hm => msg_slice H.tail hm
  refine wLoop (fun k s w' => ∃ (i : Nat) (xa : Option Addr) (xn xc : Nat), k + i = R.l.length ∧ s = (some ⟨rb, 0, none⟩, node, xa, xn, xc, (i : Int)) ∧
    St w (fps [refO rb nd bd tm R]) w' [refP rb nd bd tm R, refS R, refM R.l, sliceO 31 3 (.slice xa xn xc) (((R.l.take i).filter (keepR node)).flatMap RMsg.cells)]) ?_ ?_
  · exact ⟨R.l.length, 0, none, 0, 0, by omega, rfl, H.perm (List.perm_append_comm (l₁ := [_]) (l₂ := [refP rb nd bd tm R, refS R, refM R.l]))⟩
  clear H
  rintro k s w1 ⟨i, xa, xn, xc, hk, rfl, H⟩
  have hn := ref_n H
  refine nn ?_
  refine wSl H (j := 3) (hK := ?_)
  refine br (fun h => ?_) (fun h => ?_)
  · have hi : i < R.l.length := by simp [hn] at h; omega
    obtain ⟨m, hm⟩ : ∃ m, R.l[i]? = some m := ⟨_, List.getElem?_eq_getElem hi⟩
    have hw1 : IntKind.wrap .i64 ((i : Int) + 1) = ((i + 1 : Nat) : Int) := by rw [wrap_id (by omega) (by omega)]; rfl
    have htk : (R.l.take (i + 1)).filter (keepR node) = (R.l.take i).filter (keepR node) ++ if keepR node m then [m] else [] := by
      obtain ⟨hi', he⟩ := List.getElem?_eq_some_iff.1 hm
      rw [← List.take_append_getElem hi', List.filter_append, he]
      congr 1
      cases hq : keepR node m <;> simp [hq]
    have skip : keepR node m = false → ∃ k', k' < k ∧ ∃ (j : Nat) (xa' : Option Addr) (xn' xc' : Nat), k' + j = R.l.length ∧ ((some ⟨rb, 0, none⟩, node, xa, xn, xc, IntKind.wrap .i64 ((i : Int) + 1)) : (Option Addr) × Int × (Option Addr) × Nat × Nat × Int) = (some ⟨rb, 0, none⟩, node, xa', xn', xc', (j : Int)) ∧
        St w (fps [refO rb nd bd tm R]) w1 [refP rb nd bd tm R, refS R, refM R.l, sliceO 31 3 (.slice xa' xn' xc') (((R.l.take j).filter (keepR node)).flatMap RMsg.cells)] := fun hh => by
      rw [hh, if_neg (by decide), List.append_nil] at htk
      exact ⟨k - 1, by omega, i + 1, xa, xn, xc, by omega, by rw [hw1], by rw [htk]; exact H⟩
    refine nn ?_
    refine wSl H (j := 3) (hK := ?_)
    refine wIXm H hm rfl fun ad c0 c1 c2 => ?_
    refine ldI c0 ?_
    refine br (fun h1 => ?_) (fun h1 => ?_)
    · refine nn ?_
      refine wSl H (j := 3) (hK := ?_)
      refine wIXm H hm rfl fun ad c0 c1 c2 => ?_
      refine ldI c1 ?_
      refine br (fun h2 => ?_) (fun h2 => ?_)
      · have hh : keepR node m = true := by unfold keepR; rw [h1, h2]; rfl
        rw [hh, if_pos rfl] at htk
        refine nn ?_
        refine wSl H (j := 3) (hK := ?_)
        refine wIXm H hm rfl fun ad c0 c1 c2 => ?_
        have hms := msg_slice H (List.mem_of_getElem? hm)
        obtain ⟨va, vn, vc, hv, _⟩ := slice_of hms
        have ho1 := own_one m hms
        rw [hv] at c2
        refine ldI c0 (ldI c1 (ldSl c2 ?_))
        clear c0 c1 c2 hms
        refine wAL H fun b w2 H => ?_
        have hsrc : Reads w2 3 (.slice (some ⟨b, 0, none⟩) 1 1) m.cells := by
          refine ⟨_, _, _, rfl, rfl, Nat.le_refl _, .inr ⟨_, rfl, fun j hj => ?_⟩⟩
          rw [Addr.add_mk, Nat.zero_add, cell_blk (H.blk (i := 0) rfl)]
          unfold RMsg.cells
          rw [hv]
          have hj : j = 0 ∨ j = 1 ∨ j = 2 := by
            have : j < 3 := hj
            omega
          rcases hj with rfl | rfl | rfl <;> rfl
        obtain ⟨n2, hn2, hs⟩ := hsrc.src (P := Try.prog) (tx := 59) elem_msg.under ho1
        have hfl : (((R.l.take i).filter (keepR node)).flatMap RMsg.cells).length ≤ R.l.length * 3 := by
          rw [flat_length cells_len]
          refine Nat.mul_le_mul_right _ ?_
          exact Nat.le_trans (List.length_filter_le _ _) (List.take_sublist i R.l).length_le
        refine append_own (t := 59) (n := n2) elem_msg (i := 4) H rfl hs (by rw [cells_len]; omega) (by decide) fun v' w3 H _ _ => ?_
        obtain ⟨ya, yn, yc, rfl, _⟩ := slice_of (H.get (i := 4) rfl : SliceAt _ _ _ _ _)
        refine mSlice_mk ?_
        have e : ((R.l.take i).filter (keepR node)).flatMap RMsg.cells ++ m.cells = ((R.l.take (i + 1)).filter (keepR node)).flatMap RMsg.cells := by rw [htk]; simp
        rw [e] at H
        exact ⟨k - 1, by omega, i + 1, ya, yn, yc, by omega, by rw [hw1], H.tail⟩
      · exact skip (by unfold keepR; rw [h1, h2]; rfl)
    · exact skip (by unfold keepR; rw [h1]; rfl)
  · have hi : R.l.length ≤ i := by simp [hn] at h; omega
    rw [List.take_of_length_le hi] at H
    have H : St w (fps [refO rb nd bd tm R]) w1 [pt rb (.cells #[.int .i64 nd, .int .i64 bd, .int .i64 tm, .slice R.a R.n R.c] 61), refS R, refM R.l, sliceO 31 3 (.slice xa xn xc) ((R.l.filter (keepR node)).flatMap RMsg.cells)] := H
    repeat (first | refine nn ?_ | refine wI H (hK := ?_) | refine wP H (hK := ?_) | refine wM H (hK := ?_) | refine wSl H (hK := ?_) | refine wB H (hK := ?_) | refine wS H (hK := ?_) | refine wEq ?_ | refine wC H (hK := ?_) | (refine wLW H ?_; intro w1 H) | (refine wST H (hK := ?_); intro w1 H _) | refine mSlice_mk ?_ | refine mInt_mk ?_ | refine mBool_mk ?_ | refine mTup_mk ?_ | refine mCons_mk ?_ | refine mNil_mk ?_ | refine mAgg_mk ?_ | refine mPtr_mk ?_ | refine mStr_mk ?_)
    have H := ((H.front (refS R)).tail).front (refM R.l)
    have hperm : (R.l.map RMsg.own).Perm ((R.l.filter (keepR node)).map RMsg.own ++ (R.l.filter fun m => !keepR node m).map RMsg.own) := by
      rw [← List.map_append]
      exact (List.filter_append_perm (keepR node) R.l).symm.map _
    have H := St.some H hperm
    have H := ((H.front (sliceO 31 3 (.slice xa xn xc) ((R.l.filter (keepR node)).flatMap RMsg.cells))).front (pt rb (.cells #[.int .i64 nd, .int .i64 bd, .int .i64 tm, .slice xa xn xc] 61)))
    have H := St.refClose (R := ⟨xa, xn, xc, R.l.filter (keepR node)⟩) H
    exact ⟨_, ⟨rfl, ⟨xa, xn, xc, R.l.filter (keepR node)⟩, rfl, rfl⟩, H⟩
end
end Go.Proofs.Ytienifnpacoahaa
