/- A net in memory: its variables, its map, a slice of messages for each link. -/
import Derived.Test.YtienifnpacoahaaHB
namespace Go.Proofs.Ytienifnpacoahaa
open Go.Sh
attribute [local irreducible] rRun LDI LDB LDS LDP LDSl LDM LD Go.Sh.ST AL ALM LetW CallR CallV CallI NN IX SIX Br Req mInt mBool mStr mPtr mSlice mMap mAgg mTup mCons mNil mNth mPA LoopS

abbrev Msg := Value × List UInt8
abbrev Row := Value × List Msg
abbrev Bags := List ((Int × Int) × Row)
def msgO (m : Msg) : Own := sliceO 5 1 m.1 (bvals m.2)
def rowO (r : Row) : Own := starO [sliceO 22 1 r.1 (r.2.map (·.1)), starO (r.2.map msgO)]
def bagsO (l : Bags) : Own := starO (l.map fun e => rowO e.2)
def bagsM (bm : Nat) (l : Bags) : Own := mapO pairV bm (l.map fun e => (e.1, e.2.1))
def netP (nb bm : Nat) (nd bd now : Int) : Own := pt nb (.cells #[.int .i64 nd, .int .i64 bd, .int .i64 now, .map (some bm)] 49)
def netO (nb bm : Nat) (nd bd now : Int) (l : Bags) : Own := starO [pt nb (.cells #[.int .i64 nd, .int .i64 bd, .int .i64 now, .map (some bm)] 49), bagsM bm l, bagsO l]
def nilV : Value := .slice none 0 0
def row (l : Bags) (k : Int × Int) : Row := (aget l k).getD (nilV, [])

section
variable {w0 w : World} {F : List Nat} {L R : List Own}
theorem _root_.Go.Sh.St.netOpen {nb bm : Nat} {nd bd now : Int} {l : Bags} (H : St w0 F w (netO nb bm nd bd now l :: R)) :
    St w0 F w (pt nb (.cells #[.int .i64 nd, .int .i64 bd, .int .i64 now, .map (some bm)] 49) :: bagsM bm l :: bagsO l :: R) := H.open
theorem _root_.Go.Sh.St.netClose {nb bm : Nat} {nd bd now : Int} {l : Bags} (H : St w0 F w (pt nb (.cells #[.int .i64 nd, .int .i64 bd, .int .i64 now, .map (some bm)] 49) :: bagsM bm l :: bagsO l :: R)) :
    St w0 F w (netO nb bm nd bd now l :: R) := Sh.St.close (M := [_, _, _]) H
theorem slice_of {w : World} {E sz : Nat} {v : Value} {cs : List Value} (h : SliceAt w E sz v cs) : ∃ a n c, v = .slice a n c ∧ n * sz = cs.length ∧ n ≤ c := by
  obtain ⟨a, n, c, rfl, h1, h2, _⟩ := h
  exact ⟨a, n, c, rfl, h1, h2⟩
theorem row_at (H : St w0 F w L) {l : Bags} (hb : bagsO l ∈ L) (k : Int × Int) : SliceAt w 22 1 (row l k).1 ((row l k).2.map (·.1)) ∧ ∀ m ∈ (row l k).2, SliceAt w 5 1 m.1 (bvals m.2) := by
  unfold row
  cases hg : aget l k with
  | none => exact ⟨nothing_at, fun m hm => by cases hm⟩
  | some r =>
    have h1 : (bagsO l).holds w := H.has.all _ hb
    have h2 : rowO r ∈ l.map fun e => rowO e.2 := (perm_aget (fun e : (Int × Int) × Row => rowO e.2) hg).mem_iff.2 (List.mem_cons_self ..)
    have h3 : (rowO r).holds w := h1 _ h2
    have h4 : SliceAt w 22 1 r.1 (r.2.map (·.1)) := h3 _ (List.mem_cons_self ..)
    have h5 : (starO (r.2.map msgO)).holds w := h3 _ (by simp)
    exact ⟨h4, fun m hm => h5 (msgO m) (List.mem_map.2 ⟨m, hm, rfl⟩)⟩
theorem row_slice (H : St w0 F w L) {l : Bags} (hb : bagsO l ∈ L) (k : Int × Int) : ∃ a n c, (row l k).1 = .slice a n c ∧ n = (row l k).2.length ∧ n ≤ c := by
  obtain ⟨a, n, c, h1, h2, h3⟩ := slice_of (row_at H hb k).1
  exact ⟨a, n, c, h1, by simpa using h2, h3⟩
theorem heads_one (H : St w0 F w L) {l : Bags} (hb : bagsO l ∈ L) (k : Int × Int) : ∀ u ∈ (row l k).2.map (·.1), u.oneCell' = true := by
  intro u hu
  obtain ⟨m, hm, rfl⟩ := List.mem_map.1 hu
  obtain ⟨a, n, c, h1, _⟩ := slice_of ((row_at H hb k).2 m hm)
  rw [h1]; rfl
theorem row_out {l : Bags} (H : St w0 F w (bagsO l :: R)) (k : Int × Int) :
    St w0 F w (sliceO 22 1 (row l k).1 ((row l k).2.map (·.1)) :: starO ((row l k).2.map msgO) :: bagsO (adel l k) :: R) := by
  unfold row
  cases hg : aget l k with
  | none =>
    rw [adel_none hg]
    have h1 : St w0 F w (starO [] :: bagsO l :: R) := Sh.St.close (M := []) H
    exact h1.nothing 22 1 none
  | some r =>
    have h1 := H.out (perm_aget (fun e : (Int × Int) × Row => rowO e.2) hg)
    exact h1.open
theorem row_in {l : Bags} {k : Int × Int} {v : Value} {ms : List Msg} (H : St w0 F w (sliceO 22 1 v (ms.map (·.1)) :: starO (ms.map msgO) :: bagsO (adel l k) :: R)) :
    St w0 F w (bagsO (aput l k (v, ms)) :: R) := by
  have h1 : St w0 F w (rowO (v, ms) :: bagsO (adel l k) :: R) := Sh.St.close (M := [_, _]) H
  exact h1.into (perm_aput (fun e : (Int × Int) × Row => rowO e.2) l k (v, ms))
theorem wLookup {bm : Nat} {l : Bags} {f t : Int} {K : Value → World → Prop} (H : St w0 F w L)
    (hm : List.Mem (bagsM bm l) L := by repeat (first | exact .head _ | apply List.Mem.tail)) (hb : List.Mem (bagsO l) L := by repeat (first | exact .head _ | apply List.Mem.tail))
    (hK : ∀ a n c, (row l (f, t)).1 = .slice a n c → n = (row l (f, t)).2.length → n ≤ c → K (.slice a n c) w) :
    rRun Try.prog (Instr.lookup 47 (.map (some bm)) (.agg #[.int .i64 f, .int .i64 t]) false) w K := by
  obtain ⟨a, n, c, h1, h2, h3⟩ := row_slice H hb (f, t)
  refine rRun_intro (lookup_run map_pair (H.has.all _ hm : MapAt pairV w bm _) (f, t) false) ?_
  have hv : (aget (l.map fun e => (e.1, e.2.1)) (f, t)).getD (zeroOf Try.prog 47) = (row l (f, t)).1 := by
    rw [aget_map (fun r : Row => r.1), zero_pair]
    unfold row
    cases aget l (f, t) <;> rfl
  simp only [Bool.false_eq_true, if_false, hv, h1]
  exact hK a n c h1 h2 h3

/-- A message is laid behind the others of a link. -/
theorem push_row {bm b4 mn mc : Nat} {m : Option Addr} {l : Bags} {f t : Int} {bs : List UInt8} {K : World → Prop}
    (H : St w0 F w (pt b4 (.cells #[.slice m mn mc] 22) :: sliceO 5 1 (.slice m mn mc) (bvals bs) :: bagsM bm l :: bagsO l :: R)) (hlen : (row l (f, t)).2.length ≤ 65536)
    (hK : ∀ w' v' m', St w0 F w' (bagsM bm (aput l (f, t) (v', (row l (f, t)).2 ++ [(m', bs)])) :: bagsO (aput l (f, t) (v', (row l (f, t)).2 ++ [(m', bs)])) :: R) → K w') :
    rRun Try.prog (Instr.mapEntry 47 (.map (some bm)) (.agg #[.int .i64 f, .int .i64 t])) w fun er w_1 =>
    mTup er fun l => mNth l 0 fun x => mSlice x fun v1 n1 c1 => mTup er fun l1 => mNth l1 1 fun x1 => mInt .i64 x1 fun v2 =>
    rRun Try.prog (Builtin.append_ #[53, 53] 53 #[(.slice v1 n1 c1), (.slice (some ⟨b4, 0, none⟩) 1 1)]) w_1 fun sr w_2 =>
    mSlice sr fun v3 n3 c3 =>
    rRun Try.prog (Instr.entryStore 47 (.map (some bm)) (.int .i64 v2) (.slice v3 n3 c3)) w_2 fun _ w_3 => K w_3 := by
  have hv : (aget (l.map fun e => (e.1, e.2.1)) (f, t)).getD (zeroOf Try.prog 47) = (row l (f, t)).1 := by
    rw [aget_map (fun r : Row => r.1), zero_pair]
    unfold row
    cases aget l (f, t) <;> rfl
  refine mapEntry_own map_pair (i := 2) H rfl (f, t) fun w1 s H hf hs => ?_
  rw [hv] at H hs ⊢
  obtain ⟨a, n, c, h1, h2, h3⟩ := row_slice H (l := l) (by simp) (f, t)
  rw [h1] at H hs ⊢
  refine mTup_mk (mNth_mk rfl (mSlice_mk (mTup_mk (mNth_mk rfl (mInt_mk ?_)))))
  have H := H.front (bagsO l)
  have h1s := heads_one H (l := l) (by simp) (f, t)
  have H := row_out H (f, t)
  rw [h1] at H
  have hr : Reads w1 1 (.slice (some ⟨b4, 0, none⟩) 1 1) [.slice m mn mc] := by
    refine ⟨_, _, _, rfl, rfl, Nat.le_refl _, .inr ⟨_, rfl, fun j hj => ?_⟩⟩
    have hj0 : j = 0 := by simpa using hj
    subst hj0
    exact cell_blk (H.has.all (pt b4 (.cells #[.slice m mn mc] 22)) (by simp))
  obtain ⟨q, hq, hsrc⟩ := hr.src (P := Try.prog) (tx := 53) elem_rows.under (by simp [Value.oneCell'])
  have hq1 : q = 1 := by simpa using hq
  subst hq1
  have hbm : bm ∉ sfp (.slice a n c) := by
    have := H.apart (x := sliceO 22 1 (.slice a n c) ((row l (f, t)).2.map (·.1))) (y := mapO pairV bm (aput (l.map fun e => (e.1, e.2.1)) (f, t) (.slice a n c))) (by simp) (b := bm) (by simp [mapO])
    simpa [sliceO] using this
  refine append_own (t := 53) (n := 1) elem_rows (i := 0) H rfl hsrc (by simp; omega) (by decide) fun v' w2 H hf2 _ => ?_
  obtain ⟨a', n', c', rfl, _⟩ := slice_of (H.get (i := 0) rfl : SliceAt _ _ _ _ _)
  refine mSlice_mk ?_
  have hs2 : StampAt pairV w2 bm _ (f, t) s := hs.of (hf2.block bm (by
    obtain ⟨_, _, hb, _⟩ := hs
    exact blk_lt hb) hbm)
  refine entryStore_own (i := 5) H rfl hs2 _ fun w3 H hf3 => ?_
  rw [aput_aput, aput_map (fun r : Row => r.1) l (f, t) (.slice a' n' c', (row l (f, t)).2 ++ [(.slice m mn mc, bs)])] at H
  refine hK w3 (.slice a' n' c') (.slice m mn mc) ?_
  have H := (H.front (pt b4 (.cells #[.slice m mn mc] 22))).tail
  have H := (H.front (starO ((row l (f, t)).2.map msgO))).front (sliceO 5 1 (.slice m mn mc) (bvals bs))
  have H := H.into (M := ((row l (f, t)).2 ++ [((.slice m mn mc : Value), bs)]).map msgO) (x := msgO (.slice m mn mc, bs)) (by rw [List.map_append]; exact List.perm_append_singleton _ _)
  have H := H.front (sliceO 22 1 (.slice a' n' c') ((row l (f, t)).2.map (·.1) ++ [.slice m mn mc]))
  have H := row_in (v := .slice a' n' c') (ms := (row l (f, t)).2 ++ [(.slice m mn mc, bs)]) (by rw [List.map_append]; exact H)
  exact H.front (bagsM bm (aput l (f, t) (.slice a' n' c', (row l (f, t)).2 ++ [(.slice m mn mc, bs)])))
end
end Go.Proofs.Ytienifnpacoahaa
