/- Links: the kit's contract of slices.SortFunc laid at this program; the function that compares; what Links tells. -/
import Derived.Test.YtienifnpacoahaaHI
import Derived.Test.YtienifnpacoahaaShPlays
import Derived.Test.YtienifnpacoahaaShSortsK
import Derived.Shelf.SlSortCmp.WholeK
namespace Go.Proofs.Ytienifnpacoahaa
open Go.Sh Go.Shelf
theorem alx {w : World} {o : Obj} {K : Addr → World → Prop} (h : K ⟨w.heap.size, 0, none⟩ (w.alloc o)) : AL w o K := h
theorem lwx {w : World} {K : World → Prop} (h : K w) : LetW w K := h
attribute [local irreducible] rRun LDI LDB LDS LDP LDSl LDM LD Go.Sh.ST AL ALM LetW CallR CallV CallI NN IX SIX Br Req mInt mBool mStr mPtr mSlice mMap mAgg mTup mCons mNil mNth mPA LoopS
def sortLinks_ren : Go.Shelf.Ren := ⟨fun | 6 => 35 | 15 => 40 | 14 => 39 | 28 => 50 | 29 => 51 | 20 => 42 | 21 => 43 | 22 => 44 | 23 => 45 | 24 => 46 | 25 => 47 | 26 => 48 | 27 => 49 | 46 => 52 | 47 => 53 | 48 => 54 | 49 => 55 | 50 => 56 | 57 => 57 | n => n, fun | 22 => 65 | 24 => 69 | 25 => 75 | 3 => 3 | 39 => 78 | 0 => 0 | 53 => 88 | 55 => 90 | 4 => 4 | 46 => 81 | 45 => 80 | 50 => 85 | 5 => 5 | 9 => 9 | 66 => 91 | 70 => 95 | 76 => 97 | 77 => 98 | n => n, fun | n => n⟩
theorem sortLinks : Go.Proofs.SlLaysF0.n6 Try.prog sortLinks_ren where
  mixed := by kernel_rfl
  f6 := ⟨"slices.SortFunc[[]glacier/net.Link,glacier/net.Link]", by decide, Try.func35.trans (congrArg some (by kernel_rfl))⟩
  f14 := ⟨"slices.pdqsortCmpFunc[glacier/net.Link]", by decide, Try.func39.trans (congrArg some (by kernel_rfl))⟩
  f15 := Try.func40.trans (congrArg some (by kernel_rfl))
  f20 := ⟨"slices.insertionSortCmpFunc[glacier/net.Link]", by decide, Try.func42.trans (congrArg some (by kernel_rfl))⟩
  f21 := ⟨"slices.heapSortCmpFunc[glacier/net.Link]", by decide, Try.func43.trans (congrArg some (by kernel_rfl))⟩
  f22 := ⟨"slices.breakPatternsCmpFunc[glacier/net.Link]", by decide, Try.func44.trans (congrArg some (by kernel_rfl))⟩
  f23 := ⟨"slices.choosePivotCmpFunc[glacier/net.Link]", by decide, Try.func45.trans (congrArg some (by kernel_rfl))⟩
  f24 := ⟨"slices.reverseRangeCmpFunc[glacier/net.Link]", by decide, Try.func46.trans (congrArg some (by kernel_rfl))⟩
  f25 := ⟨"slices.partialInsertionSortCmpFunc[glacier/net.Link]", by decide, Try.func47.trans (congrArg some (by kernel_rfl))⟩
  f26 := ⟨"slices.partitionEqualCmpFunc[glacier/net.Link]", by decide, Try.func48.trans (congrArg some (by kernel_rfl))⟩
  f27 := ⟨"slices.partitionCmpFunc[glacier/net.Link]", by decide, Try.func49.trans (congrArg some (by kernel_rfl))⟩
  f28 := Try.func50.trans (congrArg some (by kernel_rfl))
  f29 := Try.func51.trans (congrArg some (by kernel_rfl))
  f46 := ⟨"slices.siftDownCmpFunc[glacier/net.Link]", by decide, Try.func52.trans (congrArg some (by kernel_rfl))⟩
  f47 := Try.func53.trans (congrArg some (by kernel_rfl))
  f48 := Try.func54.trans (congrArg some (by kernel_rfl))
  f49 := ⟨"slices.medianAdjacentCmpFunc[glacier/net.Link]", by decide, Try.func55.trans (congrArg some (by kernel_rfl))⟩
  f50 := ⟨"slices.medianCmpFunc[glacier/net.Link]", by decide, Try.func56.trans (congrArg some (by kernel_rfl))⟩
  f57 := ⟨"slices.order2CmpFunc[glacier/net.Link]", by decide, Try.func57.trans (congrArg some (by kernel_rfl))⟩
  t0 := Try.underlying0
  a0 := Try.isAgg0
  z0 := Try.sizeOf0
  v0 := Try.zeroValue0
  t3 := Try.underlying3
  a3 := Try.isAgg3
  z3 := Try.sizeOf3
  v3 := Try.zeroValue3
  t4 := Try.underlying4
  a4 := Try.isAgg4
  z4 := Try.sizeOf4
  v4 := Try.zeroValue4
  t5 := Try.underlying5
  a5 := Try.isAgg5
  z5 := Try.sizeOf5
  v5 := Try.zeroValue5
  t9 := Try.underlying9
  a9 := Try.isAgg9
  z9 := Try.sizeOf9
  v9 := Try.zeroValue9
  t22 := Try.underlying65
  a22 := Try.isAgg65
  z22 := Try.sizeOf65
  v22 := Try.zeroValue65
  t25 := Try.underlying75
  a25 := Try.isAgg75
  z25 := Try.sizeOf75
  v25 := Try.zeroValue75
  t39 := Try.underlying78
  a39 := Try.isAgg78
  z39 := Try.sizeOf78
  v39 := Try.zeroValue78
  t45 := Try.underlying80
  a45 := Try.isAgg80
  z45 := Try.sizeOf80
  v45 := Try.zeroValue80
  t46 := Try.underlying81
  a46 := Try.isAgg81
  z46 := Try.sizeOf81
  v46 := Try.zeroValue81
  t50 := Try.underlying85
  a50 := Try.isAgg85
  z50 := Try.sizeOf85
  v50 := Try.zeroValue85
  t53 := Try.underlying88
  a53 := Try.isAgg88
  z53 := Try.sizeOf88
  v53 := Try.zeroValue88
  t55 := Try.underlying90
  a55 := Try.isAgg90
  z55 := Try.sizeOf90
  v55 := Try.zeroValue90
  t66 := Try.underlying91
  a66 := Try.isAgg91
  z66 := Try.sizeOf91
  v66 := Try.zeroValue91
  t70 := Try.underlying95
  a70 := Try.isAgg95
  z70 := Try.sizeOf95
  v70 := Try.zeroValue95
  t76 := Try.underlying97
  a76 := Try.isAgg97
  z76 := Try.sizeOf97
  v76 := Try.zeroValue97
  t77 := Try.underlying98
  a77 := Try.isAgg98
  z77 := Try.sizeOf98
  v77 := Try.zeroValue98
abbrev LinkR := Int × Int × Int
def encL (x : LinkR) : List Value := [.int .i64 x.1, .int .i64 x.2.1, .int .i64 x.2.2]
def cmpI (x y : Int) : Int := if x < y then -1 else if x > y then 1 else 0
def cmpL (x y : LinkR) : Int := if cmpI x.1 y.1 ≠ 0 then cmpI x.1 y.1 else cmpI x.2.1 y.2.1
def ltL (x y : LinkR) : Prop := x.1 < y.1 ∨ (x.1 = y.1 ∧ x.2.1 < y.2.1)
theorem ltOf_cmpL (x y : LinkR) : ltOf cmpL x y = true ↔ ltL x y := by
  unfold ltOf cmpL cmpI ltL
  rw [decide_eq_true_eq]
  by_cases h1 : x.1 < y.1
  · simp [h1]
  · by_cases h2 : x.1 > y.1
    · simp [h1, h2]; omega
    · have h3 : x.1 = y.1 := by omega
      by_cases h4 : x.2.1 < y.2.1
      · simp [h3, h4]
      · by_cases h5 : x.2.1 > y.2.1 <;> simp [h3, h4, h5]
theorem swoL : Go.Sort.SWO (ltOf cmpL) where
  irrefl x := by
    rw [Bool.eq_false_iff]
    intro h
    have := (ltOf_cmpL x x).1 h
    unfold ltL at this
    omega
  trans x y z h1 h2 := by
    rw [ltOf_cmpL] at *
    unfold ltL at *
    omega
  ntrans x y z h1 h2 := by
    rw [Bool.eq_false_iff] at *
    intro h3
    have h1 : ¬ ltL x y := fun h => h1 ((ltOf_cmpL x y).2 h)
    have h2 : ¬ ltL y z := fun h => h2 ((ltOf_cmpL y z).2 h)
    have h3 := (ltOf_cmpL x z).1 h3
    unfold ltL at *
    omega
theorem Compare_walk {x y : Int} {w : World} {K : Value → World → Prop} (hK : K (.int .i64 (cmpI x y)) w) : CallR Try.prog fn_cmp_Compare_int #[.int .i64 x, .int .i64 y] w K := by
  refine cmp_Compare_int_sound _ _ _ _ ?_
  refine cmp_isNaN_int_sound _ _ _ (mBool_mk ?_)
  refine cmp_isNaN_int_sound _ _ _ (mBool_mk ?_)
  refine br (fun h => by simp at h) (fun _ => ?_)
  refine br (fun h => by simp at h) (fun _ => ?_)
  unfold cmpI at hK
  refine br (fun h => ?_) (fun h => ?_)
  · have h : x < y := by simpa using h
    rw [if_pos h] at hK; exact hK
  · have h : ¬ x < y := by simpa using h
    rw [if_neg h] at hK
    refine br (fun h => ?_) (fun h => ?_)
    · have h : x > y := by simpa using h
      rw [if_pos h] at hK; exact hK
    · have h : ¬ x > y := by simpa using h
      rw [if_neg h] at hK; exact hK
theorem Or_walk {x y : Int} {b : Nat} {fz : Nat × Nat} {w : World} {K : Value → World → Prop} (hb : w.heap[b]? = some (.cells #[.int .i64 x, .int .i64 y] 3 fz)) (hK : K (.int .i64 (if x ≠ 0 then x else y)) w) :
    CallR Try.prog fn_cmp_Or_int #[.slice (some ⟨b, 0, none⟩) 2 2] w K := by
  have hc : ∀ i v, (#[.int .i64 x, .int .i64 y] : Array Value)[i]? = some v → w.cell? ⟨b, i, none⟩ = some v := fun i v h => by rw [cell_blk hb]; exact h
  refine cmp_Or_int_sound _ _ _ _ _ ?_
  refine wLoop (fun k s w' => w' = w ∧ ∃ i : Nat, k + i = 2 ∧ s = (0, some ⟨b, 0, none⟩, 2, 2, ((2 : Nat) : Int), (i : Int)) ∧ (1 ≤ i → x = 0) ∧ (2 ≤ i → y = 0)) ⟨2, rfl, 0, rfl, rfl, fun h => by omega, fun h => by omega⟩ ?_
  rintro k s w' ⟨rfl, i, hk, rfl, h1, h2⟩
  refine br (fun h => ?_) (fun h => ?_)
  · have hi : i < 2 := by simp at h; omega
    have i01 : i = 0 ∨ i = 1 := by omega
    unfold IX
    refine ⟨⟨b, 0, none⟩, rfl, (show (0 : Int) ≤ (i : Int) by omega), (show (i : Int) < ((2 : Nat) : Int) by omega), ?_⟩
    have e : (⟨b, 0, none⟩ : Addr).add ((i : Int).toNat * 1) = ⟨b, i, none⟩ := by rw [Addr.add_mk]; simp
    rw [e]
    rcases i01 with rfl | rfl
    · refine ldI (hc 0 _ rfl) ?_
      refine br (fun h => ?_) (fun h => ?_)
      · have h : x ≠ 0 := by simpa using h
        rw [if_pos h] at hK; exact hK
      · have h : x = 0 := by simpa using h
        exact ⟨1, by omega, rfl, 1, rfl, rfl, fun _ => h, fun h => by omega⟩
    · refine ldI (hc 1 _ rfl) ?_
      have hx := h1 (Nat.le_refl _)
      rw [if_neg (by omega)] at hK
      refine br (fun h => hK) (fun h => ?_)
      have h : y = 0 := by simpa using h
      exact ⟨0, by omega, rfl, 2, rfl, rfl, fun _ => hx, fun _ => h⟩
  · have hi : 2 ≤ i := by simp at h; omega
    have hx := h1 (by omega)
    have hy := h2 hi
    rw [if_neg (by omega), hy] at hK
    exact hK

open Go.Sort in
/-- The function that compares two links: what it tells, what it lays. -/
theorem Links1_walk (x y : LinkR) (W : World) : Calls Try.prog fn_net_Net_Links_1 #[.agg (encL x).toArray, .agg (encL y).toArray] W fun e w' => e = .returned (.int .i64 (cmpL x y)) ∧ ∃ q os', w' = grow (W.drewN q) os' := by
  have h : CallR Try.prog fn_net_Net_Links_1 #[.agg #[.int .i64 x.1, .int .i64 x.2.1, .int .i64 x.2.2], .agg #[.int .i64 y.1, .int .i64 y.2.1, .int .i64 y.2.2]] W fun v w' => v = .int .i64 (cmpL x y) ∧ ∃ q os', w' = grow (W.drewN q) os' := by
    refine net_Net_Links_1_sound _ _ _ _ _ _ _ _ ?_
    refine alx (alx (lwx ?_))
    have hs : (W.alloc (.cells #[.int .i64 x.1, .int .i64 x.2.1, .int .i64 x.2.2] 69)).heap.size = W.heap.size + 1 := by simp
    have hA : ((W.alloc (.cells #[.int .i64 x.1, .int .i64 x.2.1, .int .i64 x.2.2] 69)).alloc (.cells #[.int .i64 y.1, .int .i64 y.2.1, .int .i64 y.2.2] 69)).drew.heap[W.heap.size]? = some (.cells #[.int .i64 x.1, .int .i64 x.2.1, .int .i64 x.2.2] 69) := by
      show ((W.alloc _).alloc _).heap[W.heap.size]? = _
      rw [RowKit.Below.heap_alloc _ _ _ (by rw [hs]; omega), heap_alloc_new]
    have hB : ((W.alloc (.cells #[.int .i64 x.1, .int .i64 x.2.1, .int .i64 x.2.2] 69)).alloc (.cells #[.int .i64 y.1, .int .i64 y.2.1, .int .i64 y.2.2] 69)).drew.heap[(W.alloc (.cells #[.int .i64 x.1, .int .i64 x.2.1, .int .i64 x.2.2] 69)).heap.size]? = some (.cells #[.int .i64 y.1, .int .i64 y.2.1, .int .i64 y.2.2] 69) := heap_alloc_new _ _
    have cA : ∀ i v, (#[.int .i64 x.1, .int .i64 x.2.1, .int .i64 x.2.2] : Array Value)[i]? = some v → World.cell? _ ⟨W.heap.size, i, none⟩ = some v := fun i v h => by rw [cell_blk hA]; exact h
    have cB : ∀ i v, (#[.int .i64 y.1, .int .i64 y.2.1, .int .i64 y.2.2] : Array Value)[i]? = some v → World.cell? _ ⟨(W.alloc (.cells #[.int .i64 x.1, .int .i64 x.2.1, .int .i64 x.2.2] 69)).heap.size, i, none⟩ = some v := fun i v h => by rw [cell_blk hB]; exact h
    refine ldI (cA 0 _ rfl) (ldI (cB 0 _ rfl) (ldI (cA 1 _ rfl) (ldI (cB 1 _ rfl) ?_)))
    refine Compare_walk (mInt_mk ⟨cB 1 _ rfl, cA 1 _ rfl, ?_⟩)
    refine Compare_walk (mInt_mk (alx ?_))
    refine Or_walk (x := cmpI x.1 y.1) (y := cmpI x.2.1 y.2.1) (heap_alloc_new _ _) (mInt_mk ⟨rfl, 1, #[.cells #[.int .i64 x.1, .int .i64 x.2.1, .int .i64 x.2.2] 69, .cells #[.int .i64 y.1, .int .i64 y.2.1, .int .i64 y.2.2] 69, .cells #[.int .i64 (cmpI x.1 y.1), .int .i64 (cmpI x.2.1 y.2.1)] 3], ?_⟩)
    rw [alloc_eq_grow, alloc_eq_grow, alloc_eq_grow]
    show grow (grow (grow W.drew _) _) _ = _
    rw [grow_grow, grow_grow]
    rfl
  refine (CallR_calls h).mono fun e w' h => ?_
  obtain ⟨v, he, rfl, h⟩ := h
  exact ⟨he, h⟩

def srtL (s d : List LinkR) : Prop := d.Perm s ∧ d.Pairwise fun x y => ¬ ltL y x
open Go.Sort in
theorem sort_links : SortConK Try.prog fn_slices_SortFunc_s_net_Link_net_Link [.func (.func fn_net_Net_Links_1) #[] #[]] encL 3 srtL := fun blk off cap ss w hH hb hl => by
  have eg : ∀ args w, (callFunc fn_net_Net_Links_1 args).run Try.prog w = .ok (.enter fn_net_Net_Links_1 args) w := enters_of Try.func36 (by kernel_rfl) rfl
  have h := AnyQ.slices_SortFunc sortLinks 3 Try.isAgg69 Try.sizeOf69 encL (fun _ => rfl) (fun x v hv => by simp [encL] at hv; rcases hv with rfl | rfl | rfl <;> rfl) cmpL swoL fn_net_Net_Links_1 #[] blk off cap ss.toArray w eg
    (fun _ _ _ _ x y => Links1_walk x y _) hH hb (by simpa using hl)
  refine h.mono ?_
  rintro e w' ⟨he, d', n, os, hp, hs, hw⟩
  refine ⟨he, n, os, d'.toList, ⟨?_, ?_⟩, by rw [hw]; rfl⟩
  · have h3 := hp.2.2
    have hsz : d'.size = ss.length := by simpa using hp.1
    have e1 : d'.extract 0 ss.toArray.size = d' := by
      rw [Array.extract_eq_self_of_le (by simp [hsz])]
    have e2 : ss.toArray.extract 0 ss.toArray.size = ss.toArray := Array.extract_size
    rw [e1, e2] at h3
    exact h3
  · have hsz : d'.size = ss.length := by simpa using hp.1
    rw [List.pairwise_iff_getElem]
    intro i j hi hj hij
    have hi' : i < d'.size := by simpa using hi
    have hj' : j < d'.size := by simpa using hj
    have h4 := hs i j (Nat.zero_le _) hij (by simp; omega)
    rw [getElem!_pos d' i hi', getElem!_pos d' j hj'] at h4
    intro hlt
    have := (ltOf_cmpL _ _).2 hlt
    simp only [Array.getElem_toList] at this
    rw [this] at h4
    cases h4

theorem sortF_nothing {w : World} {x : Option Addr} {c : Nat} {f : Value} {K : Value → World → Prop} (hK : K (.tuple #[]) w) : CallR Try.prog fn_slices_SortFunc_s_net_Link_net_Link #[.slice x 0 c, f] w K := by
  refine slices_SortFunc_s_net_Link_net_Link_sound _ _ _ _ _ _ ?_
  unfold slices_SortFunc_s_net_Link_net_Link_b0
  rw [show IntKind.wrap .u64 ((0 : Nat) : Int) = 0 by decide]
  refine math_bits_Len_sound _ _ _ (math_bits_Len64_sound _ _ _ ?_)
  refine br (fun h => by simp at h) (fun _ => ?_)
  refine br (fun h => by simp at h) (fun _ => ?_)
  refine br (fun h => by simp at h) (fun _ => ?_)
  unfold SIX
  refine ⟨0, by decide, by kernel_rfl, ?_⟩
  refine mInt_mk (mInt_mk ?_)
  refine slices_pdqsortCmpFunc_net_Link_sound _ _ _ _ _ _ _ _ _ ?_
  refine wLoop (fun k x' w' => x' = (x, 0, c, 0, 0, IntKind.wrap .i64 (0 + IntKind.wrap .i64 (UInt8.toNat 0 : Int)), f, true, true) ∧ K (.tuple #[]) w') ⟨0, rfl, hK⟩ ?_
  rintro k x' w' ⟨rfl, hK⟩
  refine br (fun _ => ?_) (fun h => absurd (show decide (IntKind.wrap .i64 ((0 : Int) - 0) ≤ 12) = false from h) (by decide))
  refine slices_insertionSortCmpFunc_net_Link_sound _ _ _ _ _ _ _ _ ?_
  refine wLoop (fun k x'' w' => x'' = (x, 0, c, 0, 0, f, IntKind.wrap .i64 (0 + 1)) ∧ K (.tuple #[]) w') ⟨0, rfl, hK⟩ ?_
  rintro k x'' w' ⟨rfl, hK⟩
  refine br (fun h => absurd (show decide (IntKind.wrap .i64 ((0 : Int) + 1) < 0) = true from h) (by decide)) (fun _ => ?_)
  exact mTup_mk (mNil_mk (mTup_mk (mNil_mk hK)))

def linkOf (e : (Int × Int) × Row) : LinkR := (e.1.1, e.1.2, (e.2.2.length : Int))
def linkV (e : (Int × Int) × Value) : LinkR := (e.1.1, e.1.2, (vlen e.2 : Int))
theorem elem_link : ElemTy Try.prog 65 69 3 24 := elemTy_of (by kernel_rfl) (by kernel_rfl)
theorem encL_len (x : LinkR) : (encL x).length = 3 := rfl
theorem encL_one (l : List LinkR) : ∀ u ∈ l.flatMap encL, u.oneCell' = true := by
  intro u hu
  obtain ⟨x, _, hx⟩ := List.mem_flatMap.1 hu
  simp [encL] at hx
  rcases hx with rfl | rfl | rfl <;> rfl
theorem heads_links {w : World} {l : Bags} (h : (bagsO l).holds w) : (l.map fun e => (e.1, e.2.1)).map linkV = l.map linkOf := by
  rw [List.map_map]
  apply List.map_congr_left
  intro e he
  have h3 : (rowO e.2).holds w := h _ (List.mem_map.2 ⟨e, he, rfl⟩)
  have h4 : SliceAt w 22 1 e.2.1 (e.2.2.map (·.1)) := h3 _ (List.mem_cons_self ..)
  obtain ⟨a, n, c, h5, h6, _⟩ := slice_of h4
  simp only [Function.comp_apply, linkV, linkOf]
  rw [h5]
  have : n = e.2.2.length := by simpa using h6
  simp [vlen, this]

section
variable {w0 w : World} {F : List Nat} {L R : List Own}
theorem Links_spec {nb bm : Nat} {nd bd now : Int} {l : Bags} (hA : Has w [netO nb bm nd bd now l]) (hl : l.length ≤ 1000000) :
    CallS Try.prog fn_net_Net_Links #[.pointer (some ⟨nb, 0, none⟩)] w [netO nb bm nd bd now l] fun r _ A =>
      ∃ a n c d, r = .slice a n c ∧ srtL (l.map linkOf) d ∧ A = [sliceO 69 3 (.slice a n c) (d.flatMap encL), netO nb bm nd bd now l] := by
  refine CallS_intro hA fun H => net_Net_Links_sound _ _ _ ?_
  have H := H.netOpen
  refine nn ?_
  refine wM H (hK := ?_)
  have hhl := heads_links (H.has.all (bagsO l) (by simp))
  refine range_own map_pair (i := 1) H rfl fun w1 r H _ => ?_
  have H := H.nothing 69 3 none
  refine wLoop (fun k s w' => ∃ (o : List LinkR) (oa : Option Addr) (on oc : Nat) (rest : List ((Int × Int) × Value)), k = rest.length ∧ s = (oa, on, oc, .pointer (some ⟨r, 0, none⟩)) ∧
    (o ++ rest.map linkV).Perm (l.map linkOf) ∧ o.length + rest.length ≤ l.length ∧
    St w (fps [netO nb bm nd bd now l]) w' [sliceO 69 3 (.slice oa on oc) (o.flatMap encL), netP nb bm nd bd now, rangeO pairV bm r (l.map fun e => (e.1, e.2.1)) rest, bagsO l]) ?_ ?_
  · exact ⟨_, [], none, 0, 0, (l.map fun e : (Int × Int) × Row => (e.1, e.2.1)), rfl, rfl, by rw [hhl]; exact .refl _, by simp, H⟩
  clear H
  rintro k s w1 ⟨o, oa, on, oc, rest, rfl, rfl, hperm, hlen, H⟩
  refine next_own (i := 2) H rfl (fun hnil w1 H _ => ?_) (fun k v hr hlk w1 H _ hent => ?_)
  · refine mTup_mk (mNth_mk rfl (mBool_mk (br (fun h => by cases h) (fun _ => ?_))))
    subst hnil
    have hperm : o.Perm (l.map linkOf) := by simpa using hperm
    have hon : on = o.length := by
      obtain ⟨_, _, _, he, h1, _⟩ := (H.get (i := 0) rfl : SliceAt _ 69 3 _ _)
      cases he
      rw [flat_length encL_len] at h1
      omega
    have fin : ∀ w' d, srtL o d → St w (fps [netO nb bm nd bd now l]) w' [sliceO 69 3 (.slice oa on oc) (d.flatMap encL), netP nb bm nd bd now, rangeO pairV bm r (l.map fun e => (e.1, e.2.1)) [], bagsO l] →
        ∃ A', (∃ a n c d, (.slice oa on oc : Value) = .slice a n c ∧ srtL (l.map linkOf) d ∧ A' = [sliceO 69 3 (.slice a n c) (d.flatMap encL), netO nb bm nd bd now l]) ∧ St w (fps [netO nb bm nd bd now l]) w' A' := by
      intro w' d hd H
      have H := range_done H (i := 2) rfl
      refine ⟨_, ⟨oa, on, oc, d, rfl, ⟨hd.1.trans hperm, hd.2⟩, rfl⟩, ?_⟩
      have H2 : St w (fps [netO nb bm nd bd now l]) w' (pt nb (.cells #[.int .i64 nd, .int .i64 bd, .int .i64 now, .map (some bm)] 49) :: bagsM bm l :: bagsO l :: [sliceO 69 3 (.slice oa on oc) (d.flatMap encL)]) :=
        H.perm ((List.perm_append_comm (l₁ := [sliceO 69 3 (.slice oa on oc) (d.flatMap encL)]) (l₂ := [netP nb bm nd bd now, bagsM bm l, bagsO l])))
      exact H2.netClose.front (sliceO 69 3 (.slice oa on oc) (d.flatMap encL))
    by_cases ho : o = []
    · subst ho
      have : on = 0 := hon
      subst this
      refine sortF_nothing (mTup_mk (mNil_mk (fin _ [] ⟨.refl _, .nil⟩ ?_)))
      exact H
    · refine sort_ownK (k := 3) (enc := encL) (srt := srtL) (fun _ => rfl) (by decide) sort_links (fun s d h => h.1.length_eq) H ho (by omega) fun w2 d hd H _ => ?_
      exact mTup_mk (mNil_mk (fin _ d hd H))
  · refine mTup_mk (mNth_mk rfl (mBool_mk (br (fun _ => ?_) (fun h => by cases h))))
    refine rRun_intro hent (mTup_mk (mNth_mk rfl (mAgg_mk (mCons_mk (mInt_mk (mCons_mk (mInt_mk (mNil_mk (mTup_mk (mNth_mk rfl ?_))))))))))
    have hpk := perm_aget linkV hr
    have hdl := adel_length hr
    rw [aget_map (fun r : Row => r.1)] at hlk
    cases hg : aget l k with
    | none => rw [hg] at hlk; cases hlk
    | some x =>
      rw [hg] at hlk
      simp only [Option.map_some, Option.some.injEq] at hlk
      have hrow := row_slice H (l := l) (by simp) k
      unfold row at hrow
      rw [hg] at hrow
      obtain ⟨a, m, c, h1, h2, h3⟩ := hrow
      simp only [Option.getD_some] at h1 h2
      rw [hlk] at h1
      subst h1
      refine mSlice_mk ?_
      refine wAL H fun p1 w2 H => ?_
      have H := H.front (pt p1 (.cells #[.int .i64 0, .int .i64 0] 52))
      repeat (first | refine nn ?_ | refine wI H (hK := ?_) | refine wP H (hK := ?_) | refine wM H (hK := ?_) | refine wSl H (hK := ?_) | refine wB H (hK := ?_) | refine wS H (hK := ?_) | refine wEq ?_ | refine wC H (hK := ?_) | (refine wLW H ?_; intro w1 H) | (refine wST H (hK := ?_); intro w1 H _) | refine mSlice_mk ?_ | refine mInt_mk ?_ | refine mBool_mk ?_ | refine mTup_mk ?_ | refine mCons_mk ?_ | refine mNil_mk ?_ | refine mAgg_mk ?_ | refine mPtr_mk ?_ | refine mStr_mk ?_)
      refine wAL H fun b w2 H => ?_
      have H : St w (fps [netO nb bm nd bd now l]) w2 (pt b (.cells #[.int .i64 k.1, .int .i64 k.2, .int .i64 (m : Int)] 69) :: sliceO 69 3 (.slice oa on oc) (o.flatMap encL) :: netP nb bm nd bd now :: rangeO pairV bm r (l.map fun e => (e.1, e.2.1)) (adel rest k) :: bagsO l :: [pt p1 (.cells #[.int .i64 k.1, .int .i64 k.2] 52)]) :=
        H.perm (List.Perm.cons _ (List.perm_append_comm (l₁ := [_]) (l₂ := [_, _, _, _])))
      have hsrc : Reads w2 3 (.slice (some ⟨b, 0, none⟩) 1 1) (encL (linkV (k, .slice a m c))) := by
        refine ⟨_, _, _, rfl, rfl, Nat.le_refl _, .inr ⟨_, rfl, fun j hj => ?_⟩⟩
        rw [Addr.add_mk, Nat.zero_add, cell_blk (H.blk (i := 0) rfl)]
        have hj : j = 0 ∨ j = 1 ∨ j = 2 := by
          have : j < 3 := hj
          omega
        rcases hj with rfl | rfl | rfl <;> rfl
      obtain ⟨q, hq, hs⟩ := hsrc.src (P := Try.prog) (tx := 65) elem_link.under (by simpa using encL_one [linkV (k, .slice a m c)])
      have ho : (o.flatMap encL).length = o.length * 3 := flat_length encL_len o
      refine append_own (t := 65) (n := q) elem_link (i := 1) H rfl hs (by rw [ho]; simp [encL]; omega) (by decide) fun v' w4 H _ _ => ?_
      obtain ⟨a', len, cap, rfl, _⟩ := (H.get (i := 1) rfl : SliceAt _ _ _ _ _)
      refine mSlice_mk ?_
      have e : o.flatMap encL ++ encL (linkV (k, .slice a m c)) = (o ++ [linkV (k, .slice a m c)]).flatMap encL := by simp
      rw [e] at H
      have H := (H.tail).left (L := [_, _, _, _])
      refine ⟨_, ?_, o ++ [linkV (k, .slice a m c)], a', len, cap, adel rest k, rfl, rfl, ?_, ?_, H⟩
      · omega
      · rw [List.append_assoc]
        exact (List.Perm.append_left o hpk.symm).trans hperm
      · simp; omega
end
end Go.Proofs.Ytienifnpacoahaa
