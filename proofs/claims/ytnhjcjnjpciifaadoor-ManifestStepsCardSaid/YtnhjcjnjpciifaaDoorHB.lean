/- Comparing tables; the kit's contract of slices.SortFunc laid at this program. -/
import Derived.Test.YtnhjcjnjpciifaaDoorHA
import Derived.Test.YtnhjcjnjpciifaaDoorShMan
import Derived.Test.YtnhjcjnjpciifaaDoorShManL
import Derived.Test.YtnhjcjnjpciifaaDoorShNum
namespace Go.Proofs.YtnhjcjnjpciifaaDoor
open Go.Sh Go.Shelf
theorem alx {w : World} {o : Obj} {K : Addr → World → Prop} (h : K ⟨w.heap.size, 0, none⟩ (w.alloc o)) : AL w o K := h
theorem lwx {w : World} {K : World → Prop} (h : K w.drew) : LetW w.drew K := h
attribute [local irreducible] rRun LDI LDB LDS LDP LDSl LDM LD Go.Sh.ST AL ALM LetW CallR CallV CallI NN IX SIX Br Req mInt mBool mStr mPtr mSlice mMap mAgg mTup mCons mNil mNth mPA LoopS
def sortTabs_ren : Go.Shelf.Ren := ⟨fun | 6 => 52 | 15 => 74 | 14 => 73 | 28 => 96 | 29 => 97 | 20 => 88 | 21 => 89 | 22 => 90 | 23 => 91 | 24 => 92 | 25 => 93 | 26 => 94 | 27 => 95 | 46 => 118 | 47 => 119 | 48 => 120 | 49 => 121 | 50 => 122 | 57 => 133 | n => n, fun | 22 => 24 | 24 => 38 | 25 => 36 | 3 => 3 | 39 => 118 | 0 => 0 | 53 => 124 | 55 => 25 | 4 => 4 | 46 => 133 | 45 => 132 | 50 => 137 | 5 => 5 | 9 => 9 | 66 => 158 | 70 => 162 | 76 => 176 | 77 => 177 | n => n, fun | n => n⟩
theorem sortTabs : Go.Proofs.SlLaysF0.n6 Tryd.prog sortTabs_ren where
  mixed := by kernel_rfl
  f6 := ⟨"slices.SortFunc[[]glacier/api.Table,glacier/api.Table]", by decide, Tryd.func52.trans (congrArg some (by kernel_rfl))⟩
  f14 := ⟨"slices.pdqsortCmpFunc[glacier/api.Table]", by decide, Tryd.func73.trans (congrArg some (by kernel_rfl))⟩
  f15 := Tryd.func74.trans (congrArg some (by kernel_rfl))
  f20 := ⟨"slices.insertionSortCmpFunc[glacier/api.Table]", by decide, Tryd.func88.trans (congrArg some (by kernel_rfl))⟩
  f21 := ⟨"slices.heapSortCmpFunc[glacier/api.Table]", by decide, Tryd.func89.trans (congrArg some (by kernel_rfl))⟩
  f22 := ⟨"slices.breakPatternsCmpFunc[glacier/api.Table]", by decide, Tryd.func90.trans (congrArg some (by kernel_rfl))⟩
  f23 := ⟨"slices.choosePivotCmpFunc[glacier/api.Table]", by decide, Tryd.func91.trans (congrArg some (by kernel_rfl))⟩
  f24 := ⟨"slices.reverseRangeCmpFunc[glacier/api.Table]", by decide, Tryd.func92.trans (congrArg some (by kernel_rfl))⟩
  f25 := ⟨"slices.partialInsertionSortCmpFunc[glacier/api.Table]", by decide, Tryd.func93.trans (congrArg some (by kernel_rfl))⟩
  f26 := ⟨"slices.partitionEqualCmpFunc[glacier/api.Table]", by decide, Tryd.func94.trans (congrArg some (by kernel_rfl))⟩
  f27 := ⟨"slices.partitionCmpFunc[glacier/api.Table]", by decide, Tryd.func95.trans (congrArg some (by kernel_rfl))⟩
  f28 := Tryd.func96.trans (congrArg some (by kernel_rfl))
  f29 := Tryd.func97.trans (congrArg some (by kernel_rfl))
  f46 := ⟨"slices.siftDownCmpFunc[glacier/api.Table]", by decide, Tryd.func118.trans (congrArg some (by kernel_rfl))⟩
  f47 := Tryd.func119.trans (congrArg some (by kernel_rfl))
  f48 := Tryd.func120.trans (congrArg some (by kernel_rfl))
  f49 := ⟨"slices.medianAdjacentCmpFunc[glacier/api.Table]", by decide, Tryd.func121.trans (congrArg some (by kernel_rfl))⟩
  f50 := ⟨"slices.medianCmpFunc[glacier/api.Table]", by decide, Tryd.func122.trans (congrArg some (by kernel_rfl))⟩
  f57 := ⟨"slices.order2CmpFunc[glacier/api.Table]", by decide, Tryd.func133.trans (congrArg some (by kernel_rfl))⟩
  t0 := Tryd.underlying0
  a0 := Tryd.isAgg0
  z0 := Tryd.sizeOf0
  v0 := Tryd.zeroValue0
  t3 := Tryd.underlying3
  a3 := Tryd.isAgg3
  z3 := Tryd.sizeOf3
  v3 := Tryd.zeroValue3
  t4 := Tryd.underlying4
  a4 := Tryd.isAgg4
  z4 := Tryd.sizeOf4
  v4 := Tryd.zeroValue4
  t5 := Tryd.underlying5
  a5 := Tryd.isAgg5
  z5 := Tryd.sizeOf5
  v5 := Tryd.zeroValue5
  t9 := Tryd.underlying9
  a9 := Tryd.isAgg9
  z9 := Tryd.sizeOf9
  v9 := Tryd.zeroValue9
  t22 := Tryd.underlying24
  a22 := Tryd.isAgg24
  z22 := Tryd.sizeOf24
  v22 := Tryd.zeroValue24
  t25 := Tryd.underlying36
  a25 := Tryd.isAgg36
  z25 := Tryd.sizeOf36
  v25 := Tryd.zeroValue36
  t39 := Tryd.underlying118
  a39 := Tryd.isAgg118
  z39 := Tryd.sizeOf118
  v39 := Tryd.zeroValue118
  t45 := Tryd.underlying132
  a45 := Tryd.isAgg132
  z45 := Tryd.sizeOf132
  v45 := Tryd.zeroValue132
  t46 := Tryd.underlying133
  a46 := Tryd.isAgg133
  z46 := Tryd.sizeOf133
  v46 := Tryd.zeroValue133
  t50 := Tryd.underlying137
  a50 := Tryd.isAgg137
  z50 := Tryd.sizeOf137
  v50 := Tryd.zeroValue137
  t53 := Tryd.underlying124
  a53 := Tryd.isAgg124
  z53 := Tryd.sizeOf124
  v53 := Tryd.zeroValue124
  t55 := Tryd.underlying25
  a55 := Tryd.isAgg25
  z55 := Tryd.sizeOf25
  v55 := Tryd.zeroValue25
  t66 := Tryd.underlying158
  a66 := Tryd.isAgg158
  z66 := Tryd.sizeOf158
  v66 := Tryd.zeroValue158
  t70 := Tryd.underlying162
  a70 := Tryd.isAgg162
  z70 := Tryd.sizeOf162
  v70 := Tryd.zeroValue162
  t76 := Tryd.underlying176
  a76 := Tryd.isAgg176
  z76 := Tryd.sizeOf176
  v76 := Tryd.zeroValue176
  t77 := Tryd.underlying177
  a77 := Tryd.isAgg177
  z77 := Tryd.sizeOf177
  v77 := Tryd.zeroValue177

theorem CompareI_walk {x y : Int} {w : World} {K : Value → World → Prop} (hK : K (.int .i64 (cmpI x y)) w) : CallR Tryd.prog fn_cmp_Compare_int #[.int .i64 x, .int .i64 y] w K := by
  refine cmp_Compare_int_sound _ _ _ _ ?_
  refine cmp_isNaN_int_sound _ _ _ (mBool_mk ?_)
  refine cmp_isNaN_int_sound _ _ _ (mBool_mk ?_)
  refine br (fun h => by simp at h) (fun _ => ?_)
  refine br (fun h => by simp at h) (fun _ => ?_)
  unfold cmpI at hK
  refine br (fun h => ?_) (fun h => ?_)
  · have h : x < y := by simpa using h
    rw [if_pos h] at hK; exact hK
  · have h : ¬ x < y := by simpa using h
    rw [if_neg h] at hK
    refine br (fun h => ?_) (fun h => ?_)
    · have h : x > y := by simpa using h
      rw [if_pos h] at hK; exact hK
    · have h : ¬ x > y := by simpa using h
      rw [if_neg h] at hK; exact hK
theorem CompareS_walk {x y : ByteArray} {w : World} {K : Value → World → Prop} (hK : K (.int .i64 (cmpS x y)) w) : CallR Tryd.prog fn_cmp_Compare_string #[.string x, .string y] w K := by
  refine cmp_Compare_string_sound _ _ _ _ ?_
  refine cmp_isNaN_string_sound _ _ _ (mBool_mk ?_)
  refine cmp_isNaN_string_sound _ _ _ (mBool_mk ?_)
  refine br (fun h => by simp at h) (fun _ => ?_)
  refine br (fun h => by simp at h) (fun _ => ?_)
  rw [less_eq, text_eq]
  rcases cmpS_lt x y with ⟨e, h⟩ | ⟨e, h⟩ | ⟨e, h⟩ <;> rw [e] at hK
  · refine br (fun _ => hK) (fun h1 => ?_)
    simp [h] at h1
  · have h1 : ¬ ltB x y := fun h2 => ltB_irrefl _ (ltB_trans h h2)
    have h2 : x ≠ y := fun h2 => by rw [h2] at h; exact ltB_irrefl _ h
    refine br (fun h3 => by simp [h1] at h3) (fun _ => br (fun _ => hK) (fun h3 => ?_))
    simp [h1, h2] at h3
  · subst h
    refine br (fun h3 => by simp [ltB_irrefl] at h3) (fun _ => br (fun h3 => ?_) (fun _ => hK))
    simp at h3
def orL : List Int → Int
  | [] => 0
  | x :: t => if x ≠ 0 then x else orL t
theorem orL_drop {l : List Int} : ∀ {i : Nat}, (∀ j, j < i → l[j]? = some 0 ∨ l[j]? = none) → orL (l.drop i) = orL l
  | 0, _ => rfl
  | i + 1, h => by
    rw [← orL_drop (l := l) (i := i) fun j hj => h j (by omega)]
    rcases h i (by omega) with h1 | h1
    · obtain ⟨hi, he⟩ := List.getElem?_eq_some_iff.1 h1
      rw [← List.getElem_cons_drop hi, he]; rfl
    · rw [List.drop_of_length_le (by have := List.getElem?_eq_none_iff.1 h1; omega), List.drop_of_length_le (List.getElem?_eq_none_iff.1 h1)]
theorem OrI_walk {l : List Int} {b : Nat} {fz : Nat × Nat} {w : World} {K : Value → World → Prop} (hl : l.length ≤ 1000) (hb : w.heap[b]? = some (.cells (l.map (Value.int .i64)).toArray 3 fz)) (hK : K (.int .i64 (orL l)) w) :
    CallR Tryd.prog fn_cmp_Or_int #[.slice (some ⟨b, 0, none⟩) l.length l.length] w K := by
  refine cmp_Or_int_sound _ _ _ _ _ ?_
  refine wLoop (fun k s w' => w' = w ∧ ∃ i : Nat, k + i = l.length ∧ s = (0, some ⟨b, 0, none⟩, l.length, l.length, (l.length : Int), (i : Int)) ∧ ∀ j, j < i → l[j]? = some 0 ∨ l[j]? = none) ⟨l.length, rfl, 0, by omega, rfl, fun j hj => by omega⟩ ?_
  rintro k s w' ⟨rfl, i, hk, rfl, hz⟩
  refine br (fun h => ?_) (fun h => ?_)
  · have hi : i < l.length := by simp at h; omega
    obtain ⟨x, hx⟩ : ∃ x, l[i]? = some x := ⟨_, List.getElem?_eq_getElem hi⟩
    have hc : w'.cell? ⟨b, i, none⟩ = some (.int .i64 x) := by rw [cell_blk hb]; simp [hx]
    have hwi : IntKind.wrap .i64 ((i : Int) + 1) = ((i + 1 : Nat) : Int) := by rw [wrap_id (by omega) (by omega)]; rfl
    unfold IX
    refine ⟨⟨b, 0, none⟩, rfl, (show (0 : Int) ≤ (i : Int) by omega), (show (i : Int) < (l.length : Int) by omega), ?_⟩
    have e : (⟨b, 0, none⟩ : Addr).add ((i : Int).toNat * 1) = ⟨b, i, none⟩ := by rw [Addr.add_mk]; simp
    rw [e]
    refine ldI hc ?_
    have ed : orL l = orL (l.drop i) := (orL_drop hz).symm
    obtain ⟨hi', he⟩ := List.getElem?_eq_some_iff.1 hx
    rw [← List.getElem_cons_drop hi', he] at ed
    refine br (fun h => ?_) (fun h => ?_)
    · have h : x ≠ 0 := by simpa using h
      have : orL l = x := by rw [ed]; simp [orL, h]
      rw [this] at hK; exact hK
    · have hx0 : x = 0 := by simpa using h
      refine ⟨k - 1, by omega, rfl, i + 1, by omega, by rw [hwi], fun j hj => ?_⟩
      by_cases hji : j = i
      · subst hji; left; rw [hx, hx0]
      · exact hz j (by omega)
  · have hi : l.length ≤ i := by simp at h; omega
    have : orL l = 0 := by rw [← orL_drop hz, List.drop_of_length_le hi]; rfl
    rw [this] at hK; exact hK
theorem OrU_walk {l : List Int} {b : Nat} {fz : Nat × Nat} {w : World} {K : Value → World → Prop} (hl : l.length ≤ 1000) (hb : w.heap[b]? = some (.cells (l.map (Value.int .u64)).toArray 25 fz)) (hK : K (.int .u64 (orL l)) w) :
    CallR Tryd.prog fn_cmp_Or_uint64 #[.slice (some ⟨b, 0, none⟩) l.length l.length] w K := by
  refine cmp_Or_uint64_sound _ _ _ _ _ ?_
  refine wLoop (fun k s w' => w' = w ∧ ∃ i : Nat, k + i = l.length ∧ s = (0, some ⟨b, 0, none⟩, l.length, l.length, (l.length : Int), (i : Int)) ∧ ∀ j, j < i → l[j]? = some 0 ∨ l[j]? = none) ⟨l.length, rfl, 0, by omega, rfl, fun j hj => by omega⟩ ?_
  rintro k s w' ⟨rfl, i, hk, rfl, hz⟩
  refine br (fun h => ?_) (fun h => ?_)
  · have hi : i < l.length := by simp at h; omega
    obtain ⟨x, hx⟩ : ∃ x, l[i]? = some x := ⟨_, List.getElem?_eq_getElem hi⟩
    have hc : w'.cell? ⟨b, i, none⟩ = some (.int .u64 x) := by rw [cell_blk hb]; simp [hx]
    have hwi : IntKind.wrap .i64 ((i : Int) + 1) = ((i + 1 : Nat) : Int) := by rw [wrap_id (by omega) (by omega)]; rfl
    unfold IX
    refine ⟨⟨b, 0, none⟩, rfl, (show (0 : Int) ≤ (i : Int) by omega), (show (i : Int) < (l.length : Int) by omega), ?_⟩
    have e : (⟨b, 0, none⟩ : Addr).add ((i : Int).toNat * 1) = ⟨b, i, none⟩ := by rw [Addr.add_mk]; simp
    rw [e]
    refine ldI hc ?_
    have ed : orL l = orL (l.drop i) := (orL_drop hz).symm
    obtain ⟨hi', he⟩ := List.getElem?_eq_some_iff.1 hx
    rw [← List.getElem_cons_drop hi', he] at ed
    refine br (fun h => ?_) (fun h => ?_)
    · have h : x ≠ 0 := by simpa using h
      have : orL l = x := by rw [ed]; simp [orL, h]
      rw [this] at hK; exact hK
    · have hx0 : x = 0 := by simpa using h
      refine ⟨k - 1, by omega, rfl, i + 1, by omega, by rw [hwi], fun j hj => ?_⟩
      by_cases hji : j = i
      · subst hji; left; rw [hx, hx0]
      · exact hz j (by omega)
  · have hi : l.length ≤ i := by simp at h; omega
    have : orL l = 0 := by rw [← orL_drop hz, List.drop_of_length_le hi]; rfl
    rw [this] at hK; exact hK

open Go.Sort in
/-- The function that compares two tables: what it tells, what it lays. -/
theorem Compare_calls (x y : Tab) (W : World) : Calls Tryd.prog fn_manifest_Compare #[.agg x.cells.toArray, .agg y.cells.toArray] W fun e w' => e = .returned (.int .i64 (cmpT x y)) ∧ ∃ q os', w' = grow (W.drewN q) os' := by
  have h : CallR Tryd.prog fn_manifest_Compare #[.agg #[.int .i64 x.file, .int .i64 x.level, .string x.first, .string x.last, .int .i64 x.size], .agg #[.int .i64 y.file, .int .i64 y.level, .string y.first, .string y.last, .int .i64 y.size]] W fun v w' => v = .int .i64 (cmpT x y) ∧ ∃ q os', w' = grow (W.drewN q) os' := by
    refine manifest_Compare_sound _ _ _ _ _ _ _ _ _ _ _ _ ?_
    refine alx (alx (lwx ?_))
    generalize hoa : (Obj.cells #[.int .i64 x.file, .int .i64 x.level, .string x.first, .string x.last, .int .i64 x.size] 38 : Obj) = oa
    generalize hob : (Obj.cells #[.int .i64 y.file, .int .i64 y.level, .string y.first, .string y.last, .int .i64 y.size] 38 : Obj) = ob
    have hs : (W.alloc oa).heap.size = W.heap.size + 1 := by simp
    have hA : ((W.alloc oa).alloc ob).drew.heap[W.heap.size]? = some oa := by
      show ((W.alloc _).alloc _).heap[W.heap.size]? = _
      rw [RowKit.Below.heap_alloc _ _ _ (by rw [hs]; omega), heap_alloc_new]
    have hB : ((W.alloc oa).alloc ob).drew.heap[(W.alloc oa).heap.size]? = some ob := by
      show ((W.alloc _).alloc _).heap[(W.alloc oa).heap.size]? = _
      rw [heap_alloc_new]
    have hA := hA.trans (congrArg some hoa.symm)
    have hB := hB.trans (congrArg some hob.symm)
    have cA : ∀ i v, (#[.int .i64 x.file, .int .i64 x.level, .string x.first, .string x.last, .int .i64 x.size] : Array Value)[i]? = some v → World.cell? _ ⟨W.heap.size, i, none⟩ = some v := fun i v h => by rw [cell_blk hA]; exact h
    have cB : ∀ i v, (#[.int .i64 y.file, .int .i64 y.level, .string y.first, .string y.last, .int .i64 y.size] : Array Value)[i]? = some v → World.cell? _ ⟨(W.alloc oa).heap.size, i, none⟩ = some v := fun i v h => by rw [cell_blk hB]; exact h
    refine ldI (cA 1 _ rfl) (ldI (cB 1 _ rfl) (ldS (cA 2 _ rfl) (ldS (cB 2 _ rfl) (ldI (cA 0 _ rfl) (ldI (cB 0 _ rfl) ?_)))))
    refine CompareI_walk (mInt_mk ⟨cB 0 _ rfl, cA 0 _ rfl, cB 2 _ rfl, cA 2 _ rfl, ?_⟩)
    refine CompareS_walk (mInt_mk ⟨cB 0 _ rfl, cA 0 _ rfl, ?_⟩)
    refine CompareI_walk (mInt_mk (alx ?_))
    refine OrI_walk (l := [cmpI x.level y.level, cmpS x.first y.first, cmpI x.file y.file]) (by simp) (heap_alloc_new _ _) (mInt_mk ⟨?_, 1, #[oa, ob, .cells #[.int .i64 (cmpI x.level y.level), .int .i64 (cmpS x.first y.first), .int .i64 (cmpI x.file y.file)] 3], ?_⟩)
    · unfold cmpT or3 orL orL orL orL
      split
      · rfl
      · split
        · rfl
        · split
          · rfl
          · rename_i h; simp at h; rw [h]
    · rw [alloc_eq_grow, alloc_eq_grow, alloc_eq_grow]
      show grow (grow (grow W.drew _) _) _ = _
      rw [grow_grow, grow_grow]
      rfl
  refine (CallR_calls h).mono fun e w' h => ?_
  obtain ⟨v, he, rfl, h⟩ := h
  exact ⟨he, h⟩

def srtT (s d : List Tab) : Prop := d.Perm s ∧ d.Pairwise fun x y => ¬ ltT y x
open Go.Sort in
theorem sort_tabs : SortConK Tryd.prog fn_slices_SortFunc_s_api_Table_api_Table [.func (.func fn_manifest_Compare) #[] #[]] Tab.cells 5 srtT := fun blk off cap ss w hH hb hl => by
  have eg : ∀ args w, (callFunc fn_manifest_Compare args).run Tryd.prog w = .ok (.enter fn_manifest_Compare args) w := enters_of Tryd.func11 (by kernel_rfl) rfl
  have h := AnyQ.slices_SortFunc sortTabs 5 Tryd.isAgg38 Tryd.sizeOf38 Tab.cells (fun _ => rfl) (fun x v hv => by simp [Tab.cells] at hv; rcases hv with rfl | rfl | rfl | rfl | rfl <;> rfl) cmpT swoT fn_manifest_Compare #[] blk off cap ss.toArray w eg
    (fun _ _ _ _ x y => Compare_calls x y _) hH hb (by simpa using hl)
  refine h.mono ?_
  rintro e w' ⟨he, d', n, os, hp, hs, hw⟩
  refine ⟨he, n, os, d'.toList, ⟨?_, ?_⟩, by rw [hw]; rfl⟩
  · have h3 := hp.2.2
    have hsz : d'.size = ss.length := by simpa using hp.1
    have e1 : d'.extract 0 ss.toArray.size = d' := by
      rw [Array.extract_eq_self_of_le (by simp [hsz])]
    have e2 : ss.toArray.extract 0 ss.toArray.size = ss.toArray := Array.extract_size
    rw [e1, e2] at h3
    exact h3
  · have hsz : d'.size = ss.length := by simpa using hp.1
    rw [List.pairwise_iff_getElem]
    intro i j hi hj hij
    have hi' : i < d'.size := by simpa using hi
    have hj' : j < d'.size := by simpa using hj
    have h4 := hs i j (Nat.zero_le _) hij (by simp; omega)
    rw [getElem!_pos d' i hi', getElem!_pos d' j hj'] at h4
    intro hlt
    have := (ltOf_cmpT _ _).2 hlt
    simp only [Array.getElem_toList] at this
    rw [this] at h4
    cases h4

theorem sortF_nothing {w : World} {x : Option Addr} {c : Nat} {f : Value} {K : Value → World → Prop} (hK : K (.tuple #[]) w) : CallR Tryd.prog fn_slices_SortFunc_s_api_Table_api_Table #[.slice x 0 c, f] w K := by
  refine slices_SortFunc_s_api_Table_api_Table_sound _ _ _ _ _ _ ?_
  unfold slices_SortFunc_s_api_Table_api_Table_b0
  rw [show IntKind.wrap .u64 ((0 : Nat) : Int) = 0 by decide]
  refine math_bits_Len_sound _ _ _ (math_bits_Len64_sound _ _ _ ?_)
  refine br (fun h => by simp at h) (fun _ => ?_)
  refine br (fun h => by simp at h) (fun _ => ?_)
  refine br (fun h => by simp at h) (fun _ => ?_)
  unfold SIX
  refine ⟨0, by decide, by kernel_rfl, ?_⟩
  refine mInt_mk (mInt_mk ?_)
  refine slices_pdqsortCmpFunc_api_Table_sound _ _ _ _ _ _ _ _ _ ?_
  refine wLoop (fun k x' w' => x' = (x, 0, c, 0, 0, IntKind.wrap .i64 (0 + IntKind.wrap .i64 (UInt8.toNat 0 : Int)), f, true, true) ∧ K (.tuple #[]) w') ⟨0, rfl, hK⟩ ?_
  rintro k x' w' ⟨rfl, hK⟩
  refine br (fun _ => ?_) (fun h => absurd (show decide (IntKind.wrap .i64 ((0 : Int) - 0) ≤ 12) = false from h) (by decide))
  refine slices_insertionSortCmpFunc_api_Table_sound _ _ _ _ _ _ _ _ ?_
  refine wLoop (fun k x'' w' => x'' = (x, 0, c, 0, 0, f, IntKind.wrap .i64 (0 + 1)) ∧ K (.tuple #[]) w') ⟨0, rfl, hK⟩ ?_
  rintro k x'' w' ⟨rfl, hK⟩
  refine br (fun h => absurd (show decide (IntKind.wrap .i64 ((0 : Int) + 1) < 0) = true from h) (by decide)) (fun _ => ?_)
  exact mTup_mk (mNil_mk (mTup_mk (mNil_mk hK)))
end Go.Proofs.YtnhjcjnjpciifaaDoor
