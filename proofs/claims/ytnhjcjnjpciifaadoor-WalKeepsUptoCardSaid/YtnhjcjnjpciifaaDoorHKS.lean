/- The contract of slices.Sort at []string (the kit's), laid at this program; lists sorted. -/
import Derived.Test.YtnhjcjnjpciifaaDoorHKA
import Derived.Shelf.Sort.Plain
import Derived.Test.YtnhjcjnjpciifaaDoorShSorts
namespace Go.Proofs.YtnhjcjnjpciifaaDoor
open Go.Sh Go.Shelf
def sortStrings_ren : Go.Shelf.Ren := ⟨fun | 190 => 68 | 125 => 74 | 258 => 87 | 128 => 96 | 129 => 97 | 302 => 109 | 303 => 110 | 304 => 111 | 305 => 112 | 306 => 113 | 307 => 114 | 308 => 115 | 309 => 116 | 310 => 117 | 333 => 130 | 329 => 119 | 330 => 120 | 334 => 131 | 335 => 132 | 336 => 56 | 344 => 138 | n => n, fun | 31 => 91 | 9 => 9 | 3 => 3 | 46 => 118 | 0 => 0 | 51 => 124 | 53 => 25 | 4 => 4 | 183 => 133 | 182 => 132 | 131 => 137 | 5 => 5 | 218 => 158 | 222 => 162 | 228 => 176 | 229 => 177 | n => n, fun | n => n⟩
theorem sortStrings : Go.Proofs.Lays.n190 Tryd.prog sortStrings_ren where
  mixed := by kernel_rfl
  f125 := Tryd.func74.trans (congrArg some (by kernel_rfl))
  f128 := Tryd.func96.trans (congrArg some (by kernel_rfl))
  f129 := Tryd.func97.trans (congrArg some (by kernel_rfl))
  f190 := Tryd.func68.trans (congrArg some (by kernel_rfl))
  f258 := Tryd.func87.trans (congrArg some (by kernel_rfl))
  f302 := Tryd.func109.trans (congrArg some (by kernel_rfl))
  f303 := Tryd.func110.trans (congrArg some (by kernel_rfl))
  f304 := Tryd.func111.trans (congrArg some (by kernel_rfl))
  f305 := Tryd.func112.trans (congrArg some (by kernel_rfl))
  f306 := Tryd.func113.trans (congrArg some (by kernel_rfl))
  f307 := Tryd.func114.trans (congrArg some (by kernel_rfl))
  f308 := Tryd.func115.trans (congrArg some (by kernel_rfl))
  f309 := Tryd.func116.trans (congrArg some (by kernel_rfl))
  f310 := Tryd.func117.trans (congrArg some (by kernel_rfl))
  f329 := Tryd.func119.trans (congrArg some (by kernel_rfl))
  f330 := Tryd.func120.trans (congrArg some (by kernel_rfl))
  f333 := Tryd.func130.trans (congrArg some (by kernel_rfl))
  f334 := Tryd.func131.trans (congrArg some (by kernel_rfl))
  f335 := Tryd.func132.trans (congrArg some (by kernel_rfl))
  f336 := Tryd.func56.trans (congrArg some (by kernel_rfl))
  f344 := Tryd.func138.trans (congrArg some (by kernel_rfl))
  t0 := Tryd.underlying0
  a0 := Tryd.isAgg0
  z0 := Tryd.sizeOf0
  v0 := Tryd.zeroValue0
  t3 := Tryd.underlying3
  a3 := Tryd.isAgg3
  z3 := Tryd.sizeOf3
  v3 := Tryd.zeroValue3
  t4 := Tryd.underlying4
  a4 := Tryd.isAgg4
  z4 := Tryd.sizeOf4
  v4 := Tryd.zeroValue4
  t5 := Tryd.underlying5
  a5 := Tryd.isAgg5
  z5 := Tryd.sizeOf5
  v5 := Tryd.zeroValue5
  t9 := Tryd.underlying9
  a9 := Tryd.isAgg9
  z9 := Tryd.sizeOf9
  v9 := Tryd.zeroValue9
  t31 := Tryd.underlying91
  a31 := Tryd.isAgg91
  z31 := Tryd.sizeOf91
  v31 := Tryd.zeroValue91
  t46 := Tryd.underlying118
  a46 := Tryd.isAgg118
  z46 := Tryd.sizeOf118
  v46 := Tryd.zeroValue118
  t51 := Tryd.underlying124
  a51 := Tryd.isAgg124
  z51 := Tryd.sizeOf124
  v51 := Tryd.zeroValue124
  t53 := Tryd.underlying25
  a53 := Tryd.isAgg25
  z53 := Tryd.sizeOf25
  v53 := Tryd.zeroValue25
  t131 := Tryd.underlying137
  a131 := Tryd.isAgg137
  z131 := Tryd.sizeOf137
  v131 := Tryd.zeroValue137
  t182 := Tryd.underlying132
  a182 := Tryd.isAgg132
  z182 := Tryd.sizeOf132
  v182 := Tryd.zeroValue132
  t183 := Tryd.underlying133
  a183 := Tryd.isAgg133
  z183 := Tryd.sizeOf133
  v183 := Tryd.zeroValue133
  t218 := Tryd.underlying158
  a218 := Tryd.isAgg158
  z218 := Tryd.sizeOf158
  v218 := Tryd.zeroValue158
  t222 := Tryd.underlying162
  a222 := Tryd.isAgg162
  z222 := Tryd.sizeOf162
  v222 := Tryd.zeroValue162
  t228 := Tryd.underlying176
  a228 := Tryd.isAgg176
  z228 := Tryd.sizeOf176
  v228 := Tryd.zeroValue176
  t229 := Tryd.underlying177
  a229 := Tryd.isAgg177
  z229 := Tryd.sizeOf177
  v229 := Tryd.zeroValue177
open Go.Sort in
theorem sort_con : SortCon Tryd.prog fn_slices_Sort_s_string_string [] encStr (fun s d => d = s.mergeSort fun x y => decide (x ≤ y)) := fun blk off cap ss w hH hb hl =>
  (Any.slices_Sort_string sortStrings blk off cap ss w hH hb hl).mono fun _ _ ⟨he, n, os, hw⟩ => ⟨he, n, os, _, rfl, hw⟩
end Go.Proofs.YtnhjcjnjpciifaaDoor
