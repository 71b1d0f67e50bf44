/- A contract of the library's, taken at this program (printed by wip/tools/lay.py). -/
import Derived.Test.YtbhndnjlplibmaaDoorBase
import Derived.Shelf.SlSortCmp.WholeK
namespace Go.Proofs.YtbhndnjlplibmaaDoor
open Go.RowKit Go.Shelf

def sortBal_ren : Go.Shelf.Ren := ⟨fun | 6 => 106 | 15 => 131 | 14 => 130 | 28 => 157 | 29 => 158 | 20 => 149 | 21 => 150 | 22 => 151 | 23 => 152 | 24 => 153 | 25 => 154 | 26 => 155 | 27 => 156 | 46 => 168 | 47 => 169 | 48 => 170 | 49 => 171 | 50 => 172 | 57 => 175 | n => n, fun | 22 => 58 | 24 => 77 | 25 => 139 | 3 => 3 | 39 => 201 | 0 => 0 | 53 => 224 | 55 => 213 | 4 => 4 | 46 => 217 | 45 => 216 | 50 => 221 | 5 => 5 | 9 => 9 | 66 => 237 | 70 => 241 | 76 => 243 | 77 => 244 | n => n, fun | n => n⟩
theorem sortBal_lays : Go.Proofs.SlLaysF0.n6 Tryd.prog sortBal_ren where
  mixed := by kernel_rfl
  f6 := ⟨ "slices.SortFunc[[]quarterday/api.Balance,quarterday/api.Balance]", by decide, Tryd.func106.trans (congrArg some (by kernel_rfl))⟩
  f14 := ⟨ "slices.pdqsortCmpFunc[quarterday/api.Balance]", by decide, Tryd.func130.trans (congrArg some (by kernel_rfl))⟩
  f15 := Tryd.func131.trans (congrArg some (by kernel_rfl))
  f20 := ⟨ "slices.insertionSortCmpFunc[quarterday/api.Balance]", by decide, Tryd.func149.trans (congrArg some (by kernel_rfl))⟩
  f21 := ⟨ "slices.heapSortCmpFunc[quarterday/api.Balance]", by decide, Tryd.func150.trans (congrArg some (by kernel_rfl))⟩
  f22 := ⟨ "slices.breakPatternsCmpFunc[quarterday/api.Balance]", by decide, Tryd.func151.trans (congrArg some (by kernel_rfl))⟩
  f23 := ⟨ "slices.choosePivotCmpFunc[quarterday/api.Balance]", by decide, Tryd.func152.trans (congrArg some (by kernel_rfl))⟩
  f24 := ⟨ "slices.reverseRangeCmpFunc[quarterday/api.Balance]", by decide, Tryd.func153.trans (congrArg some (by kernel_rfl))⟩
  f25 := ⟨ "slices.partialInsertionSortCmpFunc[quarterday/api.Balance]", by decide, Tryd.func154.trans (congrArg some (by kernel_rfl))⟩
  f26 := ⟨ "slices.partitionEqualCmpFunc[quarterday/api.Balance]", by decide, Tryd.func155.trans (congrArg some (by kernel_rfl))⟩
  f27 := ⟨ "slices.partitionCmpFunc[quarterday/api.Balance]", by decide, Tryd.func156.trans (congrArg some (by kernel_rfl))⟩
  f28 := Tryd.func157.trans (congrArg some (by kernel_rfl))
  f29 := Tryd.func158.trans (congrArg some (by kernel_rfl))
  f46 := ⟨ "slices.siftDownCmpFunc[quarterday/api.Balance]", by decide, Tryd.func168.trans (congrArg some (by kernel_rfl))⟩
  f47 := Tryd.func169.trans (congrArg some (by kernel_rfl))
  f48 := Tryd.func170.trans (congrArg some (by kernel_rfl))
  f49 := ⟨ "slices.medianAdjacentCmpFunc[quarterday/api.Balance]", by decide, Tryd.func171.trans (congrArg some (by kernel_rfl))⟩
  f50 := ⟨ "slices.medianCmpFunc[quarterday/api.Balance]", by decide, Tryd.func172.trans (congrArg some (by kernel_rfl))⟩
  f57 := ⟨ "slices.order2CmpFunc[quarterday/api.Balance]", by decide, Tryd.func175.trans (congrArg some (by kernel_rfl))⟩
  t0 := Tryd.underlying0
  a0 := Tryd.isAgg0
  z0 := Tryd.sizeOf0
  v0 := Tryd.zeroValue0
  t3 := Tryd.underlying3
  a3 := Tryd.isAgg3
  z3 := Tryd.sizeOf3
  v3 := Tryd.zeroValue3
  t4 := Tryd.underlying4
  a4 := Tryd.isAgg4
  z4 := Tryd.sizeOf4
  v4 := Tryd.zeroValue4
  t5 := Tryd.underlying5
  a5 := Tryd.isAgg5
  z5 := Tryd.sizeOf5
  v5 := Tryd.zeroValue5
  t9 := Tryd.underlying9
  a9 := Tryd.isAgg9
  z9 := Tryd.sizeOf9
  v9 := Tryd.zeroValue9
  t22 := Tryd.underlying58
  a22 := Tryd.isAgg58
  z22 := Tryd.sizeOf58
  v22 := Tryd.zeroValue58
  t25 := Tryd.underlying139
  a25 := Tryd.isAgg139
  z25 := Tryd.sizeOf139
  v25 := Tryd.zeroValue139
  t39 := Tryd.underlying201
  a39 := Tryd.isAgg201
  z39 := Tryd.sizeOf201
  v39 := Tryd.zeroValue201
  t45 := Tryd.underlying216
  a45 := Tryd.isAgg216
  z45 := Tryd.sizeOf216
  v45 := Tryd.zeroValue216
  t46 := Tryd.underlying217
  a46 := Tryd.isAgg217
  z46 := Tryd.sizeOf217
  v46 := Tryd.zeroValue217
  t50 := Tryd.underlying221
  a50 := Tryd.isAgg221
  z50 := Tryd.sizeOf221
  v50 := Tryd.zeroValue221
  t53 := Tryd.underlying224
  a53 := Tryd.isAgg224
  z53 := Tryd.sizeOf224
  v53 := Tryd.zeroValue224
  t55 := Tryd.underlying213
  a55 := Tryd.isAgg213
  z55 := Tryd.sizeOf213
  v55 := Tryd.zeroValue213
  t66 := Tryd.underlying237
  a66 := Tryd.isAgg237
  z66 := Tryd.sizeOf237
  v66 := Tryd.zeroValue237
  t70 := Tryd.underlying241
  a70 := Tryd.isAgg241
  z70 := Tryd.sizeOf241
  v70 := Tryd.zeroValue241
  t76 := Tryd.underlying243
  a76 := Tryd.isAgg243
  z76 := Tryd.sizeOf243
  v76 := Tryd.zeroValue243
  t77 := Tryd.underlying244
  a77 := Tryd.isAgg244
  z77 := Tryd.sizeOf244
  v77 := Tryd.zeroValue244
end Go.Proofs.YtbhndnjlplibmaaDoor
