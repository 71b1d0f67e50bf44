/- A contract of the library's, taken at this program (printed by wip/tools/lay.py). -/
import Derived.Test.YtbhndnjlplibmaaDoorBase
import Derived.Shelf.SlSortCmp.InsertionK
namespace Go.Proofs.YtbhndnjlplibmaaDoor
open Go.RowKit Go.Shelf

def insLine_ren : Go.Shelf.Ren := ⟨fun | 20 => 134 | n => n, fun | 24 => 87 | 22 => 79 | 3 => 3 | 25 => 142 | 4 => 4 | 0 => 0 | n => n, fun | n => n⟩
theorem insLine_lays : Go.Proofs.SlLaysF0.n20 Tryd.prog insLine_ren where
  mixed := by kernel_rfl
  f20 := ⟨ "slices.insertionSortCmpFunc[quarterday/api.Line]", by decide, Tryd.func134.trans (congrArg some (by kernel_rfl))⟩
  t0 := Tryd.underlying0
  a0 := Tryd.isAgg0
  z0 := Tryd.sizeOf0
  v0 := Tryd.zeroValue0
  t3 := Tryd.underlying3
  a3 := Tryd.isAgg3
  z3 := Tryd.sizeOf3
  v3 := Tryd.zeroValue3
  t4 := Tryd.underlying4
  a4 := Tryd.isAgg4
  z4 := Tryd.sizeOf4
  v4 := Tryd.zeroValue4
  t22 := Tryd.underlying79
  a22 := Tryd.isAgg79
  z22 := Tryd.sizeOf79
  v22 := Tryd.zeroValue79
  t25 := Tryd.underlying142
  a25 := Tryd.isAgg142
  z25 := Tryd.sizeOf142
  v25 := Tryd.zeroValue142
end Go.Proofs.YtbhndnjlplibmaaDoor
