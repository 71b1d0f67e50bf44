/- A contract of the library's, taken at this program (printed by wip/tools/lay.py). -/
import Derived.Test.YtbhndnjlplibmaaBase
import Derived.Shelf.Spec.SlicesGrow
namespace Go.Proofs.Ytbhndnjlplibmaa
open Go.RowKit Go.Shelf

def growBal_ren : Go.Shelf.Ren := ⟨fun | 4 => 60 | n => n, fun | 22 => 39 | 25 => 43 | 3 => 3 | 4 => 4 | 9 => 9 | 20 => 20 | 0 => 0 | n => n, fun | n => n⟩
theorem growBal_lays : Go.Proofs.Lays8.n4 Try.prog growBal_ren where
  mixed := by kernel_rfl
  f4 := ⟨ "slices.Grow[[]quarterday/api.Balance,quarterday/api.Balance]", by decide, Try.func60.trans (congrArg some (by kernel_rfl))⟩
  t0 := Try.underlying0
  a0 := Try.isAgg0
  z0 := Try.sizeOf0
  v0 := Try.zeroValue0
  t3 := Try.underlying3
  a3 := Try.isAgg3
  z3 := Try.sizeOf3
  v3 := Try.zeroValue3
  t4 := Try.underlying4
  a4 := Try.isAgg4
  z4 := Try.sizeOf4
  v4 := Try.zeroValue4
  t9 := Try.underlying9
  a9 := Try.isAgg9
  z9 := Try.sizeOf9
  v9 := Try.zeroValue9
  t20 := Try.underlying20
  a20 := Try.isAgg20
  z20 := Try.sizeOf20
  v20 := Try.zeroValue20
  t22 := Try.underlying39
  a22 := Try.isAgg39
  z22 := Try.sizeOf39
  v22 := Try.zeroValue39
end Go.Proofs.Ytbhndnjlplibmaa
