/- The world of XDoorU meets the three listed variables; what they give a walk. -/
import Derived.Test.YtbhndnjlplibmaaDoorDoorU
import Derived.Test.YtbhndnjlplibmaaDoorTold
namespace Go.Proofs.YtbhndnjlplibmaaDoor.du
open Go.ChangeShapes Go.WideShapes Go.RowKit

def listV : List (String × DataW Unit) := [("unicode/utf8.acceptRanges", Rows.laid_unicode_utf8_acceptRanges), ("errors.errorType", Rows.laid_errors_errorType), ("unicode/utf8.first", Rows.laid_unicode_utf8_first)]
theorem laidU_metV (os : Os) (args : Array Value) : laidMetH Tryd.prog listV ((laidU os).forCall (fun _ _ => 0) ⟨#[], args, []⟩).memory := by
  refine laidMetH_of_parts ?_ (by kernel_rfl)
  have e : (listV.filter fun x => x.2.handleName?.isNone) = listU := by kernel_rfl
  rw [e]
  exact laidU_met os args

theorem doorEt : Tryd.prog.globalNamed "errors.errorType" = some 0 := by kernel_rfl
theorem doorRt : (Tryd.prog.cutTypes.find? (·.1 == "internal/reflectlite.rtype")).map (·.2) = some 178 := by kernel_rfl
theorem doorOne : ((List.range 278).filter fun t => Tryd.prog.rowNamed t [101, 114, 114, 111, 114]) = [25] := by kernel_rfl
theorem doorSize : Tryd.prog.types.size = 278 := by kernel_rfl
theorem handV : (listV.filter fun x => x.2.handleName?.isSome) = [("errors.errorType", Rows.laid_errors_errorType)] := by kernel_rfl
theorem door_of_laidV {W : World} (h : laidMetH Tryd.prog listV W) : Door W := by
  unfold laidMetH at h
  rw [handV] at h
  obtain ⟨name, u, ty, e1, e2, e3, e4, e5⟩ := h.2 _ (List.mem_singleton.2 rfl)
  have en : name = [101, 114, 114, 111, 114] := (Option.some.inj e1).symm
  subst en
  obtain rfl := Option.some.inj (doorRt.symm.trans e2)
  have hm : ty ∈ (List.range 278).filter fun t => Tryd.prog.rowNamed t [101, 114, 114, 111, 114] := List.mem_filter.2 ⟨List.mem_range.2 (by rw [← doorSize]; exact e3), e4⟩
  rw [doorOne] at hm
  obtain rfl := List.mem_singleton.1 hm
  have hh : typeHandle Tryd.prog 25 = .pointer (some ⟨4, 25, none⟩) := by kernel_rfl
  rw [hh] at e5
  have := World.var?_cell doorEt e5 0
  unfold Door
  simpa using this
end Go.Proofs.YtbhndnjlplibmaaDoor.du
