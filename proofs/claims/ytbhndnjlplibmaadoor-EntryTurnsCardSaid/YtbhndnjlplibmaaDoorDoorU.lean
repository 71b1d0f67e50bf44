/- A world that meets the rows' lists of variables: the tables of unicode/utf8, and errors' own type. -/
import Derived.Test.YtbhndnjlplibmaaDoorBase
import Derived.Test.YtbhndnjlplibmaaDoorRows
import Derived.ChangeSame
import Derived.ChangeVars
import Derived.JoinedOf
import Derived.RowKitTokens
import Derived.LaidLaws
import Derived.LaidHandle
import Derived.Deep.DeepLaidRun
import Derived.Lib.LaidU8
namespace Go.Proofs.YtbhndnjlplibmaaDoor.du
open Go.ChangeShapes Go.WideShapes Go.RowKit

theorem own : ownKnob Tryd.prog.godebug = none := by kernel_rfl
/-- the settled world, three variables' cells laid -/
noncomputable def laidU (os : Os) : World :=
  let w0 := World.holding Tryd.prog os ⟨#[], #[], []⟩
  let put (h : Array Obj) (g : Nat) (cs : Array Value) : Array Obj := h.modify g fun
    | .cells _ t frozen => .cells cs t frozen
    | o => o
  let h1 := put w0.heap 0 #[.iface 178 (.agg #[.pointer (some ⟨4, 25, none⟩)])]
  let h2 := put h1 1 (Lib.firstTab.map fun z => Value.int .u8 z).toArray
  let h3 := put h2 2 ((List.range 16).flatMap fun i => [Value.int .u8 (Lib.accLo i), Value.int .u8 (Lib.accHi i)]).toArray
  { w0 with heap := h3 }
def listU : List (String × DataW Unit) := [("unicode/utf8.acceptRanges", Rows.laid_unicode_utf8_acceptRanges), ("unicode/utf8.first", Rows.laid_unicode_utf8_first)]
theorem laidU_met (os : Os) (args : Array Value) : laidMet Tryd.prog listU ((laidU os).forCall (fun _ _ => 0) ⟨#[], args, []⟩).memory :=
  laidMet_of_run3 8 (by kernel_rfl) (by kernel_rfl) (by kernel_rfl)
theorem laidU_metH (os : Os) (args : Array Value) : laidMetH Tryd.prog [("unicode/utf8.acceptRanges", Rows.laid_unicode_utf8_acceptRanges), ("unicode/utf8.first", Rows.laid_unicode_utf8_first)] ((laidU os).forCall (fun _ _ => 0) ⟨#[], args, []⟩).memory := by
  have e : (listU.filter fun x => x.2.handleName?.isSome) = [] := by kernel_rfl
  show laidMetH Tryd.prog listU _
  unfold laidMetH
  rw [e]
  exact laidU_met os args
end Go.Proofs.YtbhndnjlplibmaaDoor.du
