/- Small lemmas that all walks of this seat use: how a result is spelled. -/
import Derived.Test.YtldpflijgbcbhaaProg
import Derived.WalkKit
import Derived.ProofKit
import Derived.Lib.Hide
import Derived.Outline
namespace Go.Proofs.Ytldpflijgbcbhaa
open Go.RowKit

theorem ret_int {k : IntKind} {a b : Int} (h : a = b) : Ending.returned (.int k a) = .returned (.int k b) := by rw [h]
theorem ret_bool {a b : Bool} (h : a = b) : Ending.returned (.bool a) = .returned (.bool b) := by rw [h]
theorem ret_str {a b : ByteArray} (h : a = b) : Ending.returned (.string a) = .returned (.string b) := by rw [h]

/-- an error of number c; 0: none -/
def errV (c : Int) : Value := if c = 0 then .nilIface else .iface 75 (.int .i64 c)
theorem errV_zero : errV 0 = .nilIface := rfl
theorem errV_some {c : Int} (h : c ≠ 0) : errV c = .iface 75 (.int .i64 c) := by rw [errV, if_neg h]

/-! an error held against nil -/
@[go_sem] theorem err_neq_nil (w : World) : (binOp .neq 25 .nilIface .nilIface).run Try.prog w = .ok (.bool false) w := run_neq_nil_nil w _ (by kernel_rfl)
@[go_sem] theorem err_eql_nil (w : World) : (binOp .eql 25 .nilIface .nilIface).run Try.prog w = .ok (.bool true) w := run_eql_nil_nil w _ (by kernel_rfl)
@[go_sem] theorem err_neq_some (u : TypeId) (x : Value) (w : World) : (binOp .neq 25 (.iface u x) .nilIface).run Try.prog w = .ok (.bool true) w := run_neq_held_nil w _ _ _ (by kernel_rfl)
@[go_sem] theorem err_eql_some (u : TypeId) (x : Value) (w : World) : (binOp .eql 25 (.iface u x) .nilIface).run Try.prog w = .ok (.bool false) w := run_eql_held_nil w _ _ _ (by kernel_rfl)
end Go.Proofs.Ytldpflijgbcbhaa
