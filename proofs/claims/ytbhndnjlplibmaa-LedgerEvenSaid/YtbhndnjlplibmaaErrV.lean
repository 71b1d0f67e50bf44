/- An error of any number held against nil: what the test is. -/
import Derived.Test.YtbhndnjlplibmaaBase
namespace Go.Proofs.Ytbhndnjlplibmaa
open Go.RowKit

/-- no error? (behind a name that the walk does not open) -/
def zeroC (c : Int) : Bool := decide (c = 0)
theorem zeroC_yes {c : Int} (h : c = 0) : zeroC c = true := decide_eq_true h
theorem zeroC_no {c : Int} (h : ¬ c = 0) : zeroC c = false := decide_eq_false h
@[go_sem] theorem guard_errV_eql (c : Int) (x : Operand) (w : World) : (eqGuard .eql 31 x (.const .nilIface) (errV c) .nilIface).run Try.prog w = .ok () w := by
  unfold errV; split <;> simp [go_sem, eqGuard]
@[go_sem] theorem guard_errV_neq (c : Int) (x : Operand) (w : World) : (eqGuard .neq 31 x (.const .nilIface) (errV c) .nilIface).run Try.prog w = .ok () w := by
  unfold errV; split <;> simp [go_sem, eqGuard]
@[go_sem] theorem errV_eql (c : Int) (w : World) : (binOp .eql 31 (errV c) .nilIface).run Try.prog w = .ok (.bool (zeroC c)) w := by
  unfold errV zeroC
  by_cases h : c = 0
  · rw [if_pos h, err_eql_nil, decide_eq_true h]
  · rw [if_neg h, err_eql_some, decide_eq_false h]
@[go_sem] theorem errV_neq (c : Int) (w : World) : (binOp .neq 31 (errV c) .nilIface).run Try.prog w = .ok (.bool (!zeroC c)) w := by
  unfold errV zeroC
  by_cases h : c = 0
  · rw [if_pos h, err_neq_nil, decide_eq_true h]; rfl
  · rw [if_neg h, err_neq_some, decide_eq_false h]; rfl
end Go.Proofs.Ytbhndnjlplibmaa
