/- The twins of addVV and subVV at one word. -/
import Derived.Test.YtbhndnjlplibmaaDoorBg1
namespace Go.Proofs.YtbhndnjlplibmaaDoor.big
open Go.RowKit

/-- a call that leaves the world alone, within a region that draws -/
theorem quietAt {P : Program} {f : FuncId} {args : Array Value} {v : Value} (h : ∀ W : World, Calls P f args W fun e w' => e = .returned v ∧ w' = W) (w : World) (a n : Nat) :
    Calls P f args (w.drewN (a + n)) fun e w2 => e = .returned v ∧ ∃ m, w2 = w.drewN (a + m) :=
  (h _).mono fun _ _ ⟨he, hm⟩ => ⟨he, n, hm⟩

theorem quiet0 {P : Program} {f : FuncId} {args : Array Value} {v : Value} (h : ∀ W : World, Calls P f args W fun e w' => e = .returned v ∧ w' = W) (w : World) (n : Nat) :
    Calls P f args (w.drewN n) fun e w2 => e = .returned v ∧ ∃ m, w2 = w.drewN m :=
  (h _).mono fun _ _ ⟨he, hm⟩ => ⟨he, n, hm⟩

set_option maxRecDepth 100000 in
set_option maxHeartbeats 1000000 in
theorem addVV1 (zb xb yb zo xo yo zc xc yc : Nat) (x y : Nat) (zv : Value) (hxw : x < W64) (hyw : y < W64) (w : World) (hx : w.cell? ⟨xb, xo, none⟩ = some (.int .u64 (x : Int))) (hy : w.cell? ⟨yb, yo, none⟩ = some (.int .u64 (y : Int))) (hz : w.cell? ⟨zb, zo, none⟩ = some zv) (hf : w.frozen? ⟨zb, zo, none⟩ = false) :
    Calls Tryd.prog 118 #[.slice (some ⟨zb, zo, none⟩) 1 zc, .slice (some ⟨xb, xo, none⟩) 1 xc, .slice (some ⟨yb, yo, none⟩) 1 yc] w fun e w' => e = .returned (.int .u64 (((x + y) / 18446744073709551616 : Nat) : Int)) ∧ ∃ n, w' = (w.drewN n).setCell ⟨zb, zo, none⟩ (.int .u64 (((x + y) % 18446744073709551616 : Nat) : Int)) := by
  have hc : ∀ W, Calls Tryd.prog 144 #[.int .u64 (x : Int), .int .u64 (y : Int), .int .u64 0] W fun e w' => e = .returned (.tuple #[.int .u64 (((x + y) % 18446744073709551616 : Nat) : Int), .int .u64 (((x + y) / 18446744073709551616 : Nat) : Int)]) ∧ w' = W := fun W => add_any x y 0 hxw hyw (by omega) W
  generalize (((x + y) / 18446744073709551616 : Nat) : Int) = car at *
  generalize (((x + y) % 18446744073709551616 : Nat) : Int) = sm at *
  clear hxw hyw
  go_enter Tryd.func118, Tryd.ntmps118
  go_wp2_with fail
  refine wp_loop_rounds 2 ?_
  rw [rounds_succ]
  go_wp2_with fail
  go_quiet ((go_at_call 144; exact quiet0 hc _ _))
  go_wp2_with fail
  rw [rounds_succ]
  go_wp2_with fail
  go_ret
  exact ⟨rfl, _, rfl⟩

set_option maxRecDepth 100000 in
set_option maxHeartbeats 1000000 in
theorem subVV1 (zb xb yb zo xo yo zc xc yc : Nat) (x y : Nat) (zv : Value) (hxw : x < W64) (hyw : y < W64) (w : World) (hx : w.cell? ⟨xb, xo, none⟩ = some (.int .u64 (x : Int))) (hy : w.cell? ⟨yb, yo, none⟩ = some (.int .u64 (y : Int))) (hz : w.cell? ⟨zb, zo, none⟩ = some zv) (hf : w.frozen? ⟨zb, zo, none⟩ = false) :
    Calls Tryd.prog 119 #[.slice (some ⟨zb, zo, none⟩) 1 zc, .slice (some ⟨xb, xo, none⟩) 1 xc, .slice (some ⟨yb, yo, none⟩) 1 yc] w fun e w' => e = .returned (.int .u64 ((if x < y then 1 else 0 : Nat) : Int)) ∧ ∃ n, w' = (w.drewN n).setCell ⟨zb, zo, none⟩ (.int .u64 (((x + 18446744073709551616 - y) % 18446744073709551616 : Nat) : Int)) := by
  have hc : ∀ W, Calls Tryd.prog 147 #[.int .u64 (x : Int), .int .u64 (y : Int), .int .u64 0] W fun e w' => e = .returned (.tuple #[.int .u64 (((x + 18446744073709551616 - y) % 18446744073709551616 : Nat) : Int), .int .u64 ((if x < y then 1 else 0 : Nat) : Int)]) ∧ w' = W := fun W => sub_any x y 0 hxw hyw (by omega) W
  generalize ((if x < y then 1 else 0 : Nat) : Int) = car at *
  generalize (((x + 18446744073709551616 - y) % 18446744073709551616 : Nat) : Int) = sm at *
  clear hxw hyw
  go_enter Tryd.func119, Tryd.ntmps119
  go_wp2_with fail
  refine wp_loop_rounds 2 ?_
  rw [rounds_succ]
  go_wp2_with fail
  go_quiet ((go_at_call 147; exact quiet0 hc _ _))
  go_wp2_with fail
  rw [rounds_succ]
  go_wp2_with fail
  go_ret
  exact ⟨rfl, _, rfl⟩
end Go.Proofs.YtbhndnjlplibmaaDoor.big
