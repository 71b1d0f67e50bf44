/- math/bits.Add, Sub; the twins of addVV and subVV at one word. -/
import Derived.Test.YtbhndnjlplibmaaDoorGen
import Derived.Laws.Twins
import Derived.Shelf.Spec.BitsCarry
import Derived.RegionTactic
import Derived.RegionCalls
import Derived.BigQuiet
import Derived.Deep.QuietTactic
namespace Go.Proofs.YtbhndnjlplibmaaDoor.big
open Go.RowKit

theorem add64_run (x y c : Int) (hx : 0 ≤ x) (hy : 0 ≤ y) (hc0 : 0 ≤ c) (hc : c ≤ 1) (w : World) :
    (callFunc 165 #[.int .u64 x, .int .u64 y, .int .u64 c]).run Tryd.prog w = .ok (.value (.tuple #[.int .u64 ((x + y + c) % 18446744073709551616), .int .u64 ((x + y + c) / 18446744073709551616)])) w := by
  rw [run_callFunc_extern Tryd.func165 (by kernel_rfl) (by kernel_rfl) (by kernel_rfl) (e := add64Entry) (by kernel_rfl), run_add64 x y c hx hy hc0 hc]
  rfl
theorem sub64_run (x y b : Nat) (hb : b ≤ 1) (w : World) :
    (callFunc 167 #[.int .u64 x, .int .u64 y, .int .u64 b]).run Tryd.prog w =
      .ok (.value (.tuple #[.int .u64 (((x + 18446744073709551616 - y - b) % 18446744073709551616 : Nat) : Int), .int .u64 ((if x < y + b then 1 else 0 : Nat) : Int)])) w := by
  rw [run_callFunc_extern Tryd.func167 (by kernel_rfl) (by kernel_rfl) (by kernel_rfl) (e := sub64Entry) (by kernel_rfl), run_sub64 x y b hb]
  rfl
/-- words are naturals below 2^64 -/
def W64 : Nat := 18446744073709551616
set_option maxRecDepth 100000 in
theorem add_any (x y c : Nat) (hx : x < W64) (hy : y < W64) (hc : c ≤ 1) (w : World) :
    Calls Tryd.prog 144 #[.int .u64 (x : Int), .int .u64 (y : Int), .int .u64 (c : Int)] w fun e w' => e = .returned (.tuple #[.int .u64 (((x + y + c) % 18446744073709551616 : Nat) : Int), .int .u64 (((x + y + c) / 18446744073709551616 : Nat) : Int)]) ∧ w' = w := by
  unfold W64 at hx hy
  have h := add64_run (x : Int) (y : Int) (c : Int) (by omega) (by omega) (by omega) (by omega) w
  rw [show ((x : Int) + y + c) % 18446744073709551616 = (((x + y + c) % 18446744073709551616 : Nat) : Int) by omega, show ((x : Int) + y + c) / 18446744073709551616 = (((x + y + c) / 18446744073709551616 : Nat) : Int) by omega] at h
  generalize (((x + y + c) % 18446744073709551616 : Nat) : Int) = br at *
  generalize (((x + y + c) / 18446744073709551616 : Nat) : Int) = df at *
  clear hx hy
  go_enter Tryd.func144, Tryd.ntmps144
  go_wp2
  go_ret2
  exact ⟨rfl, rfl⟩
set_option maxRecDepth 100000 in
theorem sub_any (x y b : Nat) (hx : x < W64) (hy : y < W64) (hb : b ≤ 1) (w : World) :
    Calls Tryd.prog 147 #[.int .u64 (x : Int), .int .u64 (y : Int), .int .u64 (b : Int)] w fun e w' => e = .returned (.tuple #[.int .u64 (((x + 18446744073709551616 - y - b) % 18446744073709551616 : Nat) : Int), .int .u64 ((if x < y + b then 1 else 0 : Nat) : Int)]) ∧ w' = w := by
  unfold W64 at hx hy
  have h := sub64_run x y b hb w
  clear hx hy
  generalize ((if x < y + b then 1 else 0 : Nat) : Int) = br at *
  generalize (((x + 18446744073709551616 - y - b) % 18446744073709551616 : Nat) : Int) = df at *
  go_enter Tryd.func147, Tryd.ntmps147
  go_wp2
  go_ret2
  exact ⟨rfl, rfl⟩
end Go.Proofs.YtbhndnjlplibmaaDoor.big
