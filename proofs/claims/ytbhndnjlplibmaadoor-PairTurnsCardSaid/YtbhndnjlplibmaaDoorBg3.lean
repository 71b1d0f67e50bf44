/- addVW and subVW at one word, in place. -/
import Derived.Test.YtbhndnjlplibmaaDoorBg2
namespace Go.Proofs.YtbhndnjlplibmaaDoor.big
open Go.RowKit

/-- a pointer is what it is -/
theorem ptr_in (w : World) (d : Nat) (a : Addr) : (Op.equalIn (d + 1) 232 (.pointer (some a)) (.pointer (some a))).run Tryd.prog w = .ok true w := by
  have hs : (sizeOf 207).run Tryd.prog w = .ok 1 w := by kernel_rfl
  have hsa : (sameAddr a a).run Tryd.prog w = .ok true w := by simp [sameAddr]
  simp [Op.equalIn, run_underlying Tryd.underlying232, hs, hsa]
theorem ptr_same (w : World) (a : Addr) : (binOp .neq 232 (.pointer (some a)) (.pointer (some a))).run Tryd.prog w = .ok (.bool false) w := by
  have h : (Op.equal 232 (.pointer (some a)) (.pointer (some a))).run Tryd.prog w = .ok true w := ptr_in w 9999 a
  simp only [binOp]
  simp [h]

set_option maxRecDepth 100000 in
set_option maxHeartbeats 1000000 in
theorem addVW1 (b o zc xc : Nat) (x c : Nat) (hxw : x < W64) (hcw : c ≤ 1) (w : World) (hx : w.cell? ⟨b, o, none⟩ = some (.int .u64 (x : Int))) (hf : w.frozen? ⟨b, o, none⟩ = false) :
    Calls Tryd.prog 142 #[.slice (some ⟨b, o, none⟩) 1 zc, .slice (some ⟨b, o, none⟩) 1 xc, .int .u64 (c : Int)] w fun e w' => e = .returned (.int .u64 (((x + c) / 18446744073709551616 : Nat) : Int)) ∧ ∃ n, w' = (w.setCell ⟨b, o, none⟩ (.int .u64 (((x + c) % 18446744073709551616 : Nat) : Int))).drewN n := by
  have hc : ∀ W, Calls Tryd.prog 144 #[.int .u64 (x : Int), .int .u64 (c : Int), .int .u64 0] W fun e w' => e = .returned (.tuple #[.int .u64 (((x + c) % 18446744073709551616 : Nat) : Int), .int .u64 (((x + c) / 18446744073709551616 : Nat) : Int)]) ∧ w' = W := fun W => add_any x c 0 hxw (by unfold W64; omega) (by omega) W
  have hcar : (((x + c) / 18446744073709551616 : Nat) : Int) = 0 ∨ (((x + c) / 18446744073709551616 : Nat) : Int) = 1 := by
    unfold W64 at hxw
    omega
  generalize (((x + c) / 18446744073709551616 : Nat) : Int) = car at *
  generalize (((x + c) % 18446744073709551616 : Nat) : Int) = sm at *
  clear hxw hcw
  rcases hcar with rfl | rfl
  · go_enter Tryd.func142, Tryd.ntmps142
    go_wp2_with (go_at_call 144; refine (hc _).mono ?_; rintro e w' ⟨rfl, rfl⟩)
    clear hc
    have hps := fun W => ptr_same W ⟨b, o, none⟩
    go_quiet (fail)
    go_wp2_with fail
    go_ret
    exact ⟨rfl, _, rfl⟩
  · go_enter Tryd.func142, Tryd.ntmps142
    go_wp2_with (go_at_call 144; refine (hc _).mono ?_; rintro e w' ⟨rfl, rfl⟩)
    clear hc
    refine wp_loop_rounds 1 ?_
    rw [rounds_succ]
    go_wp2_with fail
    go_ret
    exact ⟨rfl, 0, rfl⟩

set_option maxRecDepth 100000 in
set_option maxHeartbeats 1000000 in
theorem subVW1 (b o zc xc : Nat) (x c : Nat) (hxw : x < W64) (hcw : c ≤ 1) (w : World) (hx : w.cell? ⟨b, o, none⟩ = some (.int .u64 (x : Int))) (hf : w.frozen? ⟨b, o, none⟩ = false) :
    Calls Tryd.prog 146 #[.slice (some ⟨b, o, none⟩) 1 zc, .slice (some ⟨b, o, none⟩) 1 xc, .int .u64 (c : Int)] w fun e w' => e = .returned (.int .u64 ((if x < c then 1 else 0 : Nat) : Int)) ∧ ∃ n, w' = (w.setCell ⟨b, o, none⟩ (.int .u64 (((x + 18446744073709551616 - c) % 18446744073709551616 : Nat) : Int))).drewN n := by
  have hc : ∀ W, Calls Tryd.prog 147 #[.int .u64 (x : Int), .int .u64 (c : Int), .int .u64 0] W fun e w' => e = .returned (.tuple #[.int .u64 (((x + 18446744073709551616 - c) % 18446744073709551616 : Nat) : Int), .int .u64 ((if x < c then 1 else 0 : Nat) : Int)]) ∧ w' = W := fun W => sub_any x c 0 hxw (by unfold W64; omega) (by omega) W
  have hcar : ((if x < c then 1 else 0 : Nat) : Int) = 0 ∨ ((if x < c then 1 else 0 : Nat) : Int) = 1 := by
    unfold W64 at hxw
    split <;> simp
  generalize ((if x < c then 1 else 0 : Nat) : Int) = car at *
  generalize (((x + 18446744073709551616 - c) % 18446744073709551616 : Nat) : Int) = sm at *
  clear hxw hcw
  rcases hcar with rfl | rfl
  · go_enter Tryd.func146, Tryd.ntmps146
    go_wp2_with (go_at_call 147; refine (hc _).mono ?_; rintro e w' ⟨rfl, rfl⟩)
    clear hc
    have hps := fun W => ptr_same W ⟨b, o, none⟩
    go_quiet (fail)
    go_wp2_with fail
    go_ret
    exact ⟨rfl, _, rfl⟩
  · go_enter Tryd.func146, Tryd.ntmps146
    go_wp2_with (go_at_call 147; refine (hc _).mono ?_; rintro e w' ⟨rfl, rfl⟩)
    clear hc
    refine wp_loop_rounds 1 ?_
    rw [rounds_succ]
    go_wp2_with fail
    go_ret
    exact ⟨rfl, 0, rfl⟩
end Go.Proofs.YtbhndnjlplibmaaDoor.big
