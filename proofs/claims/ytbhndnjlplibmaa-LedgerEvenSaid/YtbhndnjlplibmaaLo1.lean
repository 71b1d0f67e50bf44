/- daysame.Balances: what is the same is the same. -/
import Derived.Test.YtbhndnjlplibmaaLoK
import Derived.Deep.QuietTactic
namespace Go.Proofs.Ytbhndnjlplibmaa.lg
open Go.RowKit

set_option maxRecDepth 100000 in
set_option maxHeartbeats 4000000 in
theorem bals_same (t : List BalM) (w : World) (a b : Option Addr) (ca cb : Nat) (ha : BalsAt w a t) (hb : BalsAt w b t) (hm : t.length ≤ 9223372036854775807) :
    Calls Try.prog 14 #[.slice a t.length ca, .slice b t.length cb] w fun e w' => e = .returned (.bool true) ∧ ∃ n, w' = w.drewN n := by
  have HA := Lib.hid ha
  have HB := Lib.hid hb
  have hne : ((t.length : Int) != (t.length : Int)) = false := by simp
  clear ha hb
  go_enter Try.func14, Try.ntmps14
  go_wp2_with fail
  go_loopw [5] (fun i wr => ∃ k n : Nat, k ≤ t.length ∧ i = .int .i64 (k : Int) ∧ wr = w.drewN n) (fun i _ => t.length - (intOf i).toNat)
  case atStart => exact ⟨0, 0, Nat.zero_le _, rfl, rfl⟩
  case round =>
    obtain ⟨k, n, hk, rfl, rfl⟩ := hrel
    by_cases hlt : k < t.length
    · obtain ⟨b1, o1, rfl, _, hc1⟩ := HA.out.resolve_left (fun e => by rw [e] at hlt; simp at hlt)
      obtain ⟨b2, o2, rfl, _, hc2⟩ := HB.out.resolve_left (fun e => by rw [e] at hlt; simp at hlt)
      obtain ⟨x, hx⟩ := getElem?_ex hlt
      obtain ⟨x0, x1, x2, x3⟩ := hc1 k x hx
      obtain ⟨y0, y1, y2, y3⟩ := hc2 k x hx
      have hi1 : (k : Int) < (t.length : Int) := by omega
      have hi0 : (0 : Int) ≤ (k : Int) := by omega
      clear hc1 hc2
      go_wp2_with fail
      go_quiet (fail)
      go_wp2_with fail
      go_roundw
      case rel => exact ⟨k + 1, _, by omega, by go_num, rfl⟩
      case measure => simp [intOf]; omega
    · go_wp2_with fail
      go_ret
      exact ⟨rfl, _, rfl⟩
end Go.Proofs.Ytbhndnjlplibmaa.lg
