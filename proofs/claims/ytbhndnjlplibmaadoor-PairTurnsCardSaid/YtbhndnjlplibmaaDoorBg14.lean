/- big.NewInt, money.big1. -/
import Derived.Test.YtbhndnjlplibmaaDoorBg11
namespace Go.Proofs.YtbhndnjlplibmaaDoor.big
open Go.RowKit

theorem wrap_neg1 {x : Int} (h1 : -9223372036854775808 ≤ x) (h2 : x < 0) : IntKind.u64.wrap x = x + 18446744073709551616 := by
  rw [IntKind.wrap_u64]; omega
theorem wrap_neg2 {x : Int} (h1 : -9223372036854775808 ≤ x) (h2 : x < 0) : IntKind.u64.wrap (-(x + 18446744073709551616)) = -x := by
  rw [IntKind.wrap_u64]; omega
theorem wrap_pos {x : Int} (h1 : 0 ≤ x) (h2 : x ≤ 9223372036854775807) : IntKind.u64.wrap x = x := by
  rw [IntKind.wrap_u64]; omega

theorem new_zero (w : World) : Calls Tryd.prog 127 #[.int .i64 0] w fun e w' => e = .returned (.pointer (some ⟨w.heap.size, 0, none⟩)) ∧ w' = w.alloc (iObj false (.slice none 0 0)) := by
  go_enter Tryd.func127, Tryd.ntmps127
  go_wp2_with fail
  go_ret
  exact ⟨rfl, rfl⟩
theorem new_pos (x : Int) (h0 : 0 < x) (h2 : x ≤ 9223372036854775807) (w : World) : Calls Tryd.prog 127 #[.int .i64 x] w fun e w' => e = .returned (.pointer (some ⟨w.heap.size + 1, 0, none⟩)) ∧ w' = (w.alloc (wObj [x.toNat])).alloc (iObj false (.slice (some ⟨w.heap.size, 0, none⟩) 1 1)) := by
  have hw := wrap_pos (by omega : 0 ≤ x) h2
  have d1 : decide (x < 0) = false := decide_eq_false (by omega)
  have d2 : (x == 0) = false := beq_eq_false_iff_ne.2 (by omega)
  have hobj : Hid (wObj [x.toNat] = .cells #[.int .u64 x] 207 (0, 0)) := by
    show _ = _
    unfold wObj wordsA
    simp [show max x 0 = x by omega]
  go_enter Tryd.func127, Tryd.ntmps127
  go_wp2_with fail
  go_ret
  exact ⟨rfl, by rw [hobj.out]; rfl⟩
theorem new_neg (x : Int) (h0 : x < 0) (h2 : -9223372036854775808 ≤ x) (w : World) : Calls Tryd.prog 127 #[.int .i64 x] w fun e w' => e = .returned (.pointer (some ⟨w.heap.size + 1, 0, none⟩)) ∧ w' = (w.alloc (wObj [x.natAbs])).alloc (iObj true (.slice (some ⟨w.heap.size, 0, none⟩) 1 1)) := by
  have hw := wrap_neg1 h2 h0
  have hw2 := wrap_neg2 h2 h0
  have d1 : decide (x < 0) = true := decide_eq_true (by omega)
  have d2 : (x == 0) = false := beq_eq_false_iff_ne.2 (by omega)
  have hobj : Hid (wObj [x.natAbs] = .cells #[.int .u64 (-x)] 207 (0, 0)) := by
    show _ = _
    unfold wObj wordsA
    simp [show (x.natAbs : Int) = -x by omega]
  go_enter Tryd.func127, Tryd.ntmps127
  go_wp2_with fail
  go_ret
  exact ⟨rfl, by rw [hobj.out]; rfl⟩
end Go.Proofs.YtbhndnjlplibmaaDoor.big
