/- nat.add, nat.sub where one has no word. -/
import Derived.Test.YtbhndnjlplibmaaDoorBg6
namespace Go.Proofs.YtbhndnjlplibmaaDoor.big
open Go.RowKit

theorem add_00 (zo xo yo : Option Addr) (cap xc yc : Nat) (w : World) :
    Calls Tryd.prog 124 #[.slice zo 0 cap, .slice xo 0 xc, .slice yo 0 yc] w fun e w' => e = .returned (.slice zo 0 cap) ∧ w' = w := by
  go_enter Tryd.func124, Tryd.ntmps124
  go_wp2_with fail
  go_ret
  exact ⟨rfl, rfl⟩
theorem add_y0 (zo xo yo : Option Addr) (zn zc m xc yc : Nat) (hm : 1 ≤ m) (v : Value) (w W : World)
    (hset : ∀ V : World, V = w → Calls Tryd.prog 139 #[.slice zo zn zc, .slice xo m xc] V fun e w' => e = .returned v ∧ w' = W) :
    Calls Tryd.prog 124 #[.slice zo zn zc, .slice xo m xc, .slice yo 0 yc] w fun e w' => e = .returned v ∧ w' = W := by
  have d1 : decide ((m : Int) < 0) = false := decide_eq_false (by omega)
  have d2 : ((m : Int) == 0) = false := beq_eq_false_iff_ne.2 (by omega)
  have d3 : (m == 0) = false := beq_eq_false_iff_ne.2 (by omega)
  go_enter Tryd.func124, Tryd.ntmps124
  go_wp2_with (go_at_call 139; refine (hset _ rfl).mono ?_; rintro e w' ⟨rfl, rfl⟩)
  go_ret
  exact ⟨rfl, rfl⟩
theorem add_x0 (zo xo yo : Option Addr) (zn zc m xc yc : Nat) (hm : 1 ≤ m) (v : Value) (w W : World)
    (hset : ∀ V : World, V = w → Calls Tryd.prog 139 #[.slice zo zn zc, .slice yo m yc] V fun e w' => e = .returned v ∧ w' = W) :
    Calls Tryd.prog 124 #[.slice zo zn zc, .slice xo 0 xc, .slice yo m yc] w fun e w' => e = .returned v ∧ w' = W := by
  have h := fun V : World => fun hV : V = w => add_y0 zo yo xo zn zc m yc xc hm v V W (fun U hU => hset U (hU.trans hV))
  have d1 : decide ((0 : Int) < (m : Int)) = true := decide_eq_true (by omega)
  have d2 : decide (0 < m) = true := decide_eq_true (by omega)
  go_enter Tryd.func124, Tryd.ntmps124
  go_wp2_with (go_at_call 124; refine (h _ rfl).mono ?_; rintro e w' ⟨rfl, rfl⟩)
  go_ret
  exact ⟨rfl, rfl⟩
theorem sub_y0 (zo xo yo : Option Addr) (zn zc m xc yc : Nat) (hm : 1 ≤ m) (v : Value) (w W : World)
    (hset : ∀ V : World, V = w → Calls Tryd.prog 139 #[.slice zo zn zc, .slice xo m xc] V fun e w' => e = .returned v ∧ w' = W) :
    Calls Tryd.prog 126 #[.slice zo zn zc, .slice xo m xc, .slice yo 0 yc] w fun e w' => e = .returned v ∧ w' = W := by
  have d1 : decide ((m : Int) < 0) = false := decide_eq_false (by omega)
  have d2 : ((m : Int) == 0) = false := beq_eq_false_iff_ne.2 (by omega)
  have d3 : (m == 0) = false := beq_eq_false_iff_ne.2 (by omega)
  go_enter Tryd.func126, Tryd.ntmps126
  go_wp2_with (go_at_call 139; refine (hset _ rfl).mono ?_; rintro e w' ⟨rfl, rfl⟩)
  go_ret
  exact ⟨rfl, rfl⟩
end Go.Proofs.YtbhndnjlplibmaaDoor.big
