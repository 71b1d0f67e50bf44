/- big.Int's IsInt64, Int64; money.big1, money.small. -/
import Derived.Test.YtbhndnjlplibmaaDoorBg14
namespace Go.Proofs.YtbhndnjlplibmaaDoor.big
open Go.RowKit

theorem big1_any (x : Int) (v : Value) (w W : World) (h : ∀ V : World, V = w → Calls Tryd.prog 127 #[.int .i64 x] V fun e w' => e = .returned v ∧ w' = W) :
    Calls Tryd.prog 104 #[.int .i64 x] w fun e w' => e = .returned v ∧ w' = W := by
  go_enter Tryd.func104, Tryd.ntmps104
  go_wp2_with fail
  refine (h _ rfl).mono ?_
  rintro e w' ⟨rfl, rfl⟩
  go_wp2_with fail
  go_ret
  exact ⟨rfl, rfl⟩

/-- a word as int64 -/
theorem w64_small {X : Nat} (h : X < 9223372036854775808) : IntKind.i64.wrap (X : Int) = (X : Int) := by rw [IntKind.wrap_i64]; omega
theorem w64_big {X : Nat} (h : 9223372036854775808 ≤ X) (h2 : X < W64) : IntKind.i64.wrap (X : Int) = (X : Int) - 18446744073709551616 := by unfold W64 at h2; rw [IntKind.wrap_i64]; omega

/-- what the receiver holds: sign, words -/
def Has (w : World) (p : Nat) (neg : Bool) (ao : Option Addr) (n cap X : Nat) : Prop :=
  w.heap[p]? = some (iObj neg (.slice ao n cap)) ∧ ((n = 0 ∧ X = 0 ∧ neg = false) ∨ (n = 1 ∧ 0 < X ∧ X < W64 ∧ ∃ b, ao = some ⟨b, 0, none⟩ ∧ w.cell? ⟨b, 0, none⟩ = some (.int .u64 (X : Int))) ∨ (n = 2 ∧ W64 ≤ X))
def valI (neg : Bool) (X : Nat) : Int := if neg = true then -(X : Int) else (X : Int)
def fits (V : Int) : Bool := decide (-9223372036854775808 ≤ V) && decide (V ≤ 9223372036854775807)

theorem isInt_two (p cap : Nat) (neg : Bool) (ao : Option Addr) (w : World) (hx : w.heap[p]? = some (iObj neg (.slice ao 2 cap))) : Calls Tryd.prog 128 #[.pointer (some ⟨p, 0, none⟩)] w fun e w' => e = .returned (.bool false) ∧ w' = w := by
  have x1 : w.cell? ⟨p, 1, none⟩ = some (.slice ao 2 cap) := by rw [cell_of_heap hx]; rfl
  clear hx
  go_enter Tryd.func128, Tryd.ntmps128
  go_wp2_with fail
  go_ret
  exact ⟨rfl, rfl⟩
theorem isInt_zero (p cap : Nat) (neg : Bool) (ao : Option Addr) (w : World) (hx : w.heap[p]? = some (iObj neg (.slice ao 0 cap))) : Calls Tryd.prog 128 #[.pointer (some ⟨p, 0, none⟩)] w fun e w' => e = .returned (.bool true) ∧ w' = w := by
  have x1 : w.cell? ⟨p, 1, none⟩ = some (.slice ao 0 cap) := by rw [cell_of_heap hx]; rfl
  have hl := low_zero ao cap
  clear hx
  go_enter Tryd.func128, Tryd.ntmps128
  go_wp2_with (go_at_call 148; refine (hl _).mono ?_; rintro e w' ⟨rfl, rfl⟩)
  go_ret
  exact ⟨rfl, rfl⟩
theorem isInt_one (p b cap X : Nat) (neg : Bool) (w : World) (hx : w.heap[p]? = some (iObj neg (.slice (some ⟨b, 0, none⟩) 1 cap))) (hc : w.cell? ⟨b, 0, none⟩ = some (.int .u64 (X : Int))) (hX : X < W64) :
    Calls Tryd.prog 128 #[.pointer (some ⟨p, 0, none⟩)] w fun e w' => e = .returned (.bool (fits (valI neg X))) ∧ w' = w := by
  have x0 : w.cell? ⟨p, 0, none⟩ = some (.bool neg) := by rw [cell_of_heap hx]; rfl
  have x1 : w.cell? ⟨p, 1, none⟩ = some (.slice (some ⟨b, 0, none⟩) 1 cap) := by rw [cell_of_heap hx]; rfl
  have hl := low_one b 1 cap X w (by omega) hc
  clear hx hc
  by_cases h1 : X < 9223372036854775808
  · have hw := w64_small h1
    have hf : Hid (fits (valI neg X) = true) := by show _ = _; unfold fits valI; cases neg <;> simp <;> omega
    have d0 : decide ((0 : Int) ≤ (X : Int)) = true := decide_eq_true (by omega)
    clear hX h1
    go_enter Tryd.func128, Tryd.ntmps128
    go_wp2_with (go_at_call 148; refine hl.mono ?_; rintro e w' ⟨rfl, rfl⟩)
    go_ret
    exact ⟨ret_bool hf.out.symm, rfl⟩
  · have hw := w64_big (by omega) hX
    obtain ⟨y, hy⟩ : ∃ y : Int, y = (X : Int) - 18446744073709551616 := ⟨_, rfl⟩
    rw [← hy] at hw
    have hy0 : decide ((0 : Int) ≤ y) = false := decide_eq_false (by unfold W64 at hX; omega)
    by_cases h2 : X = 9223372036854775808
    · have hyy : y = -9223372036854775808 := by omega
      subst hyy
      cases neg with
      | true =>
        have hf : Hid (fits (valI true X) = true) := by show _ = _; unfold fits valI; rw [h2]; decide
        clear hX h1 h2 hy
        go_enter Tryd.func128, Tryd.ntmps128
        go_wp2_with (go_at_call 148; refine hl.mono ?_; rintro e w' ⟨rfl, rfl⟩)
        go_ret
        exact ⟨ret_bool (by rw [hf.out, show wrap64 9223372036854775808 = -9223372036854775808 by decide +kernel]; rfl), rfl⟩
      | false =>
        have hf : Hid (fits (valI false X) = false) := by show _ = _; unfold fits valI; rw [h2]; decide
        clear hX h1 h2 hy
        go_enter Tryd.func128, Tryd.ntmps128
        go_wp2_with (go_at_call 148; refine hl.mono ?_; rintro e w' ⟨rfl, rfl⟩)
        go_ret
        exact ⟨ret_bool hf.out.symm, rfl⟩
    · have hyr : -9223372036854775808 < y ∧ y < 0 := by unfold W64 at hX; omega
      have hf : Hid (fits (valI neg X) = false) := by show _ = _; unfold fits valI; cases neg <;> simp <;> omega
      have hwn : IntKind.i64.wrap (-y) = -y := IntWalk.i64_in _ (by omega)
      have hne : (y == -y) = false := beq_eq_false_iff_ne.2 (by omega)
      clear hX h1 h2 hy
      cases neg
      all_goals
        go_enter Tryd.func128, Tryd.ntmps128
        go_wp2_with (go_at_call 148; refine hl.mono ?_; rintro e w' ⟨rfl, rfl⟩)
        go_ret
        exact ⟨ret_bool hf.out.symm, rfl⟩

theorem int64_zero (p cap : Nat) (ao : Option Addr) (w : World) (hx : w.heap[p]? = some (iObj false (.slice ao 0 cap))) : Calls Tryd.prog 129 #[.pointer (some ⟨p, 0, none⟩)] w fun e w' => e = .returned (.int .i64 0) ∧ w' = w := by
  have x0 : w.cell? ⟨p, 0, none⟩ = some (.bool false) := by rw [cell_of_heap hx]; rfl
  have x1 : w.cell? ⟨p, 1, none⟩ = some (.slice ao 0 cap) := by rw [cell_of_heap hx]; rfl
  have hl := low_zero ao cap
  clear hx
  go_enter Tryd.func129, Tryd.ntmps129
  go_wp2_with (go_at_call 148; refine (hl _).mono ?_; rintro e w' ⟨rfl, rfl⟩)
  go_ret
  exact ⟨rfl, rfl⟩
theorem int64_one (p b cap X : Nat) (neg : Bool) (w : World) (hx : w.heap[p]? = some (iObj neg (.slice (some ⟨b, 0, none⟩) 1 cap))) (hc : w.cell? ⟨b, 0, none⟩ = some (.int .u64 (X : Int))) (hX : X < W64) (hf : fits (valI neg X) = true) :
    Calls Tryd.prog 129 #[.pointer (some ⟨p, 0, none⟩)] w fun e w' => e = .returned (.int .i64 (valI neg X)) ∧ w' = w := by
  have x0 : w.cell? ⟨p, 0, none⟩ = some (.bool neg) := by rw [cell_of_heap hx]; rfl
  have x1 : w.cell? ⟨p, 1, none⟩ = some (.slice (some ⟨b, 0, none⟩) 1 cap) := by rw [cell_of_heap hx]; rfl
  have hl := low_one b 1 cap X w (by omega) hc
  clear hx hc
  by_cases h1 : X < 9223372036854775808
  · have hw := w64_small h1
    have hwn : IntKind.i64.wrap (-(X : Int)) = -(X : Int) := IntWalk.i64_in _ (by omega)
    cases neg with
    | true =>
      have hv : Hid (valI true X = -(X : Int)) := rfl
      clear hX h1 hf
      go_enter Tryd.func129, Tryd.ntmps129
      go_wp2_with (go_at_call 148; refine hl.mono ?_; rintro e w' ⟨rfl, rfl⟩)
      go_ret
      exact ⟨ret_int (by rw [hv.out]), rfl⟩
    | false =>
      have hv : Hid (valI false X = (X : Int)) := rfl
      clear hX h1 hf
      go_enter Tryd.func129, Tryd.ntmps129
      go_wp2_with (go_at_call 148; refine hl.mono ?_; rintro e w' ⟨rfl, rfl⟩)
      go_ret
      exact ⟨ret_int (by rw [hv.out]), rfl⟩
  · have h2 : X = 9223372036854775808 ∧ neg = true := by
      unfold fits valI at hf
      unfold W64 at hX
      cases neg with
      | true => simp at hf; exact ⟨by omega, rfl⟩
      | false => simp at hf; exact absurd hf (by omega)
    obtain ⟨hXe, rfl⟩ := h2
    have hw := w64_big (by omega) hX
    unfold W64 at hX
    rw [show (X : Int) - 18446744073709551616 = -9223372036854775808 by omega] at hw
    have hv : Hid (valI true X = -9223372036854775808) := by show _ = _; unfold valI; rw [hXe]; rfl
    have hwn : IntKind.i64.wrap (9223372036854775808 : Int) = -9223372036854775808 := by rw [IntKind.wrap_i64]; decide
    clear hX h1 hf hXe
    go_enter Tryd.func129, Tryd.ntmps129
    go_wp2_with (go_at_call 148; refine hl.mono ?_; rintro e w' ⟨rfl, rfl⟩)
    go_ret
    exact ⟨ret_int (by rw [hv.out]), rfl⟩

/-- what small answers of a value -/
def smallV (V : Int) : Value := if fits V = true then .tuple #[.int .i64 V, .nilIface] else .tuple #[.int .i64 0, .iface 96 (.int .i64 10)]
theorem small_any (p cap n X : Nat) (neg : Bool) (ao : Option Addr) (w : World) (h : Has w p neg ao n cap X) :
    Calls Tryd.prog 105 #[.pointer (some ⟨p, 0, none⟩)] w fun e w' => e = .returned (smallV (valI neg X)) ∧ w' = w := by
  obtain ⟨hx, hc⟩ := h
  rcases hc with ⟨rfl, rfl, rfl⟩ | ⟨rfl, h0, hX, b, rfl, hc⟩ | ⟨rfl, hX⟩
  · have h1 := isInt_zero p cap false ao w hx
    have h2 := int64_zero p cap ao w hx
    have hv : Hid (smallV (valI false 0) = .tuple #[.int .i64 0, .nilIface]) := rfl
    clear hx
    go_enter Tryd.func105, Tryd.ntmps105
    go_wp2_with (first | (go_at_call 128; refine h1.mono ?_; rintro e w' ⟨rfl, rfl⟩) | (go_at_call 129; refine h2.mono ?_; rintro e w' ⟨rfl, rfl⟩))
    go_ret2
    exact ⟨by rw [hv.out]; rfl, rfl⟩
  · have h1 := isInt_one p b cap X neg w hx hc hX
    by_cases hf : fits (valI neg X) = true
    · have h2 := int64_one p b cap X neg w hx hc hX hf
      have hv : Hid (smallV (valI neg X) = .tuple #[.int .i64 (valI neg X), .nilIface]) := if_pos hf
      rw [hf] at h1
      clear hx hc hf hX h0
      generalize valI neg X = V at *
      go_enter Tryd.func105, Tryd.ntmps105
      go_wp2_with (first | (go_at_call 128; refine h1.mono ?_; rintro e w' ⟨rfl, rfl⟩) | (go_at_call 129; refine h2.mono ?_; rintro e w' ⟨rfl, rfl⟩))
      go_ret2
      exact ⟨by rw [hv.out]; rfl, rfl⟩
    · have hf' : fits (valI neg X) = false := by simpa using hf
      have hv : Hid (smallV (valI neg X) = .tuple #[.int .i64 0, .iface 96 (.int .i64 10)]) := if_neg hf
      rw [hf'] at h1
      clear hx hc hf hf' hX h0
      generalize valI neg X = V at *
      go_enter Tryd.func105, Tryd.ntmps105
      go_wp2_with (go_at_call 128; refine h1.mono ?_; rintro e w' ⟨rfl, rfl⟩)
      go_ret2
      exact ⟨by rw [hv.out]; rfl, rfl⟩
  · have h1 := isInt_two p cap neg ao w hx
    have hf : fits (valI neg X) = false := by unfold fits valI; unfold W64 at hX; cases neg <;> simp <;> omega
    have hv : Hid (smallV (valI neg X) = .tuple #[.int .i64 0, .iface 96 (.int .i64 10)]) := if_neg (by rw [hf]; simp)
    clear hx hf hX
    generalize valI neg X = V at *
    go_enter Tryd.func105, Tryd.ntmps105
    go_wp2_with (go_at_call 128; refine h1.mono ?_; rintro e w' ⟨rfl, rfl⟩)
    go_ret2
    exact ⟨by rw [hv.out]; rfl, rfl⟩
end Go.Proofs.YtbhndnjlplibmaaDoor.big
