/- plain.Told and daysame.Error at an error of package api, or none: its number. -/
import Derived.Test.YtldpflijgbcbhaaDoorAs
namespace Go.Proofs.YtldpflijgbcbhaaDoor
open Go.RowKit

/-- the variable errors.errorType holds what the text lays -/
def Door (w : World) : Prop := w.cell? ⟨0, 0, none⟩ = some (.iface 181 (.agg #[.pointer (some ⟨1, 29, none⟩)]))

theorem Door.pos {w : World} (h : Door w) : 0 < w.heap.size := by
  rcases Nat.eq_zero_or_pos w.heap.size with h0 | h1
  · unfold Door at h; simp [World.cell?, h0] at h
  · exact h1
theorem Door.below {w w' : World} {B : Nat} (h : Door w) (hb : Below B w w') (hB : 0 < B) : Door w' := (hb.cell (p := ⟨0, 0, none⟩) hB).trans h

set_option maxHeartbeats 4000000 in
theorem told_any (c : Int) (w : World) (hg : Door w) :
    Calls Tryd.prog 58 #[errV c] w fun e w' => e = .returned (.int .i64 c) ∧ Below w.heap.size w w' := by
  have hpos := hg.pos
  by_cases h0 : c = 0
  · subst h0
    rw [errV_zero]
    go_enter Tryd.func58, Tryd.ntmps58
    go_wp2_with fail
    go_ret
    exact ⟨rfl, Below.refl _ _⟩
  · rw [errV_some h0]
    have H0 := Lib.hid h0
    have hgA : (w.alloc (.cells #[.int .i64 0] 102)).cell? ⟨0, 0, none⟩ = some (.iface 181 (.agg #[.pointer (some ⟨1, 29, none⟩)])) := by
      rw [World.cell?_alloc_lt _ _ ⟨0, 0, none⟩ hpos]; exact hg
    have hh := as_hit c ⟨w.heap.size, 0, none⟩ (.int .i64 0) (w.alloc (.cells #[.int .i64 0] 102)) hgA (by simp) (by simp)
    have hb1 : Below w.heap.size w (w.alloc (.cells #[.int .i64 0] 102)) := (Below.refl _ _).alloc (Nat.le_refl _) _
    clear h0 hgA
    go_enter Tryd.func58, Tryd.ntmps58
    go_wp2_with fail
    refine hh.mono ?_
    rintro e w' ⟨rfl, rfl⟩
    clear hh
    go_wp2_with fail
    go_ret
    refine ⟨rfl, ?_⟩
    repeat (first | exact Below.refl _ _ | refine Below.setCell ?_ (Nat.le_refl _) _ | refine Below.alloc ?_ (by first | exact Nat.le_refl _ | (simp only [World.size_alloc]; omega)) _)

set_option maxHeartbeats 4000000 in
theorem error_any (c d : Int) (w : World) (hg : Door w) :
    Calls Tryd.prog 13 #[errV c, .int .i64 d] w fun e w' => e = .returned (.bool (c == d)) ∧ Below w.heap.size w w' := by
  have ht := told_any c w hg
  generalize errV c = v at ht
  go_enter Tryd.func13, Tryd.ntmps13
  go_wp2_with fail
  refine ht.mono ?_
  rintro e w' ⟨rfl, hb⟩
  clear ht
  go_wp2_with fail
  go_ret
  exact ⟨rfl, hb⟩
end Go.Proofs.YtldpflijgbcbhaaDoor
