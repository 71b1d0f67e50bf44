/- ledger.some by either choice. -/
import Derived.Test.YtbhndnjlplibmaaEn1
namespace Go.Proofs.Ytbhndnjlplibmaa.lg
open Go.RowKit

set_option maxRecDepth 100000 in
set_option maxHeartbeats 4000000 in
theorem pick_bal (n : Int) (g : Nat) (e : EntryM) (lao : Option Addr) (lc : Nat) (w : World) (hg : w.cell? ⟨g, 0, none⟩ = some (.int .i64 n)) (hlt : g < w.heap.size) :
    Calls Try.prog 34 #[.agg #[.string e.ref, .int .i64 e.ent, .int .i64 e.per, .slice lao e.lines.length lc], .pointer (some ⟨g, 0, none⟩)] w fun e' w' => e' = .returned (.bool (pickBal n e)) ∧ Below w.heap.size w w' := by
  obtain ⟨W, hW⟩ : ∃ W, W = w.alloc (.cells #[.string e.ref, .int .i64 e.ent, .int .i64 e.per, .slice lao e.lines.length lc] 50) := ⟨_, rfl⟩
  have hb : Below w.heap.size w W := by rw [hW]; exact (Below.refl _ _).alloc (Nat.le_refl _) _
  have k1 := (hb.cell (p := ⟨g, 0, none⟩) hlt).trans hg
  have k2 : W.heap[w.heap.size]? = some (.cells #[.string e.ref, .int .i64 e.ent, .int .i64 e.per, .slice lao e.lines.length lc] 50 (0, 0)) := by rw [hW]; exact heap_new_at rfl _
  have k3 : W.cell? ⟨w.heap.size, 2, none⟩ = some (.int .i64 e.per) := cell_of_heap k2 2
  have HB := Lib.hid hb
  have HW := Lib.hid hW
  clear hb hW k2 hg
  by_cases h : e.per ≤ n
  · have hp : Hid (pickBal n e = true) := decide_eq_true h
    have hd : decide (e.per ≤ n) = true := decide_eq_true h
    go_enter Try.func34, Try.ntmps34
    go_wp2_with (rw [← HW.out])
    go_ret
    exact ⟨ret_bool hp.out.symm, HB.out⟩
  · have hp : Hid (pickBal n e = false) := decide_eq_false h
    have hd : decide (e.per ≤ n) = false := decide_eq_false h
    go_enter Try.func34, Try.ntmps34
    go_wp2_with (rw [← HW.out])
    go_ret
    exact ⟨ret_bool hp.out.symm, HB.out⟩
set_option maxRecDepth 100000 in
set_option maxHeartbeats 4000000 in
theorem pick_trial (m n : Int) (f g : Nat) (e : EntryM) (lao : Option Addr) (lc : Nat) (w : World) (hf : w.cell? ⟨f, 0, none⟩ = some (.int .i64 m)) (hg : w.cell? ⟨g, 0, none⟩ = some (.int .i64 n)) (hft : f < w.heap.size) (hlt : g < w.heap.size) :
    Calls Try.prog 33 #[.agg #[.string e.ref, .int .i64 e.ent, .int .i64 e.per, .slice lao e.lines.length lc], .pointer (some ⟨f, 0, none⟩), .pointer (some ⟨g, 0, none⟩)] w fun e' w' => e' = .returned (.bool (pickTrial m n e)) ∧ Below w.heap.size w w' := by
  obtain ⟨W, hW⟩ : ∃ W, W = w.alloc (.cells #[.string e.ref, .int .i64 e.ent, .int .i64 e.per, .slice lao e.lines.length lc] 50) := ⟨_, rfl⟩
  have hb : Below w.heap.size w W := by rw [hW]; exact (Below.refl _ _).alloc (Nat.le_refl _) _
  have k0 := (hb.cell (p := ⟨f, 0, none⟩) hft).trans hf
  have k1 := (hb.cell (p := ⟨g, 0, none⟩) hlt).trans hg
  have k2 : W.heap[w.heap.size]? = some (.cells #[.string e.ref, .int .i64 e.ent, .int .i64 e.per, .slice lao e.lines.length lc] 50 (0, 0)) := by rw [hW]; exact heap_new_at rfl _
  have k3 : W.cell? ⟨w.heap.size, 2, none⟩ = some (.int .i64 e.per) := cell_of_heap k2 2
  have k4 : W.cell? ⟨w.heap.size, 1, none⟩ = some (.int .i64 e.ent) := cell_of_heap k2 1
  have HB := Lib.hid hb
  have HW := Lib.hid hW
  clear hb hW k2 hf hg
  by_cases h1 : e.ent = m
  · have hd1 : (e.ent == m) = true := by rw [h1]; simp
    by_cases h2 : e.per = n
    · have hd2 : (e.per == n) = true := by rw [h2]; simp
      have hp : Hid (pickTrial m n e = true) := by show _ = _; unfold pickTrial; rw [decide_eq_true h1, decide_eq_true h2]; rfl
      clear h1 h2
      go_enter Try.func33, Try.ntmps33
      go_wp2_with (rw [← HW.out])
      go_ret
      exact ⟨ret_bool hp.out.symm, HB.out⟩
    · have hd2 : (e.per == n) = false := by simpa using h2
      have hp : Hid (pickTrial m n e = false) := by show _ = _; unfold pickTrial; rw [decide_eq_false h2, Bool.and_false]
      clear h1 h2
      go_enter Try.func33, Try.ntmps33
      go_wp2_with (rw [← HW.out])
      go_ret
      exact ⟨ret_bool hp.out.symm, HB.out⟩
  · have hd1 : (e.ent == m) = false := by simpa using h1
    have hp : Hid (pickTrial m n e = false) := by show _ = _; unfold pickTrial; rw [decide_eq_false h1, Bool.false_and]
    clear h1
    go_enter Try.func33, Try.ntmps33
    go_wp2_with (rw [← HW.out])
    go_ret
    exact ⟨ret_bool hp.out.symm, HB.out⟩
end Go.Proofs.Ytbhndnjlplibmaa.lg
