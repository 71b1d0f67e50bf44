/- (*big.Int).Add where x is the receiver, and the signs are contrary. -/
import Derived.Test.YtbhndnjlplibmaaDoorBg11
namespace Go.Proofs.YtbhndnjlplibmaaDoor.big
open Go.RowKit

theorem quietK {P : Program} {f : FuncId} {args : Array Value} {v : Value} {w : World} (h : ∀ k, Calls P f args (w.drewN k) fun e w' => e = .returned v ∧ ∃ m, w' = w.drewN (k + m)) (a n : Nat) :
    Calls P f args (w.drewN (a + n)) fun e w2 => e = .returned v ∧ ∃ m, w2 = w.drewN (a + m) :=
  (h _).mono fun _ _ ⟨he, m, hm⟩ => ⟨he, n + m, by rw [hm, Nat.add_assoc]⟩

set_option maxRecDepth 100000 in
set_option maxHeartbeats 1000000 in
theorem add_ge (p py : Nat) (neg : Bool) (ao yo ro : Option Addr) (n cap yn yc rn rc : Nat) (r : Int) (Q : World → Prop) (w : World)
    (hx : w.heap[p]? = some (iObj neg (.slice ao n cap))) (hy : w.heap[py]? = some (iObj (!neg) (.slice yo yn yc)))
    (hr0 : decide ((0 : Int) ≤ r) = true) (hcmp : ∀ k, Calls Tryd.prog 125 #[.slice ao n cap, .slice yo yn yc] (w.drewN k) fun e w' => e = .returned (.int .i64 r) ∧ ∃ m, w' = w.drewN (k + m))
    (hadd : ∀ V : World, (∃ k, V = w.drewN k) → Calls Tryd.prog 126 #[.slice ao n cap, .slice ao n cap, .slice yo yn yc] V fun e w' => e = .returned (.slice ro rn rc) ∧ Q w')
    (hQ : ∀ w', Q w' → w'.heap[p]? = some (iObj neg (.slice ao n cap))) :
    Calls Tryd.prog 103 #[.pointer (some ⟨p, 0, none⟩), .pointer (some ⟨p, 0, none⟩), .pointer (some ⟨py, 0, none⟩)] w fun e w' => e = .returned (.pointer (some ⟨p, 0, none⟩)) ∧ ∃ w1, Q w1 ∧ w' = (w1.setCell ⟨p, 1, none⟩ (.slice ro rn rc)).setCell ⟨p, 0, none⟩ (.bool (decide (0 < rn) && neg)) := by
  have x0 : w.cell? ⟨p, 0, none⟩ = some (.bool neg) := by rw [cell_of_heap hx]; rfl
  have x1 : w.cell? ⟨p, 1, none⟩ = some (.slice ao n cap) := by rw [cell_of_heap hx]; rfl
  have y0 : w.cell? ⟨py, 0, none⟩ = some (.bool (!neg)) := by rw [cell_of_heap hy]; rfl
  have y1 : w.cell? ⟨py, 1, none⟩ = some (.slice yo yn yc) := by rw [cell_of_heap hy]; rfl
  have hbb : (neg == !neg) = false := by cases neg <;> rfl
  have hcm := Lib.hid hcmp
  clear hcmp
  have HQ := Lib.hid hQ
  have HADD := Lib.hid hadd
  clear hx hy hQ hadd
  have hr2 : (decide (0 < rn) = true ∧ decide ((0 : Int) < (rn : Int)) = true) ∨ (decide (0 < rn) = false ∧ decide ((0 : Int) < (rn : Int)) = false) := by
    simp only [decide_eq_true_eq, decide_eq_false_iff_not]; omega
  rcases hr2 with ⟨hr, hri⟩ | ⟨hr, hri⟩
  all_goals
    rw [hr]
    go_enter Tryd.func103, Tryd.ntmps103
    go_wp2_with fail
    go_quiet (fail)
    go_wp2_with fail
    go_quiet ((go_at_call 125; exact quietK hcm.out _ _))
    go_wp2_with fail
    go_region_law
      (go_simp; go_at_call 126; refine (HADD.out _ ⟨_, rfl⟩).mono ?_; rintro e w1 ⟨rfl, hq⟩; have hh := HQ.out w1 hq; have k0 : w1.cell? ⟨p, 0, none⟩ = some (.bool neg) := (by rw [cell_of_heap hh]; rfl); have k1 : w1.cell? ⟨p, 1, none⟩ = some (.slice ao n cap) := (by rw [cell_of_heap hh]; rfl); have f0 := free_of_heap hh 0; have f1 := free_of_heap hh 1; have QQ := Lib.hid hq; clear hh hq)
    all_goals
      go_wp2_with fail
      go_ret
      exact ⟨rfl, w1, QQ.out, by simp only [Bool.true_and, Bool.false_and]⟩
end Go.Proofs.YtbhndnjlplibmaaDoor.big
