/- nat.add. -/
import Derived.Test.YtbhndnjlplibmaaDoorBg5
import Derived.StillTailTactics
namespace Go.Proofs.YtbhndnjlplibmaaDoor.big
open Go.RowKit

theorem addVV_enters (args : Array Value) (w : World) : (callFunc 141 args).run Tryd.prog w = .ok (.enter 118 args) w :=
  run_callFunc_twin (twin := "math/big.addVV_g") Tryd.func141 (by kernel_rfl) (by kernel_rfl) (by kernel_rfl) (by kernel_rfl) Tryd.func118 (by kernel_rfl) (by kernel_rfl) (by kernel_rfl) args w
theorem subVV_enters (args : Array Value) (w : World) : (callFunc 145 args).run Tryd.prog w = .ok (.enter 119 args) w :=
  run_callFunc_twin (twin := "math/big.subVV_g") Tryd.func145 (by kernel_rfl) (by kernel_rfl) (by kernel_rfl) (by kernel_rfl) Tryd.func119 (by kernel_rfl) (by kernel_rfl) (by kernel_rfl) args w

/-- one word and one word -/
def sumS (x y : Nat) : Nat := (x + y) % 18446744073709551616
def sumC (x y : Nat) : Nat := (x + y) / 18446744073709551616

theorem one_set {W : World} {zb q0 : Nat} {R : List Nat} (hz : W.heap[zb]? = some (wObj (q0 :: R))) (n s : Nat) : ((W.drewN n).setCell ⟨zb, 0, none⟩ (.int .u64 (s : Int))).heap[zb]? = some (wObj (s :: R)) := by
  have h1 := Go.Proofs.YtbhndnjlplibmaaDoor.heap_setCell_same (w := W.drewN n) (b := zb) (j := 0) (cs := wordsA (q0 :: R)) (t := 207) hz (.int .u64 (s : Int))
  rw [wordsA_set] at h1
  exact h1
theorem two_set {W : World} {zb q0 q1 : Nat} {R : List Nat} (hz : W.heap[zb]? = some (wObj (q0 :: q1 :: R))) (n s c : Nat) : (((W.drewN n).setCell ⟨zb, 0, none⟩ (.int .u64 (s : Int))).setCell ⟨zb, 1, none⟩ (.int .u64 (c : Int))).heap[zb]? = some (wObj (s :: c :: R)) := by
  have h1 := one_set hz n s
  have h2 := Go.Proofs.YtbhndnjlplibmaaDoor.heap_setCell_same (b := zb) (j := 1) (cs := wordsA (s :: q1 :: R)) (t := 207) h1 (.int .u64 (c : Int))
  rw [wordsA_set] at h2
  exact h2
theorem words_cell {W : World} {zb : Nat} {L : List Nat} (hz : W.heap[zb]? = some (wObj L)) {i : Nat} (hi : i < L.length) : W.cell? ⟨zb, i, none⟩ = some (.int .u64 ((L.getD i 0 : Nat) : Int)) := by
  rw [cell_of_heap hz, wordsA_at _ hi]

set_option maxRecDepth 100000 in
set_option maxHeartbeats 1000000 in
theorem add_11 (b cap yb yc x y zb q0 q1 : Nat) (R : List Nat) (w W : World) (hx : 0 < x) (hxw : x < W64) (hyw : y < W64)
    (hmk : ∀ V : World, V = w → Calls Tryd.prog 140 #[.slice (some ⟨b, 0, none⟩) 1 cap, .int .i64 2] V fun e w' => e = .returned (.slice (some ⟨zb, 0, none⟩) 2 6) ∧ w' = W)
    (cx : W.cell? ⟨b, 0, none⟩ = some (.int .u64 (x : Int))) (cy : W.cell? ⟨yb, 0, none⟩ = some (.int .u64 (y : Int))) (hz : W.heap[zb]? = some (wObj (q0 :: q1 :: R))) (hc1 : 1 ≤ cap) (hy1 : 1 ≤ yc) :
    Calls Tryd.prog 124 #[.slice (some ⟨b, 0, none⟩) 1 cap, .slice (some ⟨b, 0, none⟩) 1 cap, .slice (some ⟨yb, 0, none⟩) 1 yc] w fun e w' => e = .returned (.slice (some ⟨zb, 0, none⟩) (if sumC x y = 0 then 1 else 2) 6) ∧ ∃ n, w' = ((W.drewN n).setCell ⟨zb, 0, none⟩ (.int .u64 ((sumS x y : Nat) : Int))).setCell ⟨zb, 1, none⟩ (.int .u64 ((sumC x y : Nat) : Int)) := by
  have z0 : W.cell? ⟨zb, 0, none⟩ = some (.int .u64 ((q0 : Nat) : Int)) := words_cell hz (by simp)
  have z1 : W.cell? ⟨zb, 1, none⟩ = some (.int .u64 ((q1 : Nat) : Int)) := words_cell hz (by simp)
  have f0 : ∀ i, W.frozen? ⟨zb, i, none⟩ = false := free_of_heap hz
  have hfin := fun n => Lib.hid (two_set hz n (sumS x y) (sumC x y))
  have henter := addVV_enters
  have hci : (1 : Int) ≤ (cap : Int) := by omega
  have hyi : (1 : Int) ≤ (yc : Int) := by omega
  have hvv := fun V : World => fun (h : V = W.drew) => addVV1 zb b yb 0 0 0 6 cap yc x y (.int .u64 ((q0 : Nat) : Int)) hxw hyw V (by rw [h]; exact cx) (by rw [h]; exact cy) (by rw [h]; exact z0) (by rw [h]; exact f0 0)
  have hs0 : sumC x y = 0 → sumS x y ≠ 0 := by unfold sumC sumS; unfold W64 at hxw hyw; omega
  rw [show ((x + y) % 18446744073709551616 : Nat) = sumS x y from rfl, show ((x + y) / 18446744073709551616 : Nat) = sumC x y from rfl] at hvv
  have htl : tl (fun i => if i = 0 then sumS x y else sumC x y) 2 = if sumC x y = 0 then 1 else 2 := by
    simp only [tl]
    by_cases h : sumC x y = 0
    · simp [h, hs0 h]
    · simp [h]
  have hnorm : ∀ V : World, V.cell? ⟨zb, 0, none⟩ = some (.int .u64 ((sumS x y : Nat) : Int)) → V.cell? ⟨zb, 1, none⟩ = some (.int .u64 ((sumC x y : Nat) : Int)) → Calls Tryd.prog 143 #[.slice (some ⟨zb, 0, none⟩) 2 6] V fun e w' => e = .returned (.slice (some ⟨zb, 0, none⟩) (if sumC x y = 0 then 1 else 2) 6) ∧ w' = V := fun V g0 g1 => by
    rw [← htl]
    refine norm_any zb 2 6 (fun i => if i = 0 then sumS x y else sumC x y) V (fun i hi => ?_) (by omega) (by omega)
    match i, hi with
    | 0, _ => exact g0
    | 1, _ => exact g1
  clear htl
  generalize (if sumC x y = 0 then 1 else 2) = T at *
  have f1 := f0 1
  have F0 := Lib.hid f0
  clear hs0 hxw hyw hx f0 hz
  generalize sumS x y = s at *
  generalize sumC x y = c at *
  go_enter Tryd.func124, Tryd.ntmps124
  go_wp2_with (go_at_call 140; refine (hmk _ rfl).mono ?_; rintro e w' ⟨rfl, rfl⟩)
  go_still_tail 9, (by kernel_rfl)
  change wpList _ _ _ _ _ w'.drew
  go_wp2_with fail
  refine (hvv _ rfl).mono ?_
  rintro e w2 ⟨rfl, n, rfl⟩
  clear hvv hmk
  go_wp2_with fail
  refine (hnorm _ (words_cell (hfin (1 + n)).out (by simp)) (words_cell (hfin (1 + n)).out (by simp))).mono ?_
  rintro e w3 ⟨rfl, rfl⟩
  clear hnorm
  go_wp2_with fail
  go_ret
  exact ⟨rfl, 1 + n, rfl⟩
end Go.Proofs.YtbhndnjlplibmaaDoor.big
