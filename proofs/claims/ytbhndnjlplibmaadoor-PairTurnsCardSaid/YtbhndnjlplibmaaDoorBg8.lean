/- nat.sub: one word and one. -/
import Derived.Test.YtbhndnjlplibmaaDoorBg6
namespace Go.Proofs.YtbhndnjlplibmaaDoor.big
open Go.RowKit

set_option maxRecDepth 100000 in
set_option maxHeartbeats 1000000 in
theorem sub_11 (xb xc yb yc x y zb zn zc q0 : Nat) (R : List Nat) (w : World) (hle : y ≤ x) (hxw : x < W64) (hyw : y < W64)
    (cx : w.cell? ⟨xb, 0, none⟩ = some (.int .u64 (x : Int))) (cy : w.cell? ⟨yb, 0, none⟩ = some (.int .u64 (y : Int))) (hz : w.heap[zb]? = some (wObj (q0 :: R))) (hl : (q0 :: R).length = zc) (hx1 : 1 ≤ xc) (hy1 : 1 ≤ yc) :
    Calls Tryd.prog 126 #[.slice (some ⟨zb, 0, none⟩) zn zc, .slice (some ⟨xb, 0, none⟩) 1 xc, .slice (some ⟨yb, 0, none⟩) 1 yc] w fun e w' => e = .returned (.slice (some ⟨zb, 0, none⟩) (if x - y = 0 then 0 else 1) zc) ∧ ∃ n, w' = (w.drewN n).setCell ⟨zb, 0, none⟩ (.int .u64 ((x - y : Nat) : Int)) := by
  have hz1 : 1 ≤ zc := by simp at hl; omega
  have z0 : w.cell? ⟨zb, 0, none⟩ = some (.int .u64 ((q0 : Nat) : Int)) := words_cell hz (by simp)
  have f0 := free_of_heap hz 0
  have hfin := fun n => Lib.hid (one_set hz n (x - y))
  have henter := subVV_enters
  have hci : (1 : Int) ≤ (xc : Int) := by omega
  have hyi : (1 : Int) ≤ (yc : Int) := by omega
  have hzi : (1 : Int) ≤ (zc : Int) := by omega
  have hmk : ∀ W, Calls Tryd.prog 140 #[.slice (some ⟨zb, 0, none⟩) zn zc, .int .i64 1] W fun e w' => e = .returned (.slice (some ⟨zb, 0, none⟩) 1 zc) ∧ w' = W := make_in (some ⟨zb, 0, none⟩) zn zc 1 hz1
  have hvv := fun V : World => fun (h : V = w.drew) => subVV1 zb xb yb 0 0 0 zc xc yc x y (.int .u64 ((q0 : Nat) : Int)) hxw hyw V (by rw [h]; exact cx) (by rw [h]; exact cy) (by rw [h]; exact z0) (by rw [h]; exact f0)
  have e1 : ((x + 18446744073709551616 - y) % 18446744073709551616 : Nat) = x - y := by unfold W64 at hxw; omega
  have e2 : (if x < y then 1 else 0 : Nat) = 0 := if_neg (by omega)
  rw [e1, e2] at hvv
  clear e1 e2
  have hnorm : ∀ V : World, V.cell? ⟨zb, 0, none⟩ = some (.int .u64 ((x - y : Nat) : Int)) → Calls Tryd.prog 143 #[.slice (some ⟨zb, 0, none⟩) 1 zc] V fun e w' => e = .returned (.slice (some ⟨zb, 0, none⟩) (if x - y = 0 then 0 else 1) zc) ∧ w' = V := fun V g0 =>
    norm_any zb 1 zc (fun _ => x - y) V (fun i hi => by obtain rfl : i = 0 := (by omega); exact g0) (by omega) hz1
  clear hxw hyw hz hl f0
  generalize (if x - y = 0 then 0 else 1) = T at *
  generalize x - y = s at *
  go_enter Tryd.func126, Tryd.ntmps126
  go_wp2_with (go_at_call 140; refine (hmk _).mono ?_; rintro e w' ⟨rfl, rfl⟩)
  go_still_tail 9, (by kernel_rfl)
  change wpList _ _ _ _ _ (World.drew _)
  go_wp2_with fail
  refine (hvv _ rfl).mono ?_
  rintro e w2 ⟨rfl, n, rfl⟩
  clear hvv hmk
  go_wp2_with fail
  refine (hnorm _ (words_cell (hfin (1 + n)).out (by simp))).mono ?_
  rintro e w3 ⟨rfl, rfl⟩
  clear hnorm
  go_wp2_with fail
  go_ret
  exact ⟨rfl, 1 + n, rfl⟩
end Go.Proofs.YtbhndnjlplibmaaDoor.big
