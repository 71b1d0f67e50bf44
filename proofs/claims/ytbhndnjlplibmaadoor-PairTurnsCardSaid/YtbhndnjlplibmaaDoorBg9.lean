/- nat.add, nat.sub: two words and one, in place. -/
import Derived.Test.YtbhndnjlplibmaaDoorBg6
import Derived.WalkSmall
namespace Go.Proofs.YtbhndnjlplibmaaDoor.big
open Go.RowKit

set_option maxRecDepth 100000 in
set_option maxHeartbeats 1000000 in
theorem add_21 (b yb yc x0 x1 y q2 : Nat) (R : List Nat) (w : World) (hx0 : x0 < W64) (hx1 : x1 < W64) (hyw : y < W64) (hp : 0 < x1) (hs : x1 + sumC x0 y < W64)
    (hz : w.heap[b]? = some (wObj (x0 :: x1 :: q2 :: R))) (cy : w.cell? ⟨yb, 0, none⟩ = some (.int .u64 (y : Int))) (hy1 : 1 ≤ yc) :
    Calls Tryd.prog 124 #[.slice (some ⟨b, 0, none⟩) 2 6, .slice (some ⟨b, 0, none⟩) 2 6, .slice (some ⟨yb, 0, none⟩) 1 yc] w fun e w' => e = .returned (.slice (some ⟨b, 0, none⟩) 2 6) ∧ Only (fun k => k = b) w w' ∧ w'.heap[b]? = some (wObj (sumS x0 y :: (x1 + sumC x0 y) :: 0 :: R)) := by
  have cx : w.cell? ⟨b, 0, none⟩ = some (.int .u64 ((x0 : Nat) : Int)) := words_cell hz (by simp)
  have f0 := free_of_heap hz 0
  have hfin := fun n => Lib.hid (one_set hz n (sumS x0 y))
  have hc1 : sumC x0 y ≤ 1 := by unfold sumC; unfold W64 at hx0 hyw; omega
  have henter := addVV_enters
  have hyi : (1 : Int) ≤ (yc : Int) := by omega
  have hmk : ∀ W, Calls Tryd.prog 140 #[.slice (some ⟨b, 0, none⟩) 2 6, .int .i64 3] W fun e w' => e = .returned (.slice (some ⟨b, 0, none⟩) 3 6) ∧ w' = W := make_in (some ⟨b, 0, none⟩) 2 6 3 (by omega)
  have hvv := fun V : World => fun (h : V = w.drew) => addVV1 b b yb 0 0 0 6 6 yc x0 y (.int .u64 ((x0 : Nat) : Int)) hx0 hyw V (by rw [h]; exact cx) (by rw [h]; exact cy) (by rw [h]; exact cx) (by rw [h]; exact f0)
  rw [show ((x0 + y) % 18446744073709551616 : Nat) = sumS x0 y from rfl, show ((x0 + y) / 18446744073709551616 : Nat) = sumC x0 y from rfl] at hvv
  clear hx0 hyw hz f0
  generalize sumS x0 y = s at *
  generalize sumC x0 y = c at *
  go_enter Tryd.func124, Tryd.ntmps124
  go_wp2_with (go_at_call 140; refine (hmk _).mono ?_; rintro e w' ⟨rfl, rfl⟩)
  clear hmk
  go_still_tail 9, (by kernel_rfl)
  change wpList _ _ _ _ _ (World.drew _)
  go_wp2_with fail
  refine (hvv _ rfl).mono ?_
  rintro e w2 ⟨rfl, n, rfl⟩
  have h1 := (hfin (1 + n)).out
  have ho1 : Only (fun k => k = b) w' ((w'.drewN (1 + n)).setCell ⟨b, 0, none⟩ (.int .u64 (s : Int))) := Only.setCell (S := fun k => k = b) (p := ⟨b, 0, none⟩) (Only.of_below (below_drewN (Below.refl _ _) _)) rfl _
  clear hvv hfin henter cx cy
  have HH1 := Lib.hid h1
  have HO1 := Lib.hid ho1
  clear h1 ho1
  go_wp2_with fail
  obtain ⟨w1, hw1⟩ : ∃ w1, w1 = (w'.drewN (1 + n)).setCell ⟨b, 0, none⟩ (.int .u64 (s : Int)) := ⟨_, rfl⟩
  rw [← hw1] at HH1 HO1 ⊢
  have cx1 : w1.cell? ⟨b, 1, none⟩ = some (.int .u64 (x1 : Int)) := words_cell HH1.out (by simp)
  have f1 := free_of_heap HH1.out 1
  have hvw := fun V : World => fun (h : V = w1.drew) => addVW1 b 1 5 5 x1 c hx1 hc1 V (by rw [h]; exact cx1) (by rw [h]; exact f1)
  have e1 : (x1 + c) % 18446744073709551616 = x1 + c := by unfold W64 at hs; omega
  have e2 : (x1 + c) / 18446744073709551616 = 0 := by unfold W64 at hs; omega
  rw [e1, e2] at hvw
  have hp1 : x1 + c ≠ 0 := by omega
  clear e1 e2 hw1 hs hp hx1 hc1
  have HX := Lib.hid cx1
  clear cx1 f1
  obtain ⟨s1, hs1⟩ : ∃ s1, s1 = x1 + c := ⟨_, rfl⟩
  rw [← hs1] at hvw hp1
  have HS1 := Lib.hid hs1
  clear hs1
  go_still_tail 8, (by kernel_rfl)
  change wpList _ _ _ _ _ (World.drew _)
  go_wp2_with fail
  refine (hvw _ rfl).mono ?_
  rintro e w2 ⟨rfl, n2, rfl⟩
  clear hvw
  obtain ⟨w2, hw2⟩ : ∃ w2, w2 = (w1.drew.setCell ⟨b, 1, none⟩ (.int .u64 ((s1 : Nat) : Int))).drewN n2 := ⟨_, rfl⟩
  have h2 : w2.heap[b]? = some (wObj (s :: s1 :: q2 :: R)) := by
    rw [hw2]
    have h := Go.Proofs.YtbhndnjlplibmaaDoor.heap_setCell_same (w := w1.drew) (b := b) (j := 1) (cs := wordsA (s :: x1 :: q2 :: R)) (t := 207) HH1.out (.int .u64 ((s1 : Nat) : Int))
    rw [wordsA_set] at h
    exact h
  have ho2 : Only (fun k => k = b) w' w2 := by
    rw [hw2]
    exact Only.later (Only.setCell (S := fun k => k = b) (p := ⟨b, 1, none⟩) (Only.drew HO1.out) rfl _) (below_drewN (Below.refl _ _) _)
  rw [← hw2]
  clear hw2
  have z2 : w2.cell? ⟨b, 2, none⟩ = some (.int .u64 ((q2 : Nat) : Int)) := words_cell h2 (by simp)
  have f2 := free_of_heap h2 2
  have h3 : (w2.setCell ⟨b, 2, none⟩ (.int .u64 0)).heap[b]? = some (wObj (s :: s1 :: 0 :: R)) := by
    have h := Go.Proofs.YtbhndnjlplibmaaDoor.heap_setCell_same (w := w2) (b := b) (j := 2) (cs := wordsA (s :: s1 :: q2 :: R)) (t := 207) h2 (.int .u64 ((0 : Nat) : Int))
    rw [wordsA_set] at h
    exact h
  have ho3 : Only (fun k => k = b) w' (w2.setCell ⟨b, 2, none⟩ (.int .u64 0)) := Only.setCell (S := fun k => k = b) (p := ⟨b, 2, none⟩) ho2 rfl _
  have hnorm : Calls Tryd.prog 143 #[.slice (some ⟨b, 0, none⟩) 3 6] (w2.setCell ⟨b, 2, none⟩ (.int .u64 0)) fun e w' => e = .returned (.slice (some ⟨b, 0, none⟩) 2 6) ∧ w' = (w2.setCell ⟨b, 2, none⟩ (.int .u64 0)) := by
    have h := norm_any b 3 6 (fun i => if i = 0 then s else if i = 1 then s1 else 0) (w2.setCell ⟨b, 2, none⟩ (.int .u64 0)) (fun i hi => by
      match i, hi with
      | 0, _ => exact words_cell h3 (by simp)
      | 1, _ => exact words_cell h3 (by simp)
      | 2, _ => exact words_cell h3 (by simp)) (by omega) (by omega)
    rw [show tl (fun i => if i = 0 then s else if i = 1 then s1 else 0) 3 = 2 by simp [tl, hp1]] at h
    exact h
  have HN := Lib.hid hnorm
  have HF := Lib.hid (And.intro ho3 h3)
  clear hnorm ho3 h3 h2 ho2 HH1 HO1
  go_wp2_with fail
  refine HN.out.mono ?_
  rintro e w3 ⟨rfl, rfl⟩
  clear HN
  go_wp2_with fail
  go_ret
  exact ⟨rfl, HF.out.1, by rw [← HS1.out]; exact HF.out.2⟩
end Go.Proofs.YtbhndnjlplibmaaDoor.big
