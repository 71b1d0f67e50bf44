/- nat.sub: two words less one, in place. -/
import Derived.Test.YtbhndnjlplibmaaDoorBg6
import Derived.WalkSmall
namespace Go.Proofs.YtbhndnjlplibmaaDoor.big
open Go.RowKit

set_option maxRecDepth 100000 in
set_option maxHeartbeats 1000000 in
theorem sub_21 (b yb yc x0 x1 y s c : Nat) (R : List Nat) (w : World) (hx0 : x0 < W64) (hx1 : x1 < W64) (hyw : y < W64) (hp : 0 < x1) (hsd : (x0 + 18446744073709551616 - y) % 18446744073709551616 = s) (hcd : (if x0 < y then 1 else 0 : Nat) = c)
    (hz : w.heap[b]? = some (wObj (x0 :: x1 :: R))) (cy : w.cell? ⟨yb, 0, none⟩ = some (.int .u64 (y : Int))) (hy1 : 1 ≤ yc) :
    Calls Tryd.prog 126 #[.slice (some ⟨b, 0, none⟩) 2 6, .slice (some ⟨b, 0, none⟩) 2 6, .slice (some ⟨yb, 0, none⟩) 1 yc] w fun e w' => e = .returned (.slice (some ⟨b, 0, none⟩) (if x1 - c = 0 then 1 else 2) 6) ∧ Only (fun k => k = b) w w' ∧ w'.heap[b]? = some (wObj (s :: (x1 - c) :: R)) := by
  have cx : w.cell? ⟨b, 0, none⟩ = some (.int .u64 ((x0 : Nat) : Int)) := words_cell hz (by simp)
  have f0 := free_of_heap hz 0
  have hfin := fun n => Lib.hid (one_set hz n (s))
  have hc1 : c ≤ 1 := by rw [← hcd]; split <;> omega
  have hs0 : x1 - c = 0 → s ≠ 0 := by unfold W64 at hx0 hyw; intro h; rw [← hcd] at h; split at h <;> omega
  have henter := subVV_enters
  have hyi : (1 : Int) ≤ (yc : Int) := by omega
  have hmk : ∀ W, Calls Tryd.prog 140 #[.slice (some ⟨b, 0, none⟩) 2 6, .int .i64 2] W fun e w' => e = .returned (.slice (some ⟨b, 0, none⟩) 2 6) ∧ w' = W := make_in (some ⟨b, 0, none⟩) 2 6 2 (by omega)
  have hvv := fun V : World => fun (h : V = w.drew) => subVV1 b b yb 0 0 0 6 6 yc x0 y (.int .u64 ((x0 : Nat) : Int)) hx0 hyw V (by rw [h]; exact cx) (by rw [h]; exact cy) (by rw [h]; exact cx) (by rw [h]; exact f0)
  rw [hsd, hcd] at hvv
  obtain ⟨T, hT⟩ : ∃ T, T = if x1 - c = 0 then 1 else 2 := ⟨_, rfl⟩
  rw [← hT]
  clear hx0 hyw hz f0 hsd hcd
  go_enter Tryd.func126, Tryd.ntmps126
  go_wp2_with (go_at_call 140; refine (hmk _).mono ?_; rintro e w' ⟨rfl, rfl⟩)
  clear hmk
  go_still_tail 9, (by kernel_rfl)
  change wpList _ _ _ _ _ (World.drew _)
  go_wp2_with fail
  refine (hvv _ rfl).mono ?_
  rintro e w2 ⟨rfl, n, rfl⟩
  have h1 := (hfin (1 + n)).out
  have ho1 : Only (fun k => k = b) w' ((w'.drewN (1 + n)).setCell ⟨b, 0, none⟩ (.int .u64 (s : Int))) := Only.setCell (S := fun k => k = b) (p := ⟨b, 0, none⟩) (Only.of_below (below_drewN (Below.refl _ _) _)) rfl _
  clear hvv hfin henter cx cy
  have HH1 := Lib.hid h1
  have HO1 := Lib.hid ho1
  clear h1 ho1
  go_wp2_with fail
  obtain ⟨w1, hw1⟩ : ∃ w1, w1 = (w'.drewN (1 + n)).setCell ⟨b, 0, none⟩ (.int .u64 (s : Int)) := ⟨_, rfl⟩
  rw [← hw1] at HH1 HO1 ⊢
  have cx1 : w1.cell? ⟨b, 1, none⟩ = some (.int .u64 (x1 : Int)) := words_cell HH1.out (by simp)
  have f1 := free_of_heap HH1.out 1
  have hvw := fun V : World => fun (h : V = w1.drew) => subVW1 b 1 5 5 x1 c hx1 hc1 V (by rw [h]; exact cx1) (by rw [h]; exact f1)
  have e1 : (x1 + 18446744073709551616 - c) % 18446744073709551616 = x1 - c := by unfold W64 at hx1; omega
  have e2 : (if x1 < c then 1 else 0 : Nat) = 0 := if_neg (by omega)
  rw [e1, e2] at hvw
  clear e1 e2 hw1 hp hx1 hc1
  have HX := Lib.hid cx1
  clear cx1 f1
  obtain ⟨s1, hs1⟩ : ∃ s1, s1 = x1 - c := ⟨_, rfl⟩
  rw [← hs1] at hvw hs0 hT
  have HS1 := Lib.hid hs1
  clear hs1
  go_still_tail 7, (by kernel_rfl)
  change wpList _ _ _ _ _ (World.drew _)
  go_wp2_with fail
  refine (hvw _ rfl).mono ?_
  rintro e w2 ⟨rfl, n2, rfl⟩
  clear hvw
  obtain ⟨w2, hw2⟩ : ∃ w2, w2 = (w1.drew.setCell ⟨b, 1, none⟩ (.int .u64 ((s1 : Nat) : Int))).drewN n2 := ⟨_, rfl⟩
  have h2 : w2.heap[b]? = some (wObj (s :: s1 :: R)) := by
    rw [hw2]
    have h := Go.Proofs.YtbhndnjlplibmaaDoor.heap_setCell_same (w := w1.drew) (b := b) (j := 1) (cs := wordsA (s :: x1 :: R)) (t := 207) HH1.out (.int .u64 ((s1 : Nat) : Int))
    rw [wordsA_set] at h
    exact h
  have ho2 : Only (fun k => k = b) w' w2 := by
    rw [hw2]
    exact Only.later (Only.setCell (S := fun k => k = b) (p := ⟨b, 1, none⟩) (Only.drew HO1.out) rfl _) (below_drewN (Below.refl _ _) _)
  rw [← hw2]
  clear hw2
  have hnorm : Calls Tryd.prog 143 #[.slice (some ⟨b, 0, none⟩) 2 6] w2 fun e w' => e = .returned (.slice (some ⟨b, 0, none⟩) T 6) ∧ w' = w2 := by
    have h := norm_any b 2 6 (fun i => if i = 0 then s else s1) w2 (fun i hi => by
      match i, hi with
      | 0, _ => exact words_cell h2 (by simp)
      | 1, _ => exact words_cell h2 (by simp)) (by omega) (by omega)
    rw [show tl (fun i => if i = 0 then s else s1) 2 = T by
      rw [hT]; simp only [tl]
      by_cases h : s1 = 0
      · simp [h, hs0 h]
      · simp [h]] at h
    exact h
  have HN := Lib.hid hnorm
  have HF := Lib.hid (And.intro ho2 h2)
  clear hnorm h2 ho2 HH1 HO1 hs0 hT
  go_wp2_with fail
  refine HN.out.mono ?_
  rintro e w3 ⟨rfl, rfl⟩
  clear HN
  go_wp2_with fail
  go_ret
  exact ⟨rfl, HF.out.1, by rw [← HS1.out]; exact HF.out.2⟩
end Go.Proofs.YtbhndnjlplibmaaDoor.big
