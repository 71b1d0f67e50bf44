/- nat.add at whatever the receiver holds. -/
import Derived.Test.YtbhndnjlplibmaaDoorBg16
namespace Go.Proofs.YtbhndnjlplibmaaDoor.big
open Go.RowKit

theorem belowN (B : Nat) (w : World) (k : Nat) : Below B w (w.drewN k) := ⟨rfl, rfl, rfl, Nat.le_refl _, fun _ _ => rfl⟩
theorem after_11 {B p zb q0 q1 q2 x y : Nat} {R : List Nat} {w W : World} (hW : Below B w W) (hpW : W.heap[p]? = w.heap[p]?) (hB : B ≤ zb) (hne : zb ≠ p) (hz : W.heap[zb]? = some (wObj (q0 :: q1 :: q2 :: R))) (hl : R.length = 3) (hx : 0 < x) (hxw : x < W64) (hyw : y < W64) (n : Nat) :
    After B p w (some ⟨zb, 0, none⟩) (if sumC x y = 0 then 1 else 2) 6 (x + y) (((W.drewN n).setCell ⟨zb, 0, none⟩ (.int .u64 ((sumS x y : Nat) : Int))).setCell ⟨zb, 1, none⟩ (.int .u64 ((sumC x y : Nat) : Int))) := by
  have h2 := two_set hz n (sumS x y) (sumC x y)
  have hs : sumS x y < W64 := by unfold sumS W64; omega
  have hc : sumC x y ≤ 1 := by unfold sumC; unfold W64 at hxw hyw; omega
  have he : x + y = sumS x y + 18446744073709551616 * sumC x y := by unfold sumS sumC; omega
  have hb0 : Below B W (W.drewN n) := ⟨rfl, rfl, rfl, Nat.le_refl _, fun _ _ => rfl⟩
  have hb1 : Below B W (((W.drewN n).setCell ⟨zb, 0, none⟩ (.int .u64 ((sumS x y : Nat) : Int))).setCell ⟨zb, 1, none⟩ (.int .u64 ((sumC x y : Nat) : Int))) := by
    refine Below.setCell (Below.setCell hb0 ?_ _) ?_ _ <;> exact hB
  refine ⟨hW.trans hb1, ?_, Or.inr (Or.inr ⟨zb, sumS x y, sumC x y, q2, R, rfl, rfl, hB, hne, h2, hl, hs, by unfold W64; omega, ?_⟩)⟩
  · rw [← hpW]
    have ho0 : Only (fun j => j = zb) W (W.drewN n) := ⟨rfl, rfl, rfl, Nat.le_refl _, fun _ _ _ => rfl⟩
    have ho : Only (fun j => j = zb) W (((W.drewN n).setCell ⟨zb, 0, none⟩ (.int .u64 ((sumS x y : Nat) : Int))).setCell ⟨zb, 1, none⟩ (.int .u64 ((sumC x y : Nat) : Int))) :=
      Only.setCell (S := fun j => j = zb) (p := ⟨zb, 1, none⟩) (Only.setCell (S := fun j => j = zb) (p := ⟨zb, 0, none⟩) ho0 rfl _) rfl _
    rcases Nat.lt_or_ge p W.heap.size with h | h
    · exact ho.block p h (fun e => hne e.symm)
    · rw [Array.getElem?_eq_none h, Array.getElem?_eq_none]
      simpa using h
  · by_cases h : sumC x y = 0
    · rw [if_pos h]; right; left; rw [h] at he; exact ⟨rfl, by omega, by omega⟩
    · rw [if_neg h]; right; right; exact ⟨rfl, he, by omega⟩

theorem nadd {B p : Nat} {w : World} {ao yo : Option Addr} {n cap X yn yc Y : Nat} (h : Abs B p w ao n cap X) (hB : B ≤ w.heap.size) (hp : p < w.heap.size) (hy : Opd w yo yn yc Y) (hs : X + Y < 170141183460469231731687303715884105728) :
    ∃ ro rn rc, ∀ k, Calls Tryd.prog 124 #[.slice ao n cap, .slice ao n cap, .slice yo yn yc] (w.drewN k) (fun e w' => e = .returned (.slice ro rn rc) ∧ After B p w ro rn rc (X + Y) w') := by
  by_cases h0 : n = 0
  · subst h0
    have hX : X = 0 := by
      rcases h with ⟨_, _, _, h⟩ | ⟨b, q, _, _, _, _, _, _, h⟩ | ⟨b, q0, q1, q2, R, _, _, _, _, _, _, _, _, h⟩ <;> omega
    subst hX
    rw [Nat.zero_add]
    rcases hy with ⟨rfl, rfl, rfl, rfl⟩ | ⟨yb, rfl, rfl, rfl, hyb, hY0, hY⟩
    · refine ⟨ao, 0, cap, fun k => (add_00 ao ao none cap cap 0 (w.drewN k)).mono ?_⟩
      rintro e w' ⟨he, rfl⟩
      exact ⟨he, After.same k h⟩
    · obtain ⟨ro, rn, rc, hc⟩ := set_y h hB hp hyb hY0 hY
      refine ⟨ro, rn, rc, fun k => ?_⟩
      obtain ⟨W, hc, ha⟩ := hc k
      refine (add_x0 ao ao _ 0 cap 1 cap 1 (by omega) _ (w.drewN k) W (fun V hV => by rw [hV]; exact hc)).mono ?_
      rintro e w' ⟨he, rfl⟩
      exact ⟨he, ha⟩
  · rcases hy with ⟨rfl, rfl, rfl, rfl⟩ | ⟨yb, rfl, rfl, rfl, hyb, hY0, hY⟩
    · refine ⟨ao, n, cap, fun k => (add_y0 ao ao none n cap n cap 0 (by omega) _ (w.drewN k) (w.drewN k) (fun V hV => by rw [hV]; exact set_x h (by omega) k)).mono ?_⟩
      rintro e w' ⟨he, rfl⟩
      exact ⟨he, After.same k h⟩
    · have hyc : w.cell? ⟨yb, 0, none⟩ = some (.int .u64 (Y : Int)) := words_cell hyb (by simp)
      rcases h with ⟨_, h, _, _⟩ | ⟨b, q, rfl, rfl, h1, h2, h3, h4, h7⟩ | ⟨b, q0, q1, q2, R, rfl, rfl, h1, h2, h3, h4, h5, h6, h7⟩
      · exact absurd h h0
      · have h7' : n = 1 ∧ X = q ∧ 0 < q := by rcases h7 with h | h; exact absurd h.1 h0; exact h
        obtain ⟨rfl, rfl, hq⟩ := h7'
        refine ⟨some ⟨w.heap.size, 0, none⟩, (if sumC X Y = 0 then 1 else 2), 6, fun k => ?_⟩
        have hyl := lt_of_heap hyb
        have hbl := lt_of_heap h3
        have hxc : w.cell? ⟨b, 0, none⟩ = some (.int .u64 (X : Int)) := words_cell h3 (by simp)
        have hz : ((w.drewN k).alloc (wObj [0, 0, 0, 0, 0, 0])).heap[w.heap.size]? = some (wObj (0 :: 0 :: 0 :: [0, 0, 0])) := heap_new_at rfl _
        refine (add_11 b 1 yb 1 X Y w.heap.size 0 0 [0, 0, 0, 0] (w.drewN k) ((w.drewN k).alloc (wObj [0, 0, 0, 0, 0, 0])) hq h4 hY (fun V hV => by rw [hV]; exact make_two _ 1 _) ?_ ?_ hz (by omega) (by omega)).mono ?_
        · exact (World.cell?_alloc_lt (w.drewN k) _ ⟨b, 0, none⟩ hbl).trans hxc
        · exact (World.cell?_alloc_lt (w.drewN k) _ ⟨yb, 0, none⟩ hyl).trans hyc
        · rintro e w' ⟨he, m, rfl⟩
          refine ⟨he, after_11 ?_ ?_ hB (by omega) hz rfl hq h4 hY m⟩
          · exact Below.alloc (belowN B w k) hB _
          · rw [show ((w.drewN k).alloc (wObj [0, 0, 0, 0, 0, 0])).heap = w.heap.push (wObj [0, 0, 0, 0, 0, 0]) from rfl, Array.getElem?_push, if_neg (by omega)]
      · rcases h7 with h7 | ⟨rfl, rfl, hq⟩ | ⟨rfl, rfl, hq⟩
        · exact absurd h7.1 h0
        · refine ⟨some ⟨b, 0, none⟩, (if sumC X Y = 0 then 1 else 2), 6, fun k => ?_⟩
          have hxc : w.cell? ⟨b, 0, none⟩ = some (.int .u64 (X : Int)) := words_cell h3 (by simp)
          refine (add_11 b 6 yb 1 X Y b X q1 (q2 :: R) (w.drewN k) (w.drewN k) hq h5 hY (fun V hV => by rw [hV]; exact make_in _ 1 6 2 (by omega) _) hxc hyc h3 (by omega) (by omega)).mono ?_
          rintro e w' ⟨he, m, rfl⟩
          exact ⟨he, after_11 (W := w.drewN k) (belowN B w k) rfl h1 h2 h3 h4 hq h5 hY m⟩
        · refine ⟨some ⟨b, 0, none⟩, 2, 6, fun k => ?_⟩
          have hc : sumC q0 Y ≤ 1 := by unfold sumC; unfold W64 at h5 hY; omega
          have hsum : sumS q0 Y < W64 := by unfold sumS W64; omega
          have he1 : q0 + Y = sumS q0 Y + 18446744073709551616 * sumC q0 Y := by unfold sumS sumC; omega
          have hb : q1 + sumC q0 Y < W64 := by unfold W64; omega
          refine (add_21 b yb 1 q0 q1 Y q2 R (w.drewN k) h5 h6 hY hq hb h3 hyc (by omega)).mono ?_
          rintro e w' ⟨he, ho, hh⟩
          have ho' : Only (fun j => j = b) w w' := ⟨ho.os, ho.tape, ho.output, ho.size, ho.block⟩
          exact ⟨he, below_only ho' hB h1, only_p ho' hp h2, Or.inr (Or.inr ⟨b, _, _, 0, R, rfl, rfl, h1, h2, hh, h4, hsum, hb, Or.inr (Or.inr ⟨rfl, by omega, by omega⟩)⟩)⟩
end Go.Proofs.YtbhndnjlplibmaaDoor.big
