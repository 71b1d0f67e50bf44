/- nat.sub, nat.cmp at whatever the receiver holds. -/
import Derived.Test.YtbhndnjlplibmaaDoorBg17
namespace Go.Proofs.YtbhndnjlplibmaaDoor.big
open Go.RowKit

theorem after_1 {B p zb q0 x cap : Nat} {R : List Nat} {w W : World} (hW : Below B w W) (hpW : W.heap[p]? = w.heap[p]?) (hB : B ≤ zb) (hne : zb ≠ p) (hz : W.heap[zb]? = some (wObj (q0 :: R))) (hl : (cap = 1 ∧ R = []) ∨ (cap = 6 ∧ ∃ q1 q2 R2, R = q1 :: q2 :: R2 ∧ R2.length = 3 ∧ q1 < W64)) (hx : x < W64) (n : Nat) :
    After B p w (some ⟨zb, 0, none⟩) (if x = 0 then 0 else 1) cap x ((W.drewN n).setCell ⟨zb, 0, none⟩ (.int .u64 ((x : Nat) : Int))) := by
  have h2 := one_set hz n x
  have hb0 : Below B W (W.drewN n) := belowN B W n
  have hb1 : Below B W ((W.drewN n).setCell ⟨zb, 0, none⟩ (.int .u64 ((x : Nat) : Int))) := by
    refine Below.setCell hb0 ?_ _ <;> exact hB
  have ho0 : Only (fun j => j = zb) W (W.drewN n) := ⟨rfl, rfl, rfl, Nat.le_refl _, fun _ _ _ => rfl⟩
  have ho : Only (fun j => j = zb) W ((W.drewN n).setCell ⟨zb, 0, none⟩ (.int .u64 ((x : Nat) : Int))) := Only.setCell (S := fun j => j = zb) (p := ⟨zb, 0, none⟩) ho0 rfl _
  refine ⟨hW.trans hb1, ?_, ?_⟩
  · rw [← hpW]
    rcases Nat.lt_or_ge p W.heap.size with h | h
    · exact ho.block p h (fun e => hne e.symm)
    · rw [Array.getElem?_eq_none h, Array.getElem?_eq_none]
      simpa using h
  · have hc : (if x = 0 then 0 else 1) = 0 ∧ x = 0 ∨ (if x = 0 then 0 else 1) = 1 ∧ x = x ∧ 0 < x := by
      by_cases h : x = 0
      · rw [if_pos h]; exact Or.inl ⟨rfl, h⟩
      · rw [if_neg h]; exact Or.inr ⟨rfl, rfl, by omega⟩
    rcases hl with ⟨rfl, rfl⟩ | ⟨rfl, q1, q2, R2, rfl, hl, hq1⟩
    · exact Or.inr (Or.inl ⟨zb, x, rfl, rfl, hB, hne, h2, hx, hc⟩)
    · exact Or.inr (Or.inr ⟨zb, x, q1, q2, R2, rfl, rfl, hB, hne, h2, hl, hx, hq1, hc.imp id Or.inl⟩)

/-- the receiver less the other one -/
theorem nsub_ge {B p : Nat} {w : World} {ao yo : Option Addr} {n cap X yn yc Y : Nat} (h : Abs B p w ao n cap X) (hB : B ≤ w.heap.size) (hp : p < w.heap.size) (hy : Opd w yo yn yc Y) (hle : Y ≤ X) (hX : 0 < X) :
    ∃ ro rn rc, ∀ k, Calls Tryd.prog 126 #[.slice ao n cap, .slice ao n cap, .slice yo yn yc] (w.drewN k) (fun e w' => e = .returned (.slice ro rn rc) ∧ After B p w ro rn rc (X - Y) w') := by
  have h0 : n ≠ 0 := by
    rcases h with ⟨_, _, _, h⟩ | ⟨b, q, _, _, _, _, _, _, h⟩ | ⟨b, q0, q1, q2, R, _, _, _, _, _, _, _, _, h⟩ <;> omega
  rcases hy with ⟨rfl, rfl, rfl, rfl⟩ | ⟨yb, rfl, rfl, rfl, hyb, hY0, hY⟩
  · refine ⟨ao, n, cap, fun k => (sub_y0 ao ao none n cap n cap 0 (by omega) _ (w.drewN k) (w.drewN k) (fun V hV => by rw [hV]; exact set_x h (by omega) k)).mono ?_⟩
    rintro e w' ⟨he, rfl⟩
    exact ⟨he, After.same k h⟩
  · have hyc : w.cell? ⟨yb, 0, none⟩ = some (.int .u64 (Y : Int)) := words_cell hyb (by simp)
    rcases h with ⟨_, h, _, _⟩ | ⟨b, q, rfl, rfl, h1, h2, h3, h4, h7⟩ | ⟨b, q0, q1, q2, R, rfl, rfl, h1, h2, h3, h4, h5, h6, h7⟩
    · exact absurd h h0
    · have h7' : n = 1 ∧ X = q ∧ 0 < q := by rcases h7 with h | h; exact absurd h.1 h0; exact h
      obtain ⟨rfl, rfl, hq⟩ := h7'
      have hxc : w.cell? ⟨b, 0, none⟩ = some (.int .u64 (X : Int)) := words_cell h3 (by simp)
      refine ⟨some ⟨b, 0, none⟩, (if X - Y = 0 then 0 else 1), 1, fun k => ?_⟩
      refine (sub_11 b 1 yb 1 X Y b 1 1 X [] (w.drewN k) hle h4 hY hxc hyc h3 rfl (by omega) (by omega)).mono ?_
      rintro e w' ⟨he, m, rfl⟩
      exact ⟨he, after_1 (W := w.drewN k) (belowN B w k) rfl h1 h2 h3 (Or.inl ⟨rfl, rfl⟩) (by omega) m⟩
    · rcases h7 with h7 | ⟨rfl, rfl, hq⟩ | ⟨rfl, rfl, hq⟩
      · exact absurd h7.1 h0
      · have hxc : w.cell? ⟨b, 0, none⟩ = some (.int .u64 (X : Int)) := words_cell h3 (by simp)
        refine ⟨some ⟨b, 0, none⟩, (if X - Y = 0 then 0 else 1), 6, fun k => ?_⟩
        refine (sub_11 b 6 yb 1 X Y b 1 6 X (q1 :: q2 :: R) (w.drewN k) hle h5 hY hxc hyc h3 (by simp [h4]) (by omega) (by omega)).mono ?_
        rintro e w' ⟨he, m, rfl⟩
        exact ⟨he, after_1 (W := w.drewN k) (belowN B w k) rfl h1 h2 h3 (Or.inr ⟨rfl, q1, q2, R, rfl, h4, h6⟩) (by omega) m⟩
      · obtain ⟨s, hs⟩ : ∃ s, (q0 + 18446744073709551616 - Y) % 18446744073709551616 = s := ⟨_, rfl⟩
        obtain ⟨c, hc⟩ : ∃ c, (if q0 < Y then 1 else 0 : Nat) = c := ⟨_, rfl⟩
        have hval : s < W64 ∧ c ≤ 1 ∧ q0 + 18446744073709551616 * c = s + Y := by
          unfold W64 at *
          rw [← hc]
          split <;> omega
        obtain ⟨v1, v2, v3⟩ := hval
        refine ⟨some ⟨b, 0, none⟩, (if q1 - c = 0 then 1 else 2), 6, fun k => ?_⟩
        refine (sub_21 b yb 1 q0 q1 Y s c (q2 :: R) (w.drewN k) h5 h6 hY hq hs hc h3 hyc (by omega)).mono ?_
        rintro e w' ⟨he, ho, hh⟩
        have ho' : Only (fun j => j = b) w w' := ⟨ho.os, ho.tape, ho.output, ho.size, ho.block⟩
        refine ⟨he, below_only ho' hB h1, only_p ho' hp h2, Or.inr (Or.inr ⟨b, s, q1 - c, q2, R, rfl, rfl, h1, h2, hh, h4, v1, by omega, ?_⟩)⟩
        clear hs hc he hh ho ho' h3 hyb hyc
        unfold W64 at h5 hY
        by_cases hz : q1 - c = 0
        · rw [if_pos hz]; right; left; exact ⟨rfl, by omega, by omega⟩
        · rw [if_neg hz]; right; right; exact ⟨rfl, by omega, by omega⟩
/-- the other one less the receiver -/
theorem nsub_lt {B p : Nat} {w : World} {ao yo : Option Addr} {n cap X yn yc Y : Nat} (h : Abs B p w ao n cap X) (hB : B ≤ w.heap.size) (hp : p < w.heap.size) (hy : Opd w yo yn yc Y) (hlt : X < Y) :
    ∃ ro rn rc, ∀ k, Calls Tryd.prog 126 #[.slice ao n cap, .slice yo yn yc, .slice ao n cap] (w.drewN k) (fun e w' => e = .returned (.slice ro rn rc) ∧ After B p w ro rn rc (Y - X) w') := by
  rcases hy with ⟨_, _, _, h0⟩ | ⟨yb, rfl, rfl, rfl, hyb, hY0, hY⟩
  · omega
  · have hyc : w.cell? ⟨yb, 0, none⟩ = some (.int .u64 (Y : Int)) := words_cell hyb (by simp)
    by_cases h0 : n = 0
    · subst h0
      have hX : X = 0 := by
        rcases h with ⟨_, _, _, h⟩ | ⟨b, q, _, _, _, _, _, _, h⟩ | ⟨b, q0, q1, q2, R, _, _, _, _, _, _, _, _, h⟩ <;> omega
      subst hX
      rw [Nat.sub_zero]
      obtain ⟨ro, rn, rc, hc⟩ := set_y h hB hp hyb hY0 hY
      refine ⟨ro, rn, rc, fun k => ?_⟩
      obtain ⟨W, hc, ha⟩ := hc k
      refine (sub_y0 ao _ ao 0 cap 1 1 cap (by omega) _ (w.drewN k) W (fun V hV => by rw [hV]; exact hc)).mono ?_
      rintro e w' ⟨he, rfl⟩
      exact ⟨he, ha⟩
    · rcases h with ⟨_, h, _, _⟩ | ⟨b, q, rfl, rfl, h1, h2, h3, h4, h7⟩ | ⟨b, q0, q1, q2, R, rfl, rfl, h1, h2, h3, h4, h5, h6, h7⟩
      · exact absurd h h0
      · have h7' : n = 1 ∧ X = q ∧ 0 < q := by rcases h7 with h | h; exact absurd h.1 h0; exact h
        obtain ⟨rfl, rfl, hq⟩ := h7'
        have hxc : w.cell? ⟨b, 0, none⟩ = some (.int .u64 (X : Int)) := words_cell h3 (by simp)
        refine ⟨some ⟨b, 0, none⟩, (if Y - X = 0 then 0 else 1), 1, fun k => ?_⟩
        refine (sub_11 yb 1 b 1 Y X b 1 1 X [] (w.drewN k) (by omega) hY h4 hyc hxc h3 rfl (by omega) (by omega)).mono ?_
        rintro e w' ⟨he, m, rfl⟩
        exact ⟨he, after_1 (W := w.drewN k) (belowN B w k) rfl h1 h2 h3 (Or.inl ⟨rfl, rfl⟩) (by omega) m⟩
      · rcases h7 with h7 | ⟨rfl, rfl, hq⟩ | ⟨rfl, rfl, hq⟩
        · exact absurd h7.1 h0
        · have hxc : w.cell? ⟨b, 0, none⟩ = some (.int .u64 (X : Int)) := words_cell h3 (by simp)
          refine ⟨some ⟨b, 0, none⟩, (if Y - X = 0 then 0 else 1), 6, fun k => ?_⟩
          refine (sub_11 yb 1 b 6 Y X b 1 6 X (q1 :: q2 :: R) (w.drewN k) (by omega) hY h5 hyc hxc h3 (by simp [h4]) (by omega) (by omega)).mono ?_
          rintro e w' ⟨he, m, rfl⟩
          exact ⟨he, after_1 (W := w.drewN k) (belowN B w k) rfl h1 h2 h3 (Or.inr ⟨rfl, q1, q2, R, rfl, h4, h6⟩) (by omega) m⟩
        · unfold W64 at hY; omega
/-- which is more -/
theorem ncmp {B p : Nat} {w : World} {ao yo : Option Addr} {n cap X yn yc Y : Nat} (h : Abs B p w ao n cap X) (hy : Opd w yo yn yc Y) (hne : 0 < X ∨ 0 < Y) :
    ∃ r : Int, decide ((0 : Int) ≤ r) = decide (Y ≤ X) ∧ ∀ k, Calls Tryd.prog 125 #[.slice ao n cap, .slice yo yn yc] (w.drewN k) fun e w' => e = .returned (.int .i64 r) ∧ ∃ m, w' = w.drewN (k + m) := by
  have hnX : (n = 0 ∧ X = 0) ∨ (n = 1 ∧ 0 < X ∧ X < W64 ∧ ∃ b, ao = some ⟨b, 0, none⟩ ∧ w.cell? ⟨b, 0, none⟩ = some (.int .u64 (X : Int))) ∨ (n = 2 ∧ W64 ≤ X) := by
    rcases h with ⟨_, h, _, h'⟩ | ⟨b, q, rfl, rfl, h1, h2, h3, h4, h7⟩ | ⟨b, q0, q1, q2, R, rfl, rfl, h1, h2, h3, h4, h5, h6, h7⟩
    · exact Or.inl ⟨h, h'⟩
    · rcases h7 with h7 | ⟨rfl, rfl, hq⟩
      · exact Or.inl h7
      · exact Or.inr (Or.inl ⟨rfl, hq, h4, b, rfl, words_cell h3 (by simp)⟩)
    · rcases h7 with h7 | ⟨rfl, rfl, hq⟩ | ⟨rfl, rfl, hq⟩
      · exact Or.inl h7
      · exact Or.inr (Or.inl ⟨rfl, hq, h5, b, rfl, words_cell h3 (by simp)⟩)
      · exact Or.inr (Or.inr ⟨rfl, by unfold W64; omega⟩)
  rcases hy with ⟨rfl, rfl, rfl, rfl⟩ | ⟨yb, rfl, rfl, rfl, hyb, hY0, hY⟩
  · refine ⟨1, by simp, fun k => (cmp_gt ao none n 0 cap 0 (by omega) (w.drewN k)).mono ?_⟩
    rintro e w' ⟨he, rfl⟩
    exact ⟨he, 0, rfl⟩
  · have hyc : w.cell? ⟨yb, 0, none⟩ = some (.int .u64 (Y : Int)) := words_cell hyb (by simp)
    rcases hnX with ⟨rfl, rfl⟩ | ⟨rfl, hX0, hXw, b, rfl, hxc⟩ | ⟨rfl, hXw⟩
    · refine ⟨-1, ?_, fun k => (cmp_lt ao _ 0 1 cap 1 (by omega) (w.drewN k)).mono ?_⟩
      · rw [decide_eq_false (show ¬ Y ≤ 0 by omega)]; rfl
      · rintro e w' ⟨he, rfl⟩
        exact ⟨he, 0, rfl⟩
    · refine ⟨if X < Y then -1 else if Y < X then 1 else 0, ?_, fun k => (cmp_one b yb cap 1 X Y (w.drewN k) hxc hyc).mono ?_⟩
      · by_cases h1 : X < Y
        · rw [if_pos h1, decide_eq_false (show ¬ Y ≤ X by omega)]; rfl
        · rw [if_neg h1, decide_eq_true (show Y ≤ X by omega)]
          split <;> rfl
      · rintro e w' ⟨he, m, rfl⟩
        exact ⟨he, m, by rw [World.drewN_drewN]⟩
    · refine ⟨1, ?_, fun k => (cmp_gt ao _ 2 1 cap 1 (by omega) (w.drewN k)).mono ?_⟩
      · rw [decide_eq_true (show Y ≤ X by omega)]; rfl
      · rintro e w' ⟨he, rfl⟩
        exact ⟨he, 0, rfl⟩
end Go.Proofs.YtbhndnjlplibmaaDoor.big
