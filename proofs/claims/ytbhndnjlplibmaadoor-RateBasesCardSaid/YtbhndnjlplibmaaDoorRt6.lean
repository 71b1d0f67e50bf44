/- RateBases walked. -/
import Derived.Test.YtbhndnjlplibmaaDoorRt5
namespace Go.Proofs.YtbhndnjlplibmaaDoor.rt
open Go.RowKit Go.MapKept Go.Proofs.YtbhndnjlplibmaaDoor.lg

/-- the products -/
theorem prods (n d p q : Nat) : n * p / Nat.gcd (n * p) (d * q) * (d * q) = d * q / Nat.gcd (n * p) (d * q) * (n * p) := by
  generalize n * p = x
  generalize d * q = y
  have h1 : x / Nat.gcd x y * y = x * y / Nat.gcd x y := Nat.div_mul_right_comm (Nat.gcd_dvd_left _ _) _
  have h2 : y / Nat.gcd x y * x = y * x / Nat.gcd x y := Nat.div_mul_right_comm (Nat.gcd_dvd_right _ _) _
  rw [h1, h2, Nat.mul_comm]
theorem w_in {a b : Int} (h : a = b) (h1 : -9223372036854775808 ≤ b) (h2 : b ≤ 9223372036854775807) : wrap64 a = b := by
  rw [h]; exact (IntWalk.i64_left _).symm.trans (IntWalk.i64_in _ (by omega))
set_option maxRecDepth 100000 in
set_option maxHeartbeats 8000000 in
theorem walk_in (n d p q : Nat) (w : World) (hg : Door w) (hn : 1 ≤ n ∧ n ≤ 30000) (hd : 1 ≤ d ∧ d ≤ 30000) (hp : 1 ≤ p ∧ p ≤ 30000) (hq : 1 ≤ q ∧ q ≤ 30000) :
    Calls Tryd.prog 10 #[.int .i64 (n : Int), .int .i64 (d : Int), .int .i64 (p : Int), .int .i64 (q : Int)] w fun e w' => e = .returned (.bool true) ∧ Below w.heap.size w w' := by
  obtain ⟨hn1, hn2⟩ := hn
  obtain ⟨hd1, hd2⟩ := hd
  obtain ⟨hp1, hp2⟩ := hp
  obtain ⟨hq1, hq2⟩ := hq
  have g1 : ((n : Int) < 1) = False := eq_false (by omega)
  have np : n * p ≤ 900000000 := Nat.mul_le_mul hn2 hp2
  have dq : d * q ≤ 900000000 := Nat.mul_le_mul hd2 hq2
  have hR : Right (two (n : Int) d p q) := two_right (by omega) (by omega) (by omega) (by omega)
  have hf1 := fun b cap W (h : RatesAt W b (two (n : Int) d p q)) => find_via b cap _ eur usd gbp 1 n d p q (Nat.gcd (n * p) (d * q)) W h hR a_ug (d_ug _ _ _ _) (d_ue _ _ _ _) (d_eg _ _ _ _) ⟨hn1, hn2⟩ ⟨hd1, hd2⟩ ⟨hp1, hp2⟩ ⟨hq1, hq2⟩ rfl
  have hf2 := fun b cap W (h : RatesAt W b (two (n : Int) d p q)) => find_via b cap _ eur gbp usd 1 q p d n (Nat.gcd (n * p) (d * q)) W h hR a_gu (d_gu _ _ _ _) (d_ge _ _ _ _) (d_eu _ _ _ _) ⟨hq1, hq2⟩ ⟨hp1, hp2⟩ ⟨hd1, hd2⟩ ⟨hn1, hn2⟩ (by rw [Nat.gcd_comm, Nat.mul_comm p n, Nat.mul_comm q d])
  have hf3 := fun b cap W (h : RatesAt W b (two (n : Int) d p q)) => find_none b cap _ jpy usd gbp 1 W h hR a_jug (d_ug _ _ _ _) (d_uj _ _ _ _) (d_jg _ _ _ _)
  have hpr := prods n d p q
  have hx1 : n * p / Nat.gcd (n * p) (d * q) ≤ n * p := Nat.div_le_self _ _
  have hy1 : d * q / Nat.gcd (n * p) (d * q) ≤ d * q := Nat.div_le_self _ _
  rw [Nat.mul_comm q d, Nat.mul_comm p n] at hf2
  have HE1 : Hid (wrap64 ((n : Int) * (p : Int)) = ((n * p : Nat) : Int)) := w_in (Int.natCast_mul _ _).symm (by omega) (by omega)
  have HE2 : Hid (wrap64 ((d : Int) * (q : Int)) = ((d * q : Nat) : Int)) := w_in (Int.natCast_mul _ _).symm (by omega) (by omega)
  generalize n * p / Nat.gcd (n * p) (d * q) = x at *
  generalize d * q / Nat.gcd (n * p) (d * q) = y at *
  generalize n * p = P at *
  generalize d * q = Q at *
  have hz : x * Q ≤ 810000000000000000 := Nat.mul_le_mul (show x ≤ 900000000 by omega) dq
  have HE3 : Hid (wrap64 ((x : Int) * (Q : Int)) = ((x * Q : Nat) : Int)) := w_in (Int.natCast_mul _ _).symm (by omega) (by omega)
  have HE4 : Hid (wrap64 ((y : Int) * (P : Int)) = ((x * Q : Nat) : Int)) := w_in (by rw [hpr]; exact (Int.natCast_mul _ _).symm) (by omega) (by omega)
  generalize x * Q = Z at *
  have HF1 := Lib.hid hf1
  have HF2 := Lib.hid hf2
  have HF3 := Lib.hid hf3
  have HG := Lib.hid hg
  have HPOS := Lib.hid hg.pos
  obtain ⟨W, hW⟩ : ∃ W, W = w.alloc (.cells #[.string usd, .string eur, .int .i64 1, .int .i64 (n : Int), .int .i64 (d : Int), .string eur, .string gbp, .int .i64 1, .int .i64 (p : Int), .int .i64 (q : Int)] 67) := ⟨_, rfl⟩
  obtain ⟨b, hb⟩ : ∃ b, b = w.heap.size := ⟨_, rfl⟩
  have HB0 : Hid (Below w.heap.size w W) := by show Below _ _ _; rw [hW]; exact (Below.refl _ _).alloc (Nat.le_refl _) _
  have HR0 : Hid (RatesAt W b (two (n : Int) d p q)) := by show RatesAt _ _ _; rw [hW, hb]; exact two_at (heap_new_at rfl _)
  have HW := Lib.hid hW
  have HBB := Lib.hid hb
  have hcall := hf1 b 2 W HR0.out
  rw [show (two (n : Int) d p q).length = 2 from rfl] at hcall
  unfold usd eur gbp at hcall HW
  clear hf1 hf2 hf3 hR hg hW hb hpr g1
  go_enter Tryd.func10, Tryd.ntmps10
  go_wp2_with (rw [← HW.out, ← HBB.out])
  refine hcall.mono ?_
  rintro e w1 ⟨rfl, hb1⟩
  have HB1 := Lib.hid (HB0.out.trans (hb1.mono HB0.out.size))
  have HR1 := Lib.hid (HR0.out.below hb1)
  clear hcall hb1 HB0 HR0
  have hcall := HF2.out b 2 w1 HR1.out
  rw [show (two (n : Int) d p q).length = 2 from rfl] at hcall
  unfold usd eur gbp at hcall
  go_wp2_with fail
  refine hcall.mono ?_
  rintro e w2 ⟨rfl, hb2⟩
  have HB2 := Lib.hid (HB1.out.trans (hb2.mono HB1.out.size))
  have HR2 := Lib.hid (HR1.out.below hb2)
  clear hcall hb2 HB1 HR1
  have hcall := HF3.out b 2 w2 HR2.out
  rw [show (two (n : Int) d p q).length = 2 from rfl] at hcall
  unfold usd gbp jpy at hcall
  go_wp2_with fail
  refine hcall.mono ?_
  rintro e w3 ⟨rfl, hb3⟩
  have HB3 := Lib.hid (HB2.out.trans (hb3.mono HB2.out.size))
  clear hcall hb3 HB2 HR2
  have hcall := error_any 6 6 w3 (HG.out.below HB3.out HPOS.out)
  go_wp2_with fail
  refine hcall.mono ?_
  rintro e w4 ⟨rfl, hb4⟩
  have HB4 := Lib.hid (HB3.out.trans (hb4.mono HB3.out.size))
  clear hcall hb4 HB3
  have e1 := HE1.out
  have e2 := HE2.out
  have e3 := HE3.out
  have e4 := HE4.out
  go_wp2_with fail
  go_ret
  exact ⟨rfl, HB4.out⟩

set_option maxRecDepth 100000 in
set_option maxHeartbeats 8000000 in
theorem walk_bases (n d p q : Int) (w : World) (hg : Door w) :
    Calls Tryd.prog 10 #[.int .i64 n, .int .i64 d, .int .i64 p, .int .i64 q] w fun e w' => e = .returned (.bool true) ∧ Below w.heap.size w w' := by
  by_cases c0 : n < 1
  · have b0 : decide (n < 1) = true := decide_eq_true c0
    clear hg
    go_enter Tryd.func10, Tryd.ntmps10
    go_wp2_with fail
    go_ret
    exact ⟨rfl, Below.refl _ _⟩
  have b0 : decide (n < 1) = false := decide_eq_false c0
  by_cases c1 : 30000 < n
  · have b1 : decide (30000 < n) = true := decide_eq_true c1
    clear hg
    go_enter Tryd.func10, Tryd.ntmps10
    go_wp2_with fail
    go_ret
    exact ⟨rfl, Below.refl _ _⟩
  have b1 : decide (30000 < n) = false := decide_eq_false c1
  by_cases c2 : d < 1
  · have b2 : decide (d < 1) = true := decide_eq_true c2
    clear hg
    go_enter Tryd.func10, Tryd.ntmps10
    go_wp2_with fail
    go_ret
    exact ⟨rfl, Below.refl _ _⟩
  have b2 : decide (d < 1) = false := decide_eq_false c2
  by_cases c3 : 30000 < d
  · have b3 : decide (30000 < d) = true := decide_eq_true c3
    clear hg
    go_enter Tryd.func10, Tryd.ntmps10
    go_wp2_with fail
    go_ret
    exact ⟨rfl, Below.refl _ _⟩
  have b3 : decide (30000 < d) = false := decide_eq_false c3
  by_cases c4 : p < 1
  · have b4 : decide (p < 1) = true := decide_eq_true c4
    clear hg
    go_enter Tryd.func10, Tryd.ntmps10
    go_wp2_with fail
    go_ret
    exact ⟨rfl, Below.refl _ _⟩
  have b4 : decide (p < 1) = false := decide_eq_false c4
  by_cases c5 : 30000 < p
  · have b5 : decide (30000 < p) = true := decide_eq_true c5
    clear hg
    go_enter Tryd.func10, Tryd.ntmps10
    go_wp2_with fail
    go_ret
    exact ⟨rfl, Below.refl _ _⟩
  have b5 : decide (30000 < p) = false := decide_eq_false c5
  by_cases c6 : q < 1
  · have b6 : decide (q < 1) = true := decide_eq_true c6
    clear hg
    go_enter Tryd.func10, Tryd.ntmps10
    go_wp2_with fail
    go_ret
    exact ⟨rfl, Below.refl _ _⟩
  have b6 : decide (q < 1) = false := decide_eq_false c6
  by_cases c7 : 30000 < q
  · have b7 : decide (30000 < q) = true := decide_eq_true c7
    clear hg
    go_enter Tryd.func10, Tryd.ntmps10
    go_wp2_with fail
    go_ret
    exact ⟨rfl, Below.refl _ _⟩
  have b7 : decide (30000 < q) = false := decide_eq_false c7
  obtain ⟨n', rfl⟩ : ∃ k : Nat, n = (k : Int) := ⟨n.toNat, by omega⟩
  obtain ⟨d', rfl⟩ : ∃ k : Nat, d = (k : Int) := ⟨d.toNat, by omega⟩
  obtain ⟨p', rfl⟩ : ∃ k : Nat, p = (k : Int) := ⟨p.toNat, by omega⟩
  obtain ⟨q', rfl⟩ : ∃ k : Nat, q = (k : Int) := ⟨q.toNat, by omega⟩
  exact walk_in n' d' p' q' w hg (by omega) (by omega) (by omega) (by omega)

end Go.Proofs.YtbhndnjlplibmaaDoor.rt
