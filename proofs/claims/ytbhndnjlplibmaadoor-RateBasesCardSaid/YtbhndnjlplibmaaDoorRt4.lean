/- rate.Find by the base; where there is none. -/
import Derived.Test.YtbhndnjlplibmaaDoorRt3
namespace Go.Proofs.YtbhndnjlplibmaaDoor.rt
open Go.RowKit Go.MapKept Go.Proofs.YtbhndnjlplibmaaDoor.lg

structure Asks (base fr to : ByteArray) (per : Int) : Prop where
  cb : curB base = true
  cf : curB fr = true
  ct : curB to = true
  hp : 1 ≤ per ∧ per ≤ 120
  nft : sameS fr to = false
  nfb : sameS fr base = false
  nbt : sameS base to = false
  ntb : sameS to base = false
theorem tdiv_nat (n g : Nat) : Int.tdiv (n : Int) (g : Int) = ((n / g : Nat) : Int) := by
  rw [Int.tdiv_eq_ediv_of_nonneg (by omega)]; rfl
set_option maxRecDepth 100000 in
set_option maxHeartbeats 400000 in
theorem find_via (b cap : Nat) (rs : List RateM) (base fr to : ByteArray) (per : Int) (x y p q g : Nat) (w : World) (hl : RatesAt w b rs) (hr : Right rs) (ha : Asks base fr to per)
    (h0 : dirM fr to per rs = none) (h1 : dirM fr base per rs = some ((x : Int), (y : Int))) (h2 : dirM base to per rs = some ((p : Int), (q : Int)))
    (hx : 1 ≤ x ∧ x ≤ 30000) (hy : 1 ≤ y ∧ y ≤ 30000) (hp : 1 ≤ p ∧ p ≤ 30000) (hq : 1 ≤ q ∧ q ≤ 30000) (hg : Nat.gcd (x * p) (y * q) = g) :
    Calls Tryd.prog 32 #[.slice (some ⟨b, 0, none⟩) rs.length cap, .string base, .string fr, .string to, .int .i64 per] w fun e w' => e = .returned (.tuple #[.int .i64 ((x * p / g : Nat) : Int), .int .i64 ((y * q / g : Nat) : Int), .nilIface]) ∧ Below w.heap.size w w' := by
  have hxp : x * p ≤ 900000000 := Nat.mul_le_mul hx.2 hp.2
  have hyq : y * q ≤ 900000000 := Nat.mul_le_mul hy.2 hq.2
  have hxp1 : 1 ≤ x * p := Nat.mul_le_mul hx.1 hp.1
  have hgp : 1 ≤ g := by rw [← hg]; exact Nat.gcd_pos_of_pos_left _ hxp1
  have hd1 : x * p / g ≤ x * p := Nat.div_le_self _ _
  have hd2 : y * q / g ≤ y * q := Nat.div_le_self _ _
  have e1 : (x : Int) * (p : Int) = ((x * p : Nat) : Int) := (Int.natCast_mul _ _).symm
  have e2 : (y : Int) * (q : Int) = ((y * q : Nat) : Int) := (Int.natCast_mul _ _).symm
  have hgc := fun W => gcd_any (x * p) (y * q) W (by omega) (by omega)
  rw [hg] at hgc
  have hc := fun W (hW : Below w.heap.size w W) => check_right b cap rs W (hl.below hW) hr
  have hk1 := fun W => cur_in base ha.cb W
  have hk2 := fun W => cur_in fr ha.cf W
  have hk3 := fun W => cur_in to ha.ct W
  have hpe := fun W => period_in per W ha.hp.1 ha.hp.2
  have hd0 := fun W (hW : Below w.heap.size w W) => direct_any b cap rs fr to per W (hl.below hW) ha.nft hr.few
  have hd3 := fun W (hW : Below w.heap.size w W) => direct_any b cap rs fr base per W (hl.below hW) ha.nfb hr.few
  have hd4 := fun W (hW : Below w.heap.size w W) => direct_any b cap rs base to per W (hl.below hW) ha.nbt hr.few
  rw [h0] at hd0
  rw [h1] at hd3
  rw [h2] at hd4
  have t1 : (fr.toList == base.toList) = false := ha.nfb
  have t2 : (to.toList == base.toList) = false := ha.ntb
  have HC := Lib.hid hc
  have HK1 := Lib.hid hk1
  have HK2 := Lib.hid hk2
  have HK3 := Lib.hid hk3
  have HPE := Lib.hid hpe
  have HD0 := Lib.hid hd0
  have HD3 := Lib.hid hd3
  have HD4 := Lib.hid hd4
  have HGC := Lib.hid hgc
  have m1 : wrap64 ((x : Int) * (p : Int)) = ((x * p : Nat) : Int) := by rw [e1]; exact (IntWalk.i64_left _).symm.trans (IntWalk.i64_in _ (by omega))
  have m2 : wrap64 ((y : Int) * (q : Int)) = ((y * q : Nat) : Int) := by rw [e2]; exact (IntWalk.i64_left _).symm.trans (IntWalk.i64_in _ (by omega))
  have td1 := tdiv_nat (x * p) g
  have td2 := tdiv_nat (y * q) g
  generalize x * p = n at *
  generalize y * q = d at *
  have HM1 := Lib.hid m1
  have HM2 := Lib.hid m2
  have HT1 := Lib.hid td1
  have HT2 := Lib.hid td2
  have HE1 := Lib.hid e1
  have HE2 := Lib.hid e2
  clear hc hk1 hk2 hk3 hpe hd0 hd3 hd4 hgc hl hr ha h0 h1 h2 hg m1 m2 td1 td2 e1 e2
  have hcall := HC.out w (Below.refl _ _)
  go_enter Tryd.func32, Tryd.ntmps32
  go_wp2_with fail
  refine hcall.mono ?_
  rintro e w1 ⟨rfl, hb1⟩
  have HB1 := Lib.hid hb1
  clear hcall hb1
  have hcall := HK1.out w1
  go_wp2_with fail
  refine hcall.mono ?_
  rintro e w2 ⟨rfl, hb2⟩
  have HB2 := Lib.hid (HB1.out.trans (hb2.mono HB1.out.size))
  clear hcall hb2 HB1
  have hcall := HK2.out w2
  go_wp2_with fail
  refine hcall.mono ?_
  rintro e w3 ⟨rfl, hb3⟩
  have HB3 := Lib.hid (HB2.out.trans (hb3.mono HB2.out.size))
  clear hcall hb3 HB2
  have hcall := HK3.out w3
  go_wp2_with fail
  refine hcall.mono ?_
  rintro e w4 ⟨rfl, hb4⟩
  have HB4 := Lib.hid (HB3.out.trans (hb4.mono HB3.out.size))
  clear hcall hb4 HB3
  have hcall := HPE.out w4
  go_wp2_with fail
  refine hcall.mono ?_
  rintro e w' ⟨rfl, rfl⟩
  clear hcall
  have hcall := HD0.out w4 HB4.out
  unfold dirV at hcall
  go_wp2_with fail
  refine hcall.mono ?_
  rintro e w5 ⟨rfl, hb5⟩
  have HB5 := Lib.hid (HB4.out.trans (hb5.mono HB4.out.size))
  clear hcall hb5 HB4
  have hcall := HD3.out w5 HB5.out
  unfold dirV at hcall
  go_wp2_with fail
  refine hcall.mono ?_
  rintro e w6 ⟨rfl, hb6⟩
  have HB6 := Lib.hid (HB5.out.trans (hb6.mono HB5.out.size))
  clear hcall hb6 HB5
  have hcall := HD4.out w6 HB6.out
  unfold dirV at hcall
  go_wp2_with fail
  refine hcall.mono ?_
  rintro e w7 ⟨rfl, hb7⟩
  have HB7 := Lib.hid (HB6.out.trans (hb7.mono HB6.out.size))
  clear hcall hb7 HB6
  have hcall := HGC.out w7
  rw [← HM1.out, ← HM2.out] at hcall
  go_wp2_with fail
  refine hcall.mono ?_
  rintro e w8 ⟨rfl, hb8⟩
  have HB8 := Lib.hid (HB7.out.trans (hb8.mono HB7.out.size))
  clear hcall hb8 HB7
  rw [HM1.out, HM2.out]
  have td1 := HT1.out
  have td2 := HT2.out
  have hg1 : (0 : Int) < (g : Int) := by omega
  have hg2 : ((g : Int) == 0) = false := by simp; omega
  have hn0 : (0 : Int) ≤ (n : Int) := by omega
  have hd0 : (0 : Int) ≤ (d : Int) := by omega
  have k1 : decide ((1000000000 : Int) < ((n / g : Nat) : Int)) = false := decide_eq_false (by omega)
  have k2 : decide ((1000000000 : Int) < ((d / g : Nat) : Int)) = false := decide_eq_false (by omega)
  have HU : Hid (((n / g : Nat) : Int) = (n : Int) / (g : Int)) := by show _ = _; exact Int.natCast_ediv _ _
  have HV : Hid (((d / g : Nat) : Int) = (d : Int) / (g : Int)) := by show _ = _; exact Int.natCast_ediv _ _
  generalize n / g = u at *
  generalize d / g = v at *
  go_wp2_with fail
  go_ret3
  exact ⟨by simp [HU.out, HV.out], HB8.out⟩
set_option maxRecDepth 100000 in
set_option maxHeartbeats 8000000 in
theorem find_none (b cap : Nat) (rs : List RateM) (base fr to : ByteArray) (per : Int) (w : World) (hl : RatesAt w b rs) (hr : Right rs) (ha : Asks base fr to per)
    (h0 : dirM fr to per rs = none) (h1 : dirM fr base per rs = none) (h2 : dirM base to per rs = none) :
    Calls Tryd.prog 32 #[.slice (some ⟨b, 0, none⟩) rs.length cap, .string base, .string fr, .string to, .int .i64 per] w fun e w' => e = .returned (.tuple #[.int .i64 0, .int .i64 0, errV 6]) ∧ Below w.heap.size w w' := by
  have hc := fun W (hW : Below w.heap.size w W) => check_right b cap rs W (hl.below hW) hr
  have hk1 := fun W => cur_in base ha.cb W
  have hk2 := fun W => cur_in fr ha.cf W
  have hk3 := fun W => cur_in to ha.ct W
  have hpe := fun W => period_in per W ha.hp.1 ha.hp.2
  have hd0 := fun W (hW : Below w.heap.size w W) => direct_any b cap rs fr to per W (hl.below hW) ha.nft hr.few
  have hd3 := fun W (hW : Below w.heap.size w W) => direct_any b cap rs fr base per W (hl.below hW) ha.nfb hr.few
  have hd4 := fun W (hW : Below w.heap.size w W) => direct_any b cap rs base to per W (hl.below hW) ha.nbt hr.few
  rw [h0] at hd0
  rw [h1] at hd3
  rw [h2] at hd4
  have t1 : (fr.toList == base.toList) = false := ha.nfb
  have t2 : (to.toList == base.toList) = false := ha.ntb
  have HC := Lib.hid hc
  have HK1 := Lib.hid hk1
  have HK2 := Lib.hid hk2
  have HK3 := Lib.hid hk3
  have HPE := Lib.hid hpe
  have HD0 := Lib.hid hd0
  have HD3 := Lib.hid hd3
  have HD4 := Lib.hid hd4
  clear hc hk1 hk2 hk3 hpe hd0 hd3 hd4 hl hr ha h0 h1 h2
  have hcall := HC.out w (Below.refl _ _)
  go_enter Tryd.func32, Tryd.ntmps32
  go_wp2_with fail
  refine hcall.mono ?_
  rintro e w1 ⟨rfl, hb1⟩
  have HB1 := Lib.hid hb1
  clear hcall hb1
  have hcall := HK1.out w1
  go_wp2_with fail
  refine hcall.mono ?_
  rintro e w2 ⟨rfl, hb2⟩
  have HB2 := Lib.hid (HB1.out.trans (hb2.mono HB1.out.size))
  clear hcall hb2 HB1
  have hcall := HK2.out w2
  go_wp2_with fail
  refine hcall.mono ?_
  rintro e w3 ⟨rfl, hb3⟩
  have HB3 := Lib.hid (HB2.out.trans (hb3.mono HB2.out.size))
  clear hcall hb3 HB2
  have hcall := HK3.out w3
  go_wp2_with fail
  refine hcall.mono ?_
  rintro e w4 ⟨rfl, hb4⟩
  have HB4 := Lib.hid (HB3.out.trans (hb4.mono HB3.out.size))
  clear hcall hb4 HB3
  have hcall := HPE.out w4
  go_wp2_with fail
  refine hcall.mono ?_
  rintro e w' ⟨rfl, rfl⟩
  clear hcall
  have hcall := HD0.out w4 HB4.out
  unfold dirV at hcall
  go_wp2_with fail
  refine hcall.mono ?_
  rintro e w5 ⟨rfl, hb5⟩
  have HB5 := Lib.hid (HB4.out.trans (hb5.mono HB4.out.size))
  clear hcall hb5 HB4
  have hcall := HD3.out w5 HB5.out
  unfold dirV at hcall
  go_wp2_with fail
  refine hcall.mono ?_
  rintro e w6 ⟨rfl, hb6⟩
  have HB6 := Lib.hid (HB5.out.trans (hb6.mono HB5.out.size))
  clear hcall hb6 HB5
  have hcall := HD4.out w6 HB6.out
  unfold dirV at hcall
  go_wp2_with fail
  refine hcall.mono ?_
  rintro e w7 ⟨rfl, hb7⟩
  have HB7 := Lib.hid (HB6.out.trans (hb7.mono HB6.out.size))
  clear hcall hb7 HB6
  go_wp2_with fail
  go_ret3
  exact ⟨rfl, HB7.out⟩
end Go.Proofs.YtbhndnjlplibmaaDoor.rt
