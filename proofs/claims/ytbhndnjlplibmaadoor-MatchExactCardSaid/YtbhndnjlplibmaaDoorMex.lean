/- MatchExact: match.Exact's answer is the reference's. (printed by wip/tools/gen_mex.py) -/
import Derived.Test.YtbhndnjlplibmaaDoorEx4
import Derived.Test.YtbhndnjlplibmaaDoorRf2
import Derived.Test.YtbhndnjlplibmaaDoorIntsSame
import Derived.Test.YtbhndnjlplibmaaDoorTold
namespace Go.Proofs.YtbhndnjlplibmaaDoor.mt
open Go.RowKit

theorem exC_bad {its : List ItemM} {want c : Int} (h : itemsF its = c) (h0 : c ≠ 0) : exC its want = c ∧ exX its want = [] := by
  unfold exC exX
  rw [if_pos (by rw [h]; exact h0), if_pos (by rw [h]; exact h0)]
  exact ⟨h, rfl⟩
theorem exC_many {its : List ItemM} {want : Int} (h : itemsF its = 0) (hl : 16 < its.length) : exC its want = 4 ∧ exX its want = [] := by
  unfold exC exX
  rw [if_neg (by rw [h]; simp), if_pos hl, if_neg (by rw [h]; simp), if_pos hl]
  exact ⟨rfl, rfl⟩
theorem exC_none {its : List ItemM} {want : Int} (h : itemsF its = 0) (hl : ¬ 16 < its.length) (he : exactM (amts its) want = none) : exC its want = 6 ∧ exX its want = [] := by
  unfold exC exX
  rw [if_neg (by rw [h]; simp), if_neg hl, if_pos he, if_neg (by rw [h]; simp), if_neg hl, he]
  exact ⟨rfl, rfl⟩
theorem exC_some {its : List ItemM} {want : Int} {x : List Nat} (h : itemsF its = 0) (hl : ¬ 16 < its.length) (he : exactM (amts its) want = some x) : exC its want = 0 ∧ exX its want = x := by
  unfold exC exX
  rw [if_neg (by rw [h]; simp), if_neg hl, if_neg (by rw [he]; simp), if_neg (by rw [h]; simp), if_neg hl, he]
  exact ⟨rfl, rfl⟩

set_option maxRecDepth 100000 in
set_option maxHeartbeats 8000000 in
theorem walk_exact (ao : Option Addr) (cap : Nat) (its : List ItemM) (want : Int) (w : World) (hg : Door w) (hh : ItemsAt w.heap.size w ao its) (hm : its.length ≤ 9223372036854775807) (hwant : -9223372036854775808 ≤ want ∧ want ≤ 9223372036854775807) :
    Calls Tryd.prog 8 #[.slice ao its.length cap, .int .i64 want] w fun e w' => e = .returned (.bool true) ∧ Below w.heap.size w w' := by
  obtain ⟨c, hcc⟩ : ∃ c, itemsF its = c := ⟨_, rfl⟩
  have hc1 := ritems_r c ao cap its w hh hm hcc
  have HH := Lib.hid hh
  have HG := Lib.hid hg
  have HP := Lib.hid hg.pos
  have HW := Lib.hid hwant
  have HCC := Lib.hid hcc
  have HNIL : ∀ wx, Hid (IntsAt wx none (([] : List Nat).map fun n : Nat => (n : Int))) := fun _ => Or.inl rfl
  clear hh hg hcc hwant
  go_enter Tryd.func8, Tryd.ntmps8
  go_wp2_with fail
  refine hc1.mono ?_
  rintro e wz ⟨rfl, hb1⟩
  have HBZ := Lib.hid hb1
  clear hc1 hb1
  by_cases h0 : c = 0
  · subst h0
    by_cases h16 : 16 < its.length
    · have d1 : decide ((16 : Int) < (its.length : Int)) = true := decide_eq_true (by omega)
      obtain ⟨hE, hX⟩ := exC_many (want := want) HCC.out h16
      have HE := Lib.hid hE
      have HX := Lib.hid hX
      have HIB := HNIL wz
      clear hE hX
      have hl0 : ([] : List Nat).length = 0 := rfl
      have hc4 := exact_any ao cap its want wz (HH.out.later HBZ.out HBZ.out.size) hm HW.out
      rw [HE.out, HX.out] at hc4
      go_wp2_with fail
      refine hc4.mono ?_
      intro e w4 hp
      obtain ⟨hb4, v4, rfl, hs4⟩ := hp
      obtain ⟨xo4, xc4, rfl, hx4⟩ := slx_form hs4
      have HB4 := Lib.hid (HBZ.out.trans (hb4.mono HBZ.out.size))
      have HI4 := Lib.hid hx4
      have HIB4 := Lib.hid (ints_keep HIB.out hb4)
      have hc5 := error_any 4 4 w4 (HG.out.below HB4.out HP.out)
      rw [beq_self_eq_true] at hc5
      clear hc4 hb4 hs4 hx4 HBZ HIB
      go_wp2_with fail
      refine hc5.mono ?_
      rintro e w5 ⟨rfl, hb5⟩
      have HB5 := Lib.hid (HB4.out.trans (hb5.mono HB4.out.size))
      have hc6 := ints_same (([] : List Nat).map fun n : Nat => (n : Int)) w5 xo4 none xc4 0 (ints_keep HI4.out hb5) (ints_keep HIB4.out hb5) (by rw [List.length_map]; omega)
      rw [List.length_map] at hc6
      clear hc5 hb5 HB4 HI4 HIB4
      go_wp2_with fail
      refine hc6.mono ?_
      rintro e w6 ⟨rfl, n6, rfl⟩
      clear hc6
      go_wp2_with fail
      go_ret
      exact ⟨rfl, HB5.out.trans (big.belowN _ _ _)⟩
    · have d1 : decide ((16 : Int) < (its.length : Int)) = false := decide_eq_false (by omega)
      have hc2 := rexact_any ao cap its want wz (HH.out.later HBZ.out HBZ.out.size) HCC.out (by omega)
      go_wp2_with fail
      refine hc2.mono ?_
      intro e w2 hp
      obtain ⟨hb2, v2, rfl, bo, bc, rfl, hbi⟩ := hp
      have HB2 := Lib.hid (HBZ.out.trans (hb2.mono HBZ.out.size))
      clear hc2 hb2 HBZ
      cases he : exactM (amts its) want with
      | none =>
        obtain ⟨hE, hX⟩ := exC_none HCC.out h16 he
        rw [he] at hbi
        have HE := Lib.hid hE
        have HX := Lib.hid hX
        have HIB : Hid (IntsAt w2 bo (([] : List Nat).map fun n : Nat => (n : Int))) := hbi
        have HBZ := HB2
        have hl0 : ([] : List Nat).length = 0 := rfl
        obtain ⟨wz', hwz⟩ : ∃ x, x = w2 := ⟨_, rfl⟩
        simp only [Option.isSome_none, Option.getD_none, List.length_nil]
        clear hE hX hbi HB2 he hwz
        have hc4 := exact_any ao cap its want w2 (HH.out.later HBZ.out HBZ.out.size) hm HW.out
        rw [HE.out, HX.out] at hc4
        go_wp2_with fail
        refine hc4.mono ?_
        intro e w4 hp
        obtain ⟨hb4, v4, rfl, hs4⟩ := hp
        obtain ⟨xo4, xc4, rfl, hx4⟩ := slx_form hs4
        have HB4 := Lib.hid (HBZ.out.trans (hb4.mono HBZ.out.size))
        have HI4 := Lib.hid hx4
        have HIB4 := Lib.hid (ints_keep HIB.out hb4)
        have hc5 := error_any 6 6 w4 (HG.out.below HB4.out HP.out)
        rw [beq_self_eq_true] at hc5
        clear hc4 hb4 hs4 hx4 HBZ HIB
        go_wp2_with fail
        refine hc5.mono ?_
        rintro e w5 ⟨rfl, hb5⟩
        have HB5 := Lib.hid (HB4.out.trans (hb5.mono HB4.out.size))
        have hc6 := ints_same (([] : List Nat).map fun n : Nat => (n : Int)) w5 xo4 bo xc4 bc (ints_keep HI4.out hb5) (ints_keep HIB4.out hb5) (by rw [List.length_map]; omega)
        rw [List.length_map] at hc6
        clear hc5 hb5 HB4 HI4 HIB4
        go_wp2_with fail
        refine hc6.mono ?_
        rintro e w6 ⟨rfl, n6, rfl⟩
        clear hc6
        go_wp2_with fail
        go_ret
        exact ⟨rfl, HB5.out.trans (big.belowN _ _ _)⟩
      | some x =>
        obtain ⟨hE, hX⟩ := exC_some HCC.out h16 he
        rw [he] at hbi
        have HE := Lib.hid hE
        have HX := Lib.hid hX
        have HIB : Hid (IntsAt w2 bo (x.map fun n : Nat => (n : Int))) := hbi
        have HBZ := HB2
        have hxl : x.length ≤ 16 := by
          have := (exact_way he).room (Nat.zero_le _)
          rw [amts_len] at this
          omega
        simp only [Option.isSome_some, Option.getD_some]
        clear hE hX hbi HB2 he
        have hc4 := exact_any ao cap its want w2 (HH.out.later HBZ.out HBZ.out.size) hm HW.out
        rw [HE.out, HX.out] at hc4
        go_wp2_with fail
        refine hc4.mono ?_
        intro e w4 hp
        obtain ⟨hb4, v4, rfl, hs4⟩ := hp
        obtain ⟨xo4, xc4, rfl, hx4⟩ := slx_form hs4
        have HB4 := Lib.hid (HBZ.out.trans (hb4.mono HBZ.out.size))
        have HI4 := Lib.hid hx4
        have HIB4 := Lib.hid (ints_keep HIB.out hb4)
        have hc5 := error_any 0 0 w4 (HG.out.below HB4.out HP.out)
        rw [beq_self_eq_true] at hc5
        clear hc4 hb4 hs4 hx4 HBZ HIB
        go_wp2_with fail
        refine hc5.mono ?_
        rintro e w5 ⟨rfl, hb5⟩
        have HB5 := Lib.hid (HB4.out.trans (hb5.mono HB4.out.size))
        have hc6 := ints_same (x.map fun n : Nat => (n : Int)) w5 xo4 bo xc4 bc (ints_keep HI4.out hb5) (ints_keep HIB4.out hb5) (by rw [List.length_map]; omega)
        rw [List.length_map] at hc6
        clear hc5 hb5 HB4 HI4 HIB4
        go_wp2_with fail
        refine hc6.mono ?_
        rintro e w6 ⟨rfl, n6, rfl⟩
        clear hc6
        go_wp2_with fail
        go_ret
        exact ⟨rfl, HB5.out.trans (big.belowN _ _ _)⟩
  · obtain ⟨hE, hX⟩ := exC_bad (want := want) HCC.out h0
    have HE := Lib.hid hE
    have HX := Lib.hid hX
    have HIB := HNIL wz
    have q0 : (c == 0) = false := by simpa using h0
    have hl0 : ([] : List Nat).length = 0 := rfl
    clear hE hX
    have hc4 := exact_any ao cap its want wz (HH.out.later HBZ.out HBZ.out.size) hm HW.out
    rw [HE.out, HX.out] at hc4
    go_wp2_with fail
    refine hc4.mono ?_
    intro e w4 hp
    obtain ⟨hb4, v4, rfl, hs4⟩ := hp
    obtain ⟨xo4, xc4, rfl, hx4⟩ := slx_form hs4
    have HB4 := Lib.hid (HBZ.out.trans (hb4.mono HBZ.out.size))
    have HI4 := Lib.hid hx4
    have HIB4 := Lib.hid (ints_keep HIB.out hb4)
    have hc5 := error_any c c w4 (HG.out.below HB4.out HP.out)
    rw [beq_self_eq_true] at hc5
    clear hc4 hb4 hs4 hx4 HBZ HIB
    go_wp2_with fail
    refine hc5.mono ?_
    rintro e w5 ⟨rfl, hb5⟩
    have HB5 := Lib.hid (HB4.out.trans (hb5.mono HB4.out.size))
    have hc6 := ints_same (([] : List Nat).map fun n : Nat => (n : Int)) w5 xo4 none xc4 0 (ints_keep HI4.out hb5) (ints_keep HIB4.out hb5) (by rw [List.length_map]; omega)
    rw [List.length_map] at hc6
    clear hc5 hb5 HB4 HI4 HIB4
    go_wp2_with fail
    refine hc6.mono ?_
    rintro e w6 ⟨rfl, n6, rfl⟩
    clear hc6
    go_wp2_with fail
    go_ret
    exact ⟨rfl, HB5.out.trans (big.belowN _ _ _)⟩
end Go.Proofs.YtbhndnjlplibmaaDoor.mt
