/- MatchFifo: match's answers are the reference's. -/
import Derived.Test.YtbhndnjlplibmaaDoorRf4
import Derived.Test.YtbhndnjlplibmaaDoorIt8
import Derived.Test.YtbhndnjlplibmaaDoorIntsSame
import Derived.Test.YtbhndnjlplibmaaDoorTold
namespace Go.Proofs.YtbhndnjlplibmaaDoor.mt
open Go.RowKit

set_option maxRecDepth 100000 in
set_option maxHeartbeats 8000000 in
theorem walk_fifo (hf : FifoAll) (ao : Option Addr) (cap : Nat) (its : List ItemM) (period : Int) (bao : Option Addr) (bcap : Nat) (bs : List Int) (w : World) (hg : Door w) (hh : ItemsAt w.heap.size w ao its) (hm : its.length ≤ 9223372036854775807) (hz : IntsAt w bao bs) (hbm : bs.length ≤ 9223372036854775807) :
    Calls Tryd.prog 6 #[.slice ao its.length cap, .int .i64 period, .slice bao bs.length bcap] w fun e w' => e = .returned (.bool true) ∧ Below w.heap.size w w' := by
  obtain ⟨c, hcc⟩ : ∃ c, itemsF its = c := ⟨_, rfl⟩
  have hc1 := ritems_r c ao cap its w hh hm hcc
  have HH := Lib.hid hh
  have HZ := Lib.hid hz
  have HF := Lib.hid hf
  have HG := Lib.hid hg
  have HP := Lib.hid hg.pos
  have HCC := Lib.hid hcc
  clear hh hz hf hg
  go_enter Tryd.func6, Tryd.ntmps6
  go_wp2_with fail
  refine hc1.mono ?_
  rintro e w1 ⟨rfl, hb1⟩
  have HB1 := Lib.hid hb1
  have hc2 := check_r c ao cap its w1 (HH.out.later HB1.out HB1.out.size) hm hcc
  clear hc1 hb1
  go_wp2_with fail
  refine hc2.mono ?_
  rintro e w2 ⟨rfl, hb2⟩
  have HB2 := Lib.hid (HB1.out.trans (hb2.mono HB1.out.size))
  have hc3 := error_any c c w2 (HG.out.below HB2.out HP.out)
  rw [beq_self_eq_true] at hc3
  clear hc2 hb2 HB1
  go_wp2_with fail
  refine hc3.mono ?_
  rintro e w3 ⟨rfl, hb3⟩
  have HB3 := Lib.hid (HB2.out.trans (hb3.mono HB2.out.size))
  clear hc3 hb3 HB2 hcc
  by_cases h0 : c = 0
  · subst h0
    have hc4 := rfifo_any ao cap its w3 (HH.out.later HB3.out HB3.out.size) HCC.out
    go_wp2_with fail
    refine hc4.mono ?_
    intro e w4 hq
    obtain ⟨hb4, sv, ov, rfl, hs, ho⟩ := hq
    have e1 : setsA its = setsF its := by unfold setsA; rw [if_pos HCC.out]
    have e2 : openA its = openF its := by unfold openA; rw [if_pos HCC.out]
    rw [← e1] at hs
    rw [← e2] at ho
    obtain ⟨sa, sc, rfl, hsa, _⟩ := row_sets hs
    obtain ⟨oa, oc, rfl, hoa, _⟩ := row_items ho
    have HB4 := Lib.hid (HB3.out.trans (hb4.mono HB3.out.size))
    have SA := Lib.hid hsa
    have OA := Lib.hid hoa
    clear hc4 hb4 hs ho hsa hoa e1 e2 HB3
    have hc5 := HF.out ao cap its w4 (HH.out.later HB4.out HB4.out.size) hm
    go_wp2_with fail
    refine hc5.mono ?_
    intro e w5 hq
    obtain ⟨hb5, sv5, ov5, rfl, hs5, ho5⟩ := hq
    obtain ⟨sa5, sc5, rfl, hsa5, _⟩ := row_sets hs5
    obtain ⟨oa5, oc5, rfl, hoa5, _⟩ := row_items ho5
    rw [HCC.out]
    have HB5 := Lib.hid (HB4.out.trans (hb5.mono HB4.out.size))
    have SA' := Lib.hid (SA.out.later hb5)
    have OA' := Lib.hid (OA.out.later hb5 hb5.size)
    have SA5 := Lib.hid hsa5
    have OA5 := Lib.hid hoa5
    have hc6 := error_any 0 0 w5 (HG.out.below HB5.out HP.out)
    rw [beq_self_eq_true] at hc6
    clear hc5 hb5 hs5 ho5 hsa5 hoa5 SA OA HB4
    go_wp2_with fail
    refine hc6.mono ?_
    rintro e w6 ⟨rfl, hb6⟩
    have HB6 := Lib.hid (HB5.out.trans (hb6.mono HB5.out.size))
    have SA6 := Lib.hid (SA5.out.later hb6)
    have OA6 := Lib.hid (OA5.out.later hb6 hb6.size)
    have SA6' := Lib.hid (SA'.out.later hb6)
    have OA6' := Lib.hid (OA'.out.later hb6 hb6.size)
    have hll : (openA its).length ≤ 9223372036854775807 := by have := openA_len its; omega
    have hc7 := items_same (openA its) w6 oa5 oa oc5 oc OA6.out OA6'.out hll
    have hsl := setsA_len its
    clear hc6 hb6 SA' OA' SA5 OA5 HB5 hll
    go_wp2_with fail
    refine hc7.mono ?_
    rintro e w7 ⟨rfl, n7, rfl⟩
    clear hc7 OA6 OA6'
    have q1 : (((setsA its).length : Int) != ((setsA its).length : Int)) = false := by simp
    go_wp2_with fail
    generalize HSX : setsA its = S at *
    go_loopw [16] (fun i wr => ∃ k n : Nat, k ≤ S.length ∧ i = .int .i64 (k : Int) ∧ wr = w6.drewN n) (fun i _ => S.length - (intOf i).toNat)
    case atStart => exact ⟨0, _, Nat.zero_le _, rfl, rfl⟩
    case round =>
      obtain ⟨k, n, hk, rfl, rfl⟩ := hrel
      by_cases hlt : k < S.length
      · obtain ⟨b1, rfl, _, hk1⟩ := SA6.out.resolve_left (fun e => by rw [e] at hlt; simp at hlt)
        obtain ⟨b2, hb2', _, hk2⟩ := SA6'.out.resolve_left (fun e => by rw [e] at hlt; simp at hlt)
        subst hb2'
        obtain ⟨y, hy⟩ : ∃ y, S[k]? = some y := ⟨S[k], List.getElem?_eq_getElem hlt⟩
        obtain ⟨x0, x1, x2⟩ := hk1 k y hy
        obtain ⟨y0, y1, y2⟩ := hk2 k y hy
        have hi1 : (k : Int) < (S.length : Int) := by omega
        have hi0 : (0 : Int) ≤ (k : Int) := by omega
        have har := arr3_same
        clear hk1 hk2 hy
        go_wp2_with fail
        go_quiet (fail)
        go_wp2_with fail
        go_roundw
        case rel => exact ⟨k + 1, _, by omega, by go_num, rfl⟩
        case measure => simp [intOf]; omega
      · clear SA6 SA6' q1 hsl
        have HB7 := Lib.hid (below_drewN HB6.out n)
        obtain ⟨w7, hw7⟩ : ∃ w7, w7 = w6.drewN n := ⟨_, rfl⟩
        rw [← hw7] at HB7 ⊢
        clear hw7 HB6
        have hc8 := rages_any ao cap its period bao bcap bs w7 (HH.out.later HB7.out HB7.out.size) hm (ints_later HZ.out HB7.out) hbm
        go_wp2_with fail
        refine hc8.mono ?_
        intro e w8 hq
        obtain ⟨hb8, ga, gc, rfl, hg8⟩ := hq
        have HB8 := Lib.hid (HB7.out.trans (hb8.mono HB7.out.size))
        have hc9 := ages_any HF.out ao cap its period bao bcap bs w8 (HH.out.later HB8.out HB8.out.size) hm (ints_later HZ.out HB8.out) hbm
        have G8 := Lib.hid hg8
        clear hc8 hb8 hg8 HB7
        go_wp2_with fail
        refine hc9.mono ?_
        intro e w9 hq
        obtain ⟨hb9, ga9, gc9, rfl, hg9⟩ := hq
        have HB9 := Lib.hid (HB8.out.trans (hb9.mono HB8.out.size))
        have G8' := Lib.hid (ints_later G8.out hb9)
        have G9 := Lib.hid hg9
        have hc10 := error_any (agesC its period bs) (agesC its period bs) w9 (HG.out.below HB9.out HP.out)
        rw [beq_self_eq_true] at hc10
        have hgl := agesA_len its period bs
        clear hc9 hb9 hg9 HB8 G8
        generalize agesC its period bs = ac at *
        go_wp2_with fail
        refine hc10.mono ?_
        rintro e w10 ⟨rfl, hb10⟩
        have HB10 := Lib.hid (HB9.out.trans (hb10.mono HB9.out.size))
        have hc11 := ints_same (agesA its period bs) w10 ga9 ga gc9 gc (ints_later G9.out hb10) (ints_later G8'.out hb10) (by omega)
        clear hc10 hb10 HB9 G8' G9
        generalize agesA its period bs = aa at *
        go_wp2_with fail
        refine hc11.mono ?_
        rintro e w11 ⟨rfl, n11, rfl⟩
        have HB11 := Lib.hid (below_drewN HB10.out n11)
        clear hc11
        go_wp2_with fail
        go_ret
        exact ⟨rfl, HB11.out⟩
  · have q0 : (c == 0) = false := beq_eq_false_iff_ne.2 h0
    have e1 : setsA its = [] := by unfold setsA; rw [if_neg (by rw [HCC.out]; exact h0)]
    have e2 : openA its = [] := by unfold openA; rw [if_neg (by rw [HCC.out]; exact h0)]
    have E1 := Lib.hid e1
    have E2 := Lib.hid e2
    have SA : Hid (SetsAt w3 none (setsA its)) := Or.inl e1
    have OA : Hid (ItemsAt w3.heap.size w3 none (openA its)) := Or.inl e2
    have HB4 := HB3
    clear e1 e2 h0
    have hc5 := HF.out ao cap its w3 (HH.out.later HB4.out HB4.out.size) hm
    go_wp2_with fail
    refine hc5.mono ?_
    intro e w5 hq
    obtain ⟨hb5, sv5, ov5, rfl, hs5, ho5⟩ := hq
    obtain ⟨sa5, sc5, rfl, hsa5, _⟩ := row_sets hs5
    obtain ⟨oa5, oc5, rfl, hoa5, _⟩ := row_items ho5
    rw [HCC.out]
    have HB5 := Lib.hid (HB4.out.trans (hb5.mono HB4.out.size))
    have SA' := Lib.hid (SA.out.later hb5)
    have OA' := Lib.hid (OA.out.later hb5 hb5.size)
    have SA5 := Lib.hid hsa5
    have OA5 := Lib.hid hoa5
    have hc6 := error_any c c w5 (HG.out.below HB5.out HP.out)
    rw [beq_self_eq_true] at hc6
    clear hc5 hb5 hs5 ho5 hsa5 hoa5 SA OA HB4
    go_wp2_with fail
    refine hc6.mono ?_
    rintro e w6 ⟨rfl, hb6⟩
    have HB6 := Lib.hid (HB5.out.trans (hb6.mono HB5.out.size))
    have SA6 := Lib.hid (SA5.out.later hb6)
    have OA6 := Lib.hid (OA5.out.later hb6 hb6.size)
    have SA6' := Lib.hid (SA'.out.later hb6)
    have OA6' := Lib.hid (OA'.out.later hb6 hb6.size)
    have hll : (openA its).length ≤ 9223372036854775807 := by have := openA_len its; omega
    have hc7 := items_same (openA its) w6 oa5 none oc5 0 OA6.out OA6'.out hll
    have hsl := setsA_len its
    clear hc6 hb6 SA' OA' SA5 OA5 HB5 hll
    have HC7 := Lib.hid hc7
    clear hc7
    generalize errV c = vc at *
    go_wp2_with fail
    have hc7 := HC7.out
    rw [E2.out] at hc7 ⊢
    refine hc7.mono ?_
    rintro e w7 ⟨rfl, n7, rfl⟩
    clear hc7 OA6 OA6'
    rw [E1.out]
    go_wp2_with fail
    go_loopw [16] (fun i wr => i = .int .i64 0 ∧ wr = w6.drewN n7) (fun i _ => 0)
    case atStart => exact ⟨rfl, rfl⟩
    case round =>
      obtain ⟨rfl, rfl⟩ := hrel
      clear SA6 SA6' hsl
      have HB7 := Lib.hid (below_drewN HB6.out n7)
      obtain ⟨w7, hw7⟩ : ∃ w7, w7 = w6.drewN n7 := ⟨_, rfl⟩
      rw [← hw7] at HB7 ⊢
      clear hw7 HB6
      have hc8 := rages_any ao cap its period bao bcap bs w7 (HH.out.later HB7.out HB7.out.size) hm (ints_later HZ.out HB7.out) hbm
      go_wp2_with fail
      refine hc8.mono ?_
      intro e w8 hq
      obtain ⟨hb8, ga, gc, rfl, hg8⟩ := hq
      have HB8 := Lib.hid (HB7.out.trans (hb8.mono HB7.out.size))
      have hc9 := ages_any HF.out ao cap its period bao bcap bs w8 (HH.out.later HB8.out HB8.out.size) hm (ints_later HZ.out HB8.out) hbm
      have G8 := Lib.hid hg8
      clear hc8 hb8 hg8 HB7
      go_wp2_with fail
      refine hc9.mono ?_
      intro e w9 hq
      obtain ⟨hb9, ga9, gc9, rfl, hg9⟩ := hq
      have HB9 := Lib.hid (HB8.out.trans (hb9.mono HB8.out.size))
      have G8' := Lib.hid (ints_later G8.out hb9)
      have G9 := Lib.hid hg9
      have hc10 := error_any (agesC its period bs) (agesC its period bs) w9 (HG.out.below HB9.out HP.out)
      rw [beq_self_eq_true] at hc10
      have hgl := agesA_len its period bs
      clear hc9 hb9 hg9 HB8 G8
      generalize agesC its period bs = ac at *
      go_wp2_with fail
      refine hc10.mono ?_
      rintro e w10 ⟨rfl, hb10⟩
      have HB10 := Lib.hid (HB9.out.trans (hb10.mono HB9.out.size))
      have hc11 := ints_same (agesA its period bs) w10 ga9 ga gc9 gc (ints_later G9.out hb10) (ints_later G8'.out hb10) (by omega)
      clear hc10 hb10 HB9 G8' G9
      generalize agesA its period bs = aa at *
      go_wp2_with fail
      refine hc11.mono ?_
      rintro e w11 ⟨rfl, n11, rfl⟩
      have HB11 := Lib.hid (below_drewN HB10.out n11)
      clear hc11
      go_wp2_with fail
      go_ret
      exact ⟨rfl, HB11.out⟩
end Go.Proofs.YtbhndnjlplibmaaDoor.mt
