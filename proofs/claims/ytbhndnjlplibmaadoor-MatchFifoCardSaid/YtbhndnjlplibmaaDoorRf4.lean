/- dayref3.Ages at any items, period and bounds: the same as match.Ages. -/
import Derived.Test.YtbhndnjlplibmaaDoorRf2
import Derived.Test.YtbhndnjlplibmaaDoorRf3
import Derived.Test.YtbhndnjlplibmaaDoorIt7
namespace Go.Proofs.YtbhndnjlplibmaaDoor.mt
open Go.RowKit

def RAgesPost (w : World) (its : List ItemM) (period : Int) (bs : List Int) (e : Ending) (w' : World) : Prop :=
  Below w.heap.size w w' ∧ ∃ ao cap, e = .returned (.tuple #[.slice ao (agesA its period bs).length cap, .int .i64 (agesC its period bs)]) ∧ IntsAt w' ao (agesA its period bs)
theorem rages_bad {w w' : World} {its : List ItemM} {period : Int} {bs : List Int} {c : Int} (hc : agesC its period bs = c) (h0 : c ≠ 0) (hb : Below w.heap.size w w') : RAgesPost w its period bs (.returned (.tuple #[.slice none 0 0, .int .i64 c])) w' := by
  have e : agesA its period bs = [] := by unfold agesA; rw [if_neg (by rw [hc]; exact h0)]
  refine ⟨hb, none, 0, ?_, ?_⟩
  · rw [e, hc]; rfl
  · rw [e]; exact Or.inl rfl
theorem rages_ok {w w' : World} {its : List ItemM} {period : Int} {bs : List Int} {Bo : Nat} (hc : agesC its period bs = 0) (hb : Below w.heap.size w w') (hh : w'.heap[Bo]? = some (lObj (agesN (openF its) period bs (openF its).length))) :
    RAgesPost w its period bs (.returned (.tuple #[.slice (some ⟨Bo, 0, none⟩) (bs.length + 1) (bs.length + 1), .int .i64 0])) w' := by
  have e : agesA its period bs = agesN (openF its) period bs (openF its).length := by unfold agesA; rw [if_pos hc]
  refine ⟨hb, some ⟨Bo, 0, none⟩, bs.length + 1, ?_, ?_⟩
  · rw [e, hc, agesN_len]
  · rw [e]
    refine Or.inr ⟨Bo, 0, rfl, fun i hi => ?_⟩
    rw [Nat.zero_add, cell_of_heap hh, intsA_at _ hi]

set_option maxRecDepth 100000 in
set_option maxHeartbeats 8000000 in
theorem rages_any (ao : Option Addr) (cap : Nat) (its : List ItemM) (period : Int) (bao : Option Addr) (bcap : Nat) (bs : List Int) (w : World) (hh : ItemsAt w.heap.size w ao its) (hm : its.length ≤ 9223372036854775807) (hz : IntsAt w bao bs) (hbm : bs.length ≤ 9223372036854775807) :
    Calls Tryd.prog 25 #[.slice ao its.length cap, .int .i64 period, .slice bao bs.length bcap] w (RAgesPost w its period bs) := by
  obtain ⟨c, hcc⟩ : ∃ c, itemsF its = c := ⟨_, rfl⟩
  have hic := ritems_r c ao cap its w hh hm hcc
  have HH := Lib.hid hh
  have HZ := Lib.hid hz
  clear hh hz
  by_cases h0 : c = 0
  · subst h0
    have hper := rper_any period
    have HCC := Lib.hid hcc
    clear hcc
    by_cases hp : perB period = true
    · obtain ⟨p1, p2⟩ := perB_iff.1 hp
      by_cases hl : 20 < bs.length
      · have HC : Hid (agesC its period bs = 4) := by show _ = _; unfold agesC; rw [if_neg (by rw [HCC.out]; simp), if_neg (by rw [hp]; simp), if_pos hl]
        have hd : decide ((20 : Int) < (bs.length : Int)) = true := decide_eq_true (by omega)
        rw [hp] at hper
        clear hp hl
        go_enter Tryd.func25, Tryd.ntmps25
        go_wp2_with fail
        refine hic.mono ?_
        rintro e w1 ⟨rfl, hb1⟩
        have HOUT := Lib.hid (rages_bad HC.out (by decide) hb1)
        clear hic hb1
        go_wp2_with (go_at_call 52; refine (hper _).mono ?_; rintro e w' ⟨rfl, rfl⟩)
        go_ret2
        exact HOUT.out
      · have hd : decide ((20 : Int) < (bs.length : Int)) = false := decide_eq_false (by omega)
        have hC1 : Hid (agesC its period bs = if bndFrom bs bs 0 ≠ 0 then bndFrom bs bs 0 else if 0 < its.length ∧ period < lastPer its then 7 else 0) := by
          show _ = _; unfold agesC; rw [if_neg (by rw [HCC.out]; simp), if_neg (by rw [hp]; simp), if_neg hl]
        rw [hp] at hper
        clear hp
        go_enter Tryd.func25, Tryd.ntmps25
        go_wp2_with fail
        refine hic.mono ?_
        rintro e w1 ⟨rfl, hb1⟩
        have HB1 := Lib.hid hb1
        have hln := openF_len_le its
        have hN200 := (itemsF_zero HCC.out).1
        clear hic hb1
        go_wp2_with (go_at_call 52; refine (hper _).mono ?_; rintro e w' ⟨rfl, rfl⟩)
        clear hper
        go_loopw [10] (fun i wr => ∃ k : Nat, k ≤ bs.length ∧ i = .int .i64 (k : Int) ∧ Hid (bndFrom bs bs 0 = bndFrom bs (bs.drop k) k) ∧ Hid (Below w.heap.size w wr)) (fun i _ => bs.length - (intOf i).toNat)
        case atStart => exact ⟨0, Nat.zero_le _, rfl, rfl, HB1⟩
        case round =>
          clear HB1
          obtain ⟨k, hk, rfl, hi, HB1⟩ := hrel
          have HN := fun n => Lib.hid (show Below w.heap.size w (wr.drewN n) from below_drewN HB1.out n)
          by_cases hlt : k < bs.length
          · have hzz := ints_later HZ.out HB1.out
            obtain ⟨b2, o2, rfl, hc2⟩ := hzz.resolve_left (fun e => by rw [e] at hlt; simp at hlt)
            have c0 := hc2 k hlt
            have hd2 := Lib.hid (bnd_drop bs hlt)
            have hkI : (k : Int) < (bs.length : Int) := by omega
            have hk0 : (0 : Int) ≤ (k : Int) := by omega
            by_cases hneg : bs.getD k 0 < 0
            · have HC : Hid (agesC its period bs = 5) := by
                show _ = _; rw [hC1.out, hi.out, hd2.out, if_pos (Or.inl hneg), if_pos (by decide)]
              have HOUT := fun n => Lib.hid (rages_bad HC.out (by decide) (HN n).out)
              have q1 : decide (bs.getD k 0 < 0) = true := decide_eq_true hneg
              clear hc2 hneg hi hd2 hzz
              generalize bs.getD k 0 = bk at *
              go_wp2_with fail
              go_quiet (fail)
              go_wp2_with fail
              go_ret2
              exact (HOUT _).out
            · have q1 : decide (bs.getD k 0 < 0) = false := decide_eq_false hneg
              by_cases hk00 : k = 0
              · have dk : decide ((0 : Int) < (k : Int)) = false := decide_eq_false (by omega)
                have dkn : decide (0 < k) = false := decide_eq_false (by omega)
                have hn : Hid (bndFrom bs bs 0 = bndFrom bs (bs.drop (k + 1)) (k + 1)) := by
                  show _ = _; rw [hi.out, hd2.out, if_neg (by rintro (h | h); exact hneg h; omega)]
                clear hc2 hneg hi hd2 hk00 hzz
                generalize bs.getD k 0 = bk at *
                go_wp2_with fail
                go_quiet (fail)
                go_wp2_with fail
                go_roundw
                case rel => exact ⟨k + 1, by omega, by go_num, hn, HN _⟩
                case measure => simp [intOf]; omega
              · obtain ⟨m, hm2⟩ : ∃ m, k = m + 1 := ⟨k - 1, by omega⟩
                have c1 := hc2 m (by omega)
                have hpm : bs.getD (k - 1) 0 = bs.getD m 0 := by rw [show k - 1 = m by omega]
                have dk : decide ((0 : Int) < (k : Int)) = true := decide_eq_true (by omega)
                have dkn : decide (0 < k) = true := decide_eq_true (by omega)
                have hw1 : IntKind.i64.wrap ((k : Int) - 1) = (m : Int) := by rw [show (k : Int) - 1 = (m : Int) by omega]; exact IntWalk.i64_in _ (by omega)
                have hw2 : (k : Int) - 1 = (m : Int) := by omega
                have j0 : (0 : Int) ≤ (m : Int) := by omega
                have j1 : (m : Int) < (bs.length : Int) := by omega
                by_cases hge : bs.getD k 0 ≤ bs.getD m 0
                · have HC : Hid (agesC its period bs = 5) := by
                    show _ = _; rw [hC1.out, hi.out, hd2.out, hpm, if_pos (Or.inr ⟨by omega, hge⟩), if_pos (by decide)]
                  have HOUT := fun n => Lib.hid (rages_bad HC.out (by decide) (HN n).out)
                  have q2 : decide (bs.getD k 0 ≤ bs.getD m 0) = true := decide_eq_true hge
                  clear hc2 hneg hi hd2 hk00 hge hzz hpm hm2
                  generalize bs.getD m 0 = bp at *
                  generalize bs.getD k 0 = bk at *
                  go_wp2_with fail
                  go_quiet (fail)
                  clear hw1 hw2 j0 j1
                  go_wp2_with fail
                  go_ret2
                  exact (HOUT _).out
                · have hn : Hid (bndFrom bs bs 0 = bndFrom bs (bs.drop (k + 1)) (k + 1)) := by
                    show _ = _; rw [hi.out, hd2.out, hpm, if_neg (by rintro (h | h); exact hneg h; exact hge h.2)]
                  have q2 : decide (bs.getD k 0 ≤ bs.getD m 0) = false := decide_eq_false hge
                  clear hc2 hneg hi hd2 hk00 hge hzz hpm hm2
                  generalize bs.getD m 0 = bp at *
                  generalize bs.getD k 0 = bk at *
                  go_wp2_with fail
                  go_quiet (fail)
                  clear hw1 hw2 j0 j1
                  go_wp2_with fail
                  go_roundw
                  case rel => exact ⟨k + 1, by omega, by go_num, hn, HN _⟩
                  case measure => simp [intOf]; omega
          · obtain rfl : k = bs.length := by omega
            have hbz : Hid (bndFrom bs bs 0 = 0) := by show _ = _; rw [hi.out, List.drop_length]; rfl
            have hC2 : Hid (agesC its period bs = if 0 < its.length ∧ period < lastPer its then 7 else 0) := by
              show _ = _
              rw [hC1.out, if_neg (by rw [hbz.out]; simp)]
            have HH1 := Lib.hid (HH.out.later HB1.out HB1.out.size)
            have HZ1 := Lib.hid (ints_later HZ.out HB1.out)
            clear hi hC1 hlt HN
            go_wp2_with fail
            go_loop [11] (fun i => ∃ k : Nat, k ≤ its.length ∧ i = .int .i64 (k : Int) ∧ Hid (0 < k → (its.getD (k - 1) default).per ≤ period)) (fun i => its.length - (intOf i).toNat)
            case atStart => exact ⟨0, Nat.zero_le _, rfl, fun h => absurd h (by omega)⟩
            case round =>
              obtain ⟨k, hk, rfl, hi⟩ := hrel
              by_cases hlt : k < its.length
              · obtain ⟨x, hx⟩ := getElem?_ex hlt
                obtain ⟨b, off, rfl, hb, hcc⟩ := HH1.out.resolve_left (fun e => by rw [e] at hlt; simp at hlt)
                obtain ⟨_, c1, _⟩ := hcc k x hx
                have hkI : (k : Int) < (its.length : Int) := by omega
                have hk0 : (0 : Int) ≤ (k : Int) := by omega
                have hxl := per_last HCC.out hx
                by_cases hlate : period < x.per
                · have HC : Hid (agesC its period bs = 7) := by show _ = _; rw [hC2.out, if_pos ⟨by omega, by omega⟩]
                  have HOUT := Lib.hid (rages_bad HC.out (by decide) HB1.out)
                  have q1 : decide (period < x.per) = true := decide_eq_true hlate
                  clear hcc hi hx hxl hlate
                  generalize x.per = xp at *
                  go_wp2_with fail
                  go_ret2
                  exact HOUT.out
                · have q1 : decide (period < x.per) = false := decide_eq_false hlate
                  have hn : Hid (0 < k + 1 → (its.getD (k + 1 - 1) default).per ≤ period) := fun _ => by
                    rw [show k + 1 - 1 = k by omega, show its.getD k default = x by simp [hx]]
                    omega
                  clear hcc hi hx hxl hlate
                  generalize x.per = xp at *
                  go_wp2_with fail
                  go_round
                  case rel => exact ⟨k + 1, by omega, by go_num, hn⟩
                  case measure => simp [intOf]; omega
              · obtain rfl : k = its.length := by omega
                have HC : Hid (agesC its period bs = 0) := by
                  show _ = _
                  rw [hC2.out, if_neg]
                  rintro ⟨h1, h2⟩
                  have := hi.out h1
                  unfold lastPer at h2
                  omega
                have hfc := rfifo_any ao cap its wr HH1.out HCC.out
                clear hi hC2 hlt
                go_wp2_with fail
                refine hfc.mono ?_
                intro e w1 hq
                obtain ⟨hb2, sv, ov, rfl, _, ho1⟩ := hq
                obtain ⟨oa, oc, rfl, hoi, _⟩ := row_items ho1
                have OI := Lib.hid hoi
                have HB2 := Lib.hid (HB1.out.trans (hb2.mono HB1.out.size))
                have HZ2 := Lib.hid (ints_later HZ1.out hb2)
                have hmk : ∀ W : World, (Instr.makeSlice 28 (.int .i64 ((bs.length : Int) + 1)) (.int .i64 ((bs.length : Int) + 1))).run Tryd.prog W = .ok (.slice (some ⟨W.heap.size, 0, none⟩) (bs.length + 1) (bs.length + 1)) (W.alloc (lObj (List.replicate (bs.length + 1) 0))) :=
                  fun W => make_ints (bs.length + 1) (by omega) W
                obtain ⟨Bo, hBo⟩ : ∃ Bo, Bo = w1.heap.size := ⟨_, rfl⟩
                have F0 : Hid (Fr w1 [(Bo, lObj (agesN (openF its) period bs 0))] (w1.alloc (lObj (List.replicate (bs.length + 1) 0)))) := by
                  rw [hBo]; exact (Fr.newAt (Fr.nil w1) rfl _)
                have HBO := Lib.hid hBo
                clear hfc hb2 ho1 hoi hBo HB1 HH1 HZ1
                go_wp2_with fail
                rw [← HBO.out]
                go_loopw [15] (fun i wr => ∃ k : Nat, k ≤ (openF its).length ∧ i = .int .i64 (k : Int) ∧ Hid (Fr w1 [(Bo, lObj (agesN (openF its) period bs k))] wr)) (fun i _ => (openF its).length - (intOf i).toNat)
                case atStart => exact ⟨0, Nat.zero_le _, rfl, F0⟩
                case round =>
                  clear F0 hmk
                  obtain ⟨k, hk, rfl, hF⟩ := hrel
                  by_cases hlt : k < (openF its).length
                  · obtain ⟨x, hx⟩ := getElem?_ex hlt
                    obtain ⟨b3, o3, rfl, hb3, hc3⟩ := OI.out.resolve_left (fun e => by rw [e] at hlt; simp at hlt)
                    obtain ⟨_, x1', x2'⟩ := hc3 k x hx
                    have x1 := (hF.out.old hb3 _).trans x1'
                    have x2 := (hF.out.old hb3 _).trans x2'
                    obtain ⟨_, g2, _, g4⟩ := open_good HCC.out x (List.mem_of_getElem? hx)
                    obtain ⟨g5, g6⟩ := perB_iff.1 g2
                    obtain ⟨g7, g8⟩ := amtB_iff.1 g4
                    have hstep : Hid (agesN (openF its) period bs (k + 1) = (agesN (openF its) period bs k).set (ageK (period - x.per) bs) ((agesN (openF its) period bs k).getD (ageK (period - x.per) bs) 0 + x.amt)) := by
                      have hg : (openF its).getD k default = x := by simp [hx]
                      show _ = _
                      rw [agesN, hg]
                    have hbnd := agesN_bound (o := openF its) period bs (fun y hy => (open_good HCC.out y hy).2.2.2) k (ageK (period - x.per) bs) (by omega)
                    have hal := agesN_len (openF its) period bs k
                    have hkl := ageK_le (period - x.per) bs
                    have hkI : (k : Int) < ((openF its).length : Int) := by omega
                    have hk0 : (0 : Int) ≤ (k : Int) := by omega
                    have hbo := (hF.out.has _ (List.mem_cons_self ..)).1
                    have y0 := cell_of_heap (hF.out.has _ (List.mem_cons_self ..)).2 (ageK (period - x.per) bs)
                    rw [intsA_at _ (by omega)] at y0
                    have y1 := free_of_heap (hF.out.has _ (List.mem_cons_self ..)).2 (ageK (period - x.per) bs)
                    have hset := fun n v => Fr.set (bs := []) (Fr.later hF.out (wj := wr.drewN n) (below_drewN (Below.refl _ _) n)) (fun p hp => by cases hp) (ageK (period - x.per) bs) v
                    obtain ⟨D, hD⟩ : ∃ D, D = period - x.per := ⟨_, rfl⟩
                    rw [← hD] at hstep hbnd hkl y0 y1 hset
                    have S4 : ∀ n, Hid (Fr w1 [(Bo, lObj (agesN (openF its) period bs (k + 1)))] ((wr.drewN n).setCell ⟨Bo, ageK D bs, none⟩ (.int .i64 ((agesN (openF its) period bs k).getD (ageK D bs) 0 + x.amt)))) := fun n => by
                      show Fr _ _ _
                      rw [hstep.out]
                      have h := hset n (.int .i64 ((agesN (openF its) period bs k).getD (ageK D bs) 0 + x.amt))
                      rw [intsA_set] at h
                      exact h
                    have hbne : ¬ b3 = Bo := by omega
                    have hage := Lib.hid (age_eq D hbz.out)
                    clear hc3 x1' x2' hx g2 g4 hstep hset hbo hal
                    generalize (agesN (openF its) period bs k).getD (ageK D bs) 0 = old at *
                    have hkb : (-200000000000000000 : Int) ≤ old ∧ old ≤ 200000000000000000 := by omega
                    obtain ⟨ob1, ob2⟩ := hkb
                    obtain ⟨xr, xp, xa⟩ := x
                    dsimp only at *
                    have hw1 : IntKind.i64.wrap (period - xp) = D := by rw [← hD]; exact IntWalk.i64_in _ (by omega)
                    have hw2 : period - xp = D := hD.symm
                    have HW1 := Lib.hid hw1
                    have HW2 := Lib.hid hw2
                    clear hD hw1 hw2 hbnd
                    go_wp2_with fail
                    go_loopw [16, 17] (fun q j wr2 => ∃ m n : Nat, m ≤ bs.length ∧ j = .int .i64 (m : Int) ∧ wr2 = wr.drewN n ∧ q = .int .i64 (ageJ D bs m : Int)) (fun _ j _ => bs.length - (intOf j).toNat)
                    case atStart => exact ⟨0, 0, Nat.zero_le _, rfl, rfl, rfl⟩
                    case round =>
                      obtain ⟨m, n, hm', rfl, rfl, rfl⟩ := hrel
                      by_cases hml : m < bs.length
                      · obtain ⟨b2, o2, rfl, hc2⟩ := HZ2.out.resolve_left (fun e => by rw [e] at hml; simp at hml)
                        have cz1 := hc2 m hml
                        have hb21 : b2 < w1.heap.size := by
                          rcases Nat.lt_or_ge b2 w1.heap.size with h | h
                          · exact h
                          · simp [World.cell?, Array.getElem?_eq_none h] at cz1
                        have cz := (hF.out.old hb21 _).trans cz1
                        have hmI : (m : Int) < (bs.length : Int) := by omega
                        have hm0 : (0 : Int) ≤ (m : Int) := by omega
                        have hw1 := HW1.out
                        have hw2 := HW2.out
                        have hj : Hid (ageJ D bs (m + 1) = if bs.getD m 0 ≤ D then m + 1 else ageJ D bs m) := rfl
                        by_cases hle : bs.getD m 0 ≤ D
                        · have q1 : decide (bs.getD m 0 ≤ D) = true := decide_eq_true hle
                          have hn : Hid (ageJ D bs (m + 1) = m + 1) := by show _ = _; rw [hj.out, if_pos hle]
                          clear hc2 cz1 hj hle x2 y0 y1 S4
                          generalize bs.getD m 0 = bm at *
                          go_wp2_with fail
                          go_quiet (fail)
                          clear hw1 hw2
                          go_wp2_with fail
                          go_roundw
                          case rel => exact ⟨m + 1, _, by omega, by go_num, rfl, by rw [hn.out]; go_num⟩
                          case measure => simp [intOf]; omega
                        · have q1 : decide (bs.getD m 0 ≤ D) = false := decide_eq_false hle
                          have hn : Hid (ageJ D bs (m + 1) = ageJ D bs m) := by show _ = _; rw [hj.out, if_neg hle]
                          clear hc2 cz1 hj hle x2 y0 y1 S4
                          generalize bs.getD m 0 = bm at *
                          go_wp2_with fail
                          go_quiet (fail)
                          clear hw1 hw2
                          go_wp2_with fail
                          go_roundw
                          case rel => exact ⟨m + 1, _, by omega, by go_num, rfl, by rw [hn.out]⟩
                          case measure => simp [intOf]; omega
                      · obtain rfl : m = bs.length := by omega
                        rw [hage.out]
                        clear hage hml x1
                        generalize ageK D bs = q at *
                        have hq0 : (0 : Int) ≤ (q : Int) := by omega
                        have hq1 : (q : Int) < (bs.length : Int) + 1 := by omega
                        go_wp2_with fail
                        go_region
                        go_wp2_with fail
                        go_roundw
                        case rel => exact ⟨k + 1, by omega, by go_num, S4 _⟩
                        case measure => simp [intOf]; omega
                  · obtain rfl : k = (openF its).length := by omega
                    have HOUT : Hid (RAgesPost w its period bs (.returned (.tuple #[.slice (some ⟨Bo, 0, none⟩) (bs.length + 1) (bs.length + 1), .int .i64 0])) wr) := rages_ok HC.out (HB2.out.trans (hF.out.below.mono HB2.out.size)) (hF.out.has _ (List.mem_cons_self ..)).2
                    clear hF hlt
                    go_wp2_with fail
                    go_ret2
                    exact HOUT.out
    · have hpf : perB period = false := bool_not hp
      have HC : Hid (agesC its period bs = 1) := by show _ = _; unfold agesC; rw [if_neg (by rw [HCC.out]; simp), if_pos hpf]
      rw [hpf] at hper
      clear hp hpf
      go_enter Tryd.func25, Tryd.ntmps25
      go_wp2_with fail
      refine hic.mono ?_
      rintro e w1 ⟨rfl, hb1⟩
      have HOUT := Lib.hid (rages_bad HC.out (by decide) hb1)
      clear hic hb1
      go_wp2_with (go_at_call 52; refine (hper _).mono ?_; rintro e w' ⟨rfl, rfl⟩)
      go_ret2
      exact HOUT.out
  · have HC : Hid (agesC its period bs = c) := by show _ = _; unfold agesC; rw [if_pos (by rw [hcc]; exact h0), hcc]
    have q0 : (c != 0) = true := by simp [h0]
    have H0 := Lib.hid h0
    clear hcc h0
    go_enter Tryd.func25, Tryd.ntmps25
    go_wp2_with fail
    refine hic.mono ?_
    rintro e w1 ⟨rfl, hb1⟩
    have HOUT := Lib.hid (rages_bad HC.out H0.out hb1)
    clear hic hb1
    go_wp2_with fail
    go_ret2
    exact HOUT.out
end Go.Proofs.YtbhndnjlplibmaaDoor.mt
