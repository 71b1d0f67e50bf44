/- match.Ages at any items, period and bounds: how old is what is open. -/
import Derived.Test.YtbhndnjlplibmaaDoorIt6
import Derived.Test.YtbhndnjlplibmaaDoorInts
namespace Go.Proofs.YtbhndnjlplibmaaDoor.mt
open Go.RowKit

theorem ints_later {w w' : World} {ao : Option Addr} {zs : List Int} (h : IntsAt w ao zs) (hb : Below w.heap.size w w') : IntsAt w' ao zs := by
  rcases h with h | ⟨b, off, e, hc⟩
  · exact Or.inl h
  · refine Or.inr ⟨b, off, e, fun i hi => (hb.cell (p := ⟨b, off + i, none⟩) ?_).trans (hc i hi)⟩
    have h0 := hc i hi
    rcases Nat.lt_or_ge b w.heap.size with h1 | h1
    · exact h1
    · simp [World.cell?, Array.getElem?_eq_none h1] at h0
def AgesPost (w : World) (its : List ItemM) (period : Int) (bs : List Int) (e : Ending) (w' : World) : Prop :=
  Below w.heap.size w w' ∧ ∃ ao cap, e = .returned (.tuple #[.slice ao (agesA its period bs).length cap, errV (agesC its period bs)]) ∧ IntsAt w' ao (agesA its period bs)
theorem ages_bad {w w' : World} {its : List ItemM} {period : Int} {bs : List Int} {c : Int} (hc : agesC its period bs = c) (h0 : c ≠ 0) (hb : Below w.heap.size w w') : AgesPost w its period bs (.returned (.tuple #[.slice none 0 0, errV c])) w' := by
  have e : agesA its period bs = [] := by unfold agesA; rw [if_neg (by rw [hc]; exact h0)]
  refine ⟨hb, none, 0, ?_, ?_⟩
  · rw [e, hc]; rfl
  · rw [e]; exact Or.inl rfl
theorem ages_ok {w w' : World} {its : List ItemM} {period : Int} {bs : List Int} {Bo : Nat} (hc : agesC its period bs = 0) (hb : Below w.heap.size w w') (hh : w'.heap[Bo]? = some (lObj (agesN (openF its) period bs (openF its).length))) :
    AgesPost w its period bs (.returned (.tuple #[.slice (some ⟨Bo, 0, none⟩) (bs.length + 1) (bs.length + 1), .nilIface])) w' := by
  have e : agesA its period bs = agesN (openF its) period bs (openF its).length := by unfold agesA; rw [if_pos hc]
  refine ⟨hb, some ⟨Bo, 0, none⟩, bs.length + 1, ?_, ?_⟩
  · rw [e, hc, agesN_len]; rfl
  · rw [e]
    refine Or.inr ⟨Bo, 0, rfl, fun i hi => ?_⟩
    rw [Nat.zero_add, cell_of_heap hh, intsA_at _ hi]

set_option maxRecDepth 100000 in
set_option maxHeartbeats 8000000 in
theorem ages_any (hf : FifoAll) (ao : Option Addr) (cap : Nat) (its : List ItemM) (period : Int) (bao : Option Addr) (bcap : Nat) (bs : List Int) (w : World) (hh : ItemsAt w.heap.size w ao its) (hm : its.length ≤ 9223372036854775807) (hz : IntsAt w bao bs) (hbm : bs.length ≤ 9223372036854775807) :
    Calls Tryd.prog 21 #[.slice ao its.length cap, .int .i64 period, .slice bao bs.length bcap] w (AgesPost w its period bs) := by
  obtain ⟨c, hcc⟩ : ∃ c, itemsF its = c := ⟨_, rfl⟩
  have hfc := hf ao cap its w hh hm
  have HH := Lib.hid hh
  have HZ := Lib.hid hz
  clear hh hz
  by_cases h0 : c = 0
  · subst h0
    have hper := period_any period
    have HCC := Lib.hid hcc
    have hopen : Hid (openA its = openF its) := by show _ = _; unfold openA; rw [if_pos hcc]
    clear hcc
    by_cases hp : perB period = true
    · obtain ⟨p1, p2⟩ := perB_iff.1 hp
      by_cases hl : 20 < bs.length
      · have HC : Hid (agesC its period bs = 4) := by show _ = _; unfold agesC; rw [if_neg (by rw [HCC.out]; simp), if_neg (by rw [hp]; simp), if_pos hl]
        have hd : decide ((20 : Int) < (bs.length : Int)) = true := decide_eq_true (by omega)
        rw [hp] at hper
        clear hp hl
        go_enter Tryd.func21, Tryd.ntmps21
        go_wp2_with fail
        refine hfc.mono ?_
        intro e w1 hq
        obtain ⟨hb1, sv, ov, rfl, _, _⟩ := hq
        rw [HCC.out, errV_zero]
        have HOUT := Lib.hid (ages_bad HC.out (by decide) hb1)
        clear hfc hb1
        go_wp2_with (go_at_call 51; refine (hper _).mono ?_; rintro e w' ⟨rfl, rfl⟩)
        go_ret2
        exact HOUT.out
      · have hd : decide ((20 : Int) < (bs.length : Int)) = false := decide_eq_false (by omega)
        have hC1 : Hid (agesC its period bs = if bndFrom bs bs 0 ≠ 0 then bndFrom bs bs 0 else if 0 < its.length ∧ period < lastPer its then 7 else 0) := by
          show _ = _; unfold agesC; rw [if_neg (by rw [HCC.out]; simp), if_neg (by rw [hp]; simp), if_neg hl]
        rw [hp] at hper
        clear hp
        go_enter Tryd.func21, Tryd.ntmps21
        go_wp2_with fail
        refine hfc.mono ?_
        intro e w1 hq
        obtain ⟨hb1, sv, ov, rfl, _, ho1⟩ := hq
        rw [hopen.out] at ho1
        obtain ⟨oa, oc, rfl, hoi, _⟩ := row_items ho1
        rw [HCC.out, errV_zero]
        have OI := Lib.hid hoi
        have HB1 := Lib.hid hb1
        have HZ1 := Lib.hid (ints_later HZ.out hb1)
        have HH1 := Lib.hid (HH.out.later hb1 hb1.size)
        have hln := openF_len_le its
        have hN200 := (itemsF_zero HCC.out).1
        clear hfc hb1 ho1 hoi HZ
        go_wp2_with (go_at_call 51; refine (hper _).mono ?_; rintro e w' ⟨rfl, rfl⟩)
        clear hper
        go_loop [39] (fun i => ∃ k : Nat, k ≤ bs.length ∧ i = .int .i64 (k : Int) ∧ Hid (bndFrom bs bs 0 = bndFrom bs (bs.drop k) k)) (fun i => bs.length - (intOf i).toNat)
        case atStart => exact ⟨0, Nat.zero_le _, rfl, rfl⟩
        case round =>
          obtain ⟨k, hk, rfl, hi⟩ := hrel
          by_cases hlt : k < bs.length
          · obtain ⟨b2, o2, rfl, hc2⟩ := HZ1.out.resolve_left (fun e => by rw [e] at hlt; simp at hlt)
            have c0 := hc2 k hlt
            have hd2 := Lib.hid (bnd_drop bs hlt)
            have hkI : (k : Int) < (bs.length : Int) := by omega
            have hk0 : (0 : Int) ≤ (k : Int) := by omega
            by_cases hneg : bs.getD k 0 < 0
            · have HC : Hid (agesC its period bs = 5) := by
                show _ = _; rw [hC1.out, hi.out, hd2.out, if_pos (Or.inl hneg), if_pos (by decide)]
              have HOUT := Lib.hid (ages_bad HC.out (by decide) HB1.out)
              have q1 : decide (bs.getD k 0 < 0) = true := decide_eq_true hneg
              clear hc2 hneg hi hd2
              generalize bs.getD k 0 = bk at *
              go_wp2_with fail
              go_ret2
              exact HOUT.out
            · have q1 : decide (bs.getD k 0 < 0) = false := decide_eq_false hneg
              by_cases hk00 : k = 0
              · have dk : decide ((0 : Int) < (k : Int)) = false := decide_eq_false (by omega)
                have dkn : decide (0 < k) = false := decide_eq_false (by omega)
                have hn : Hid (bndFrom bs bs 0 = bndFrom bs (bs.drop (k + 1)) (k + 1)) := by
                  show _ = _; rw [hi.out, hd2.out, if_neg (by rintro (h | h); exact hneg h; omega)]
                clear hc2 hneg hi hd2 hk00
                generalize bs.getD k 0 = bk at *
                go_wp2_with fail
                go_round
                case rel => exact ⟨k + 1, by omega, by go_num, hn⟩
                case measure => simp [intOf]; omega
              · have c1 := hc2 (k - 1) (by omega)
                have dk : decide ((0 : Int) < (k : Int)) = true := decide_eq_true (by omega)
                have dkn : decide (0 < k) = true := decide_eq_true (by omega)
                have hk1 : 1 ≤ k := by omega
                by_cases hge : bs.getD k 0 ≤ bs.getD (k - 1) 0
                · have HC : Hid (agesC its period bs = 5) := by
                    show _ = _; rw [hC1.out, hi.out, hd2.out, if_pos (Or.inr ⟨by omega, hge⟩), if_pos (by decide)]
                  have HOUT := Lib.hid (ages_bad HC.out (by decide) HB1.out)
                  have q2 : decide (bs.getD k 0 ≤ bs.getD (k - 1) 0) = true := decide_eq_true hge
                  clear hc2 hneg hi hd2 hk00 hge
                  generalize bs.getD (k - 1) 0 = bp at *
                  generalize bs.getD k 0 = bk at *
                  go_wp2_with fail
                  go_ret2
                  exact HOUT.out
                · have hn : Hid (bndFrom bs bs 0 = bndFrom bs (bs.drop (k + 1)) (k + 1)) := by
                    show _ = _; rw [hi.out, hd2.out, if_neg (by rintro (h | h); exact hneg h; exact hge h.2)]
                  have q2 : decide (bs.getD k 0 ≤ bs.getD (k - 1) 0) = false := decide_eq_false hge
                  clear hc2 hneg hi hd2 hk00 hge
                  generalize bs.getD (k - 1) 0 = bp at *
                  generalize bs.getD k 0 = bk at *
                  go_wp2_with fail
                  go_round
                  case rel => exact ⟨k + 1, by omega, by go_num, hn⟩
                  case measure => simp [intOf]; omega
          · obtain rfl : k = bs.length := by omega
            have hC2 : Hid (agesC its period bs = if 0 < its.length ∧ period < lastPer its then 7 else 0) := by
              show _ = _
              have : bndFrom bs bs 0 = 0 := by rw [hi.out, List.drop_length]; rfl
              rw [hC1.out, if_neg (by rw [this]; simp)]
            clear hi hC1 hlt
            by_cases hlate : 0 < its.length ∧ period < lastPer its
            · have HC : Hid (agesC its period bs = 7) := by show _ = _; rw [hC2.out, if_pos hlate]
              have HOUT := Lib.hid (ages_bad HC.out (by decide) HB1.out)
              obtain ⟨hN, hlp⟩ := hlate
              obtain ⟨b, off, rfl, hb, hcc⟩ := HH1.out.resolve_left (fun e => by rw [e] at hN; simp at hN)
              obtain ⟨_, c1, _⟩ := hcc (its.length - 1) _ (getD_get (by omega))
              have c1' : w1.cell? ⟨b, off + (its.length - 1) * 3 + 1, none⟩ = some (.int .i64 (lastPer its)) := c1
              have q1 : decide (period < lastPer its) = true := decide_eq_true hlp
              have dN : decide ((0 : Int) < (its.length : Int)) = true := decide_eq_true (by omega)
              have dNn : decide (0 < its.length) = true := decide_eq_true hN
              have hN1 : 1 ≤ its.length := hN
              clear hcc c1 hlp hC2
              generalize lastPer its = lp at *
              go_wp2_with fail
              go_ret2
              exact HOUT.out
            · have HC : Hid (agesC its period bs = 0) := by show _ = _; rw [hC2.out, if_neg hlate]
              have hcase : (its.length = 0) ∨ (0 < its.length ∧ ¬ period < lastPer its) := by
                by_cases h : its.length = 0
                · exact Or.inl h
                · exact Or.inr ⟨by omega, fun h2 => hlate ⟨by omega, h2⟩⟩
              have hmk : ∀ W : World, (Instr.makeSlice 28 (.int .i64 ((bs.length : Int) + 1)) (.int .i64 ((bs.length : Int) + 1))).run Tryd.prog W = .ok (.slice (some ⟨W.heap.size, 0, none⟩) (bs.length + 1) (bs.length + 1)) (W.alloc (lObj (List.replicate (bs.length + 1) 0))) :=
                fun W => make_ints (bs.length + 1) (by omega) W
              obtain ⟨Bo, hBo⟩ : ∃ Bo, Bo = w1.heap.size := ⟨_, rfl⟩
              have F0 : Hid (Fr w1 [(Bo, lObj (agesN (openF its) period bs 0))] (w1.alloc (lObj (List.replicate (bs.length + 1) 0)))) := by
                rw [hBo]; exact (Fr.newAt (Fr.nil w1) rfl _)
              have HBO := Lib.hid hBo
              clear hlate hC2 hBo
              have hg : (decide ((0 : Int) < (its.length : Int)) = false ∧ decide (0 < its.length) = false) ∨ (∃ b off lp, ao = some ⟨b, off, none⟩ ∧ w1.cell? ⟨b, off + (its.length - 1) * 3 + 1, none⟩ = some (.int .i64 lp) ∧ decide (period < lp) = false ∧ decide ((0 : Int) < (its.length : Int)) = true ∧ decide (0 < its.length) = true ∧ 1 ≤ its.length) := by
                rcases hcase with hN | ⟨hN, hlp⟩
                · exact Or.inl ⟨decide_eq_false (by omega), decide_eq_false (by omega)⟩
                · obtain ⟨b, off, hao, hb, hcc⟩ := HH1.out.resolve_left (fun e => by rw [e] at hN; simp at hN)
                  obtain ⟨_, c1, _⟩ := hcc (its.length - 1) _ (getD_get (by omega))
                  exact Or.inr ⟨b, off, lastPer its, hao, c1, decide_eq_false hlp, decide_eq_true (by omega), decide_eq_true hN, hN⟩
              clear hcase
              rcases hg with ⟨dN, dNn⟩ | ⟨b, off, lp, rfl, c1', q1, dN, dNn, hN1⟩
              all_goals
                go_wp2_with fail
                try clear c1' q1
                clear dN dNn
                rw [← HBO.out]
                go_loopw [82] (fun i wr => ∃ k : Nat, k ≤ (openF its).length ∧ i = .int .i64 (k : Int) ∧ Hid (Fr w1 [(Bo, lObj (agesN (openF its) period bs k))] wr)) (fun i _ => (openF its).length - (intOf i).toNat)
                case atStart => exact ⟨0, Nat.zero_le _, rfl, F0⟩
                case round =>
                  clear F0 hmk
                  obtain ⟨k, hk, rfl, hF⟩ := hrel
                  by_cases hlt : k < (openF its).length
                  · obtain ⟨x, hx⟩ := getElem?_ex hlt
                    obtain ⟨b3, o3, rfl, hb3, hc3⟩ := OI.out.resolve_left (fun e => by rw [e] at hlt; simp at hlt)
                    obtain ⟨x0', x1', x2'⟩ := hc3 k x hx
                    have x0 := (hF.out.old hb3 _).trans x0'
                    have x1 := (hF.out.old hb3 _).trans x1'
                    have x2 := (hF.out.old hb3 _).trans x2'
                    obtain ⟨_, g2, _, g4⟩ := open_good HCC.out x (List.mem_of_getElem? hx)
                    obtain ⟨g5, g6⟩ := perB_iff.1 g2
                    obtain ⟨g7, g8⟩ := amtB_iff.1 g4
                    have hstep : Hid (agesN (openF its) period bs (k + 1) = (agesN (openF its) period bs k).set (ageK (period - x.per) bs) ((agesN (openF its) period bs k).getD (ageK (period - x.per) bs) 0 + x.amt)) := by
                      have hg : (openF its).getD k default = x := by simp [hx]
                      show _ = _
                      rw [agesN, hg]
                    have hbnd := agesN_bound (o := openF its) period bs (fun y hy => (open_good HCC.out y hy).2.2.2) k (ageK (period - x.per) bs) (by omega)
                    have hal := agesN_len (openF its) period bs k
                    have hkl := ageK_le (period - x.per) bs
                    have hkI : (k : Int) < ((openF its).length : Int) := by omega
                    have hk0 : (0 : Int) ≤ (k : Int) := by omega
                    have hbo := (hF.out.has _ (List.mem_cons_self ..)).1
                    have hbo2 := hF.out.lt (List.mem_cons_self ..)
                    have y0 := cell_of_heap (hF.out.has _ (List.mem_cons_self ..)).2 (ageK (period - x.per) bs)
                    rw [intsA_at _ (by omega)] at y0
                    have y1 := free_of_heap (hF.out.has _ (List.mem_cons_self ..)).2 (ageK (period - x.per) bs)
                    have hset := fun n v => Fr.set (bs := []) (Fr.later hF.out (wj := (wr.alloc (.cells #[.string x.ref, .int .i64 x.per, .int .i64 x.amt] 40)).drewN n) (below_drewN ((Below.refl _ _).alloc (Nat.le_refl _) _) n)) (fun p hp => by cases hp) (ageK (period - x.per) bs) v
                    obtain ⟨D, hD⟩ : ∃ D, D = period - x.per := ⟨_, rfl⟩
                    rw [← hD] at hstep hbnd hkl y0 y1 hset
                    have S4 : ∀ n, Hid (Fr w1 [(Bo, lObj (agesN (openF its) period bs (k + 1)))] (((wr.alloc (.cells #[.string x.ref, .int .i64 x.per, .int .i64 x.amt] 40)).drewN n).setCell ⟨Bo, ageK D bs, none⟩ (.int .i64 ((agesN (openF its) period bs k).getD (ageK D bs) 0 + x.amt)))) := fun n => by
                      show Fr _ _ _
                      rw [hstep.out]
                      have h := hset n (.int .i64 ((agesN (openF its) period bs k).getD (ageK D bs) 0 + x.amt))
                      rw [intsA_set] at h
                      exact h
                    have hbl2 : ¬ Bo = wr.heap.size := by omega
                    clear hc3 x0' x1' x2' hx g2 g4 hstep hset hbo hal
                    generalize (agesN (openF its) period bs k).getD (ageK D bs) 0 = old at *
                    have hkb : (-200000000000000000 : Int) ≤ old ∧ old ≤ 200000000000000000 := by omega
                    obtain ⟨ob1, ob2⟩ := hkb
                    obtain ⟨xr, xp, xa⟩ := x
                    dsimp only at *
                    have hw1 : IntKind.i64.wrap (period - xp) = D := by rw [← hD]; exact IntWalk.i64_in _ (by omega)
                    have hw2 : period - xp = D := hD.symm
                    have HW1 := Lib.hid hw1
                    have HW2 := Lib.hid hw2
                    clear hD hw1 hw2 hbnd
                    go_wp2_with fail
                    go_loopw [17] (fun j wr2 => ∃ m n : Nat, m ≤ bs.length ∧ j = .int .i64 (m : Int) ∧ wr2 = (wr.alloc (.cells #[.string xr, .int .i64 xp, .int .i64 xa] 40)).drewN n ∧ Hid (ageK D bs = m + ageK D (bs.drop m))) (fun j _ => bs.length - (intOf j).toNat)
                    case atStart => exact ⟨0, 0, Nat.zero_le _, rfl, rfl, by show _ = _; rw [Nat.zero_add]; rfl⟩
                    case round =>
                      obtain ⟨m, n, hm', rfl, rfl, hage⟩ := hrel
                      by_cases hml : m < bs.length
                      · obtain ⟨b2, o2, rfl, hc2⟩ := HZ1.out.resolve_left (fun e => by rw [e] at hml; simp at hml)
                        have cz1 := hc2 m hml
                        have hb21 : b2 < w1.heap.size := by
                          rcases Nat.lt_or_ge b2 w1.heap.size with h | h
                          · exact h
                          · simp [World.cell?, Array.getElem?_eq_none h] at cz1
                        have cz := (hF.out.old hb21 _).trans cz1
                        have hb2lt : b2 < wr.heap.size := Nat.lt_of_lt_of_le hb21 hF.out.below.size
                        have hb2ne : ¬ b2 = wr.heap.size := Nat.ne_of_lt hb2lt
                        have hst := Lib.hid (ageK_drop D bs hml)
                        have dm : decide ((m : Int) < (bs.length : Int)) = true := decide_eq_true (by omega)
                        have dmn : decide (m < bs.length) = true := decide_eq_true hml
                        have hmI : (m : Int) < (bs.length : Int) := by omega
                        have hm0 : (0 : Int) ≤ (m : Int) := by omega
                        have hw1 := HW1.out
                        have hw2 := HW2.out
                        by_cases hle : bs.getD m 0 ≤ D
                        · have q1 : decide (bs.getD m 0 ≤ D) = true := decide_eq_true hle
                          have hn : Hid (ageK D bs = (m + 1 : Nat) + ageK D (bs.drop (m + 1))) := by
                            show _ = _; rw [hage.out, hst.out, if_pos hle]; omega
                          clear hc2 cz1 hst hage hle x0 x1 x2 y0 y1 S4
                          generalize bs.getD m 0 = bm at *
                          go_wp2_with fail
                          go_quiet (fail)
                          clear hw1 hw2
                          go_wp2_with fail
                          go_roundw
                          case rel => exact ⟨m + 1, _, by omega, by go_num, rfl, hn⟩
                          case measure => simp [intOf]; omega
                        · have q1 : decide (bs.getD m 0 ≤ D) = false := decide_eq_false hle
                          have he : ageK D bs = m := by rw [hage.out, hst.out, if_neg hle]; rfl
                          rw [he] at S4 y0 y1
                          clear hc2 cz1 hst hage hle x0 x1 x2 he
                          generalize bs.getD m 0 = bm at *
                          go_wp2_with fail
                          go_quiet (fail)
                          clear hw1 hw2
                          go_wp2_with fail
                          go_region
                          go_wp2_with fail
                          go_roundw
                          case rel => exact ⟨k + 1, by omega, by go_num, S4 _⟩
                          case measure => simp [intOf]; omega
                      · have he : ageK D bs = m := by
                          rw [hage.out, List.drop_eq_nil_of_le (by omega)]; rfl
                        have dm : decide ((m : Int) < (bs.length : Int)) = false := decide_eq_false (by omega)
                        have dmn : decide (m < bs.length) = false := decide_eq_false hml
                        rw [he] at S4 y0 y1
                        have hm0 : (0 : Int) ≤ (m : Int) := by omega
                        have hm1 : (m : Int) < (bs.length : Int) + 1 := by omega
                        clear hage x0 x1 x2 he hml
                        go_wp2_with fail
                        go_quiet (fail)
                        go_wp2_with fail
                        go_region
                        go_wp2_with fail
                        go_roundw
                        case rel => exact ⟨k + 1, by omega, by go_num, S4 _⟩
                        case measure => simp [intOf]; omega
                  · obtain rfl : k = (openF its).length := by omega
                    have HOUT : Hid (AgesPost w its period bs (.returned (.tuple #[.slice (some ⟨Bo, 0, none⟩) (bs.length + 1) (bs.length + 1), .nilIface])) wr) := ages_ok HC.out (HB1.out.trans (hF.out.below.mono HB1.out.size)) (hF.out.has _ (List.mem_cons_self ..)).2
                    clear hF hlt
                    go_wp2_with fail
                    go_ret2
                    exact HOUT.out
    · have hpf : perB period = false := bool_not hp
      have HC : Hid (agesC its period bs = 1) := by show _ = _; unfold agesC; rw [if_neg (by rw [HCC.out]; simp), if_pos hpf]
      rw [hpf] at hper
      clear hp hpf
      go_enter Tryd.func21, Tryd.ntmps21
      go_wp2_with fail
      refine hfc.mono ?_
      intro e w1 hq
      obtain ⟨hb1, sv, ov, rfl, _, _⟩ := hq
      rw [HCC.out, errV_zero]
      have HOUT := Lib.hid (ages_bad HC.out (by decide) hb1)
      clear hfc hb1
      go_wp2_with (go_at_call 51; refine (hper _).mono ?_; rintro e w' ⟨rfl, rfl⟩)
      go_ret2
      exact HOUT.out
  · have herr : errV c = .iface 96 (.int .i64 c) := by rw [errV, if_neg h0]
    have HC : Hid (agesC its period bs = c) := by show _ = _; unfold agesC; rw [if_pos (by rw [hcc]; exact h0), hcc]
    have HCC := Lib.hid hcc
    have H0 := Lib.hid h0
    clear hcc h0
    go_enter Tryd.func21, Tryd.ntmps21
    go_wp2_with fail
    refine hfc.mono ?_
    intro e w1 hq
    obtain ⟨hb1, sv, ov, rfl, _, _⟩ := hq
    have HOUT := ages_bad HC.out H0.out hb1
    rw [HCC.out, herr]
    rw [herr] at HOUT
    have HO := Lib.hid HOUT
    clear hfc hb1 HOUT herr
    go_wp2_with fail
    go_ret2
    exact HO.out
end Go.Proofs.YtbhndnjlplibmaaDoor.mt
