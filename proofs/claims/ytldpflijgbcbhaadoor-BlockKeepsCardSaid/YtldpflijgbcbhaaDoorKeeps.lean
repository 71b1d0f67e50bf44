/- BlockKeeps: the walk of the law. -/
import Derived.Test.YtldpflijgbcbhaaDoorKeepsL
import Derived.Test.YtldpflijgbcbhaaDoorTorn
namespace Go.Proofs.YtldpflijgbcbhaaDoor.keeps
open Go.RowKit

theorem row_cap {w : World} {base g c n : Nat} {l : List UInt8} (h : w.ownsRow base 5 1 (.slice (some ⟨g, 0, none⟩) n c) n (l.map byteV)) : n ≤ c := by
  rcases h.2 with ⟨hv, _⟩ | ⟨g', c', cur, hv, _, _, hc', _⟩
  · cases hv
  · injection hv with _ _ hv; subst hv; exact hc'
theorem row_below {w w' : World} {base g c n : Nat} {l : List UInt8} (h : w.ownsRow base 5 1 (.slice (some ⟨g, 0, none⟩) n c) n (l.map byteV)) (hb : Below w.heap.size w w') : w'.ownsRow base 5 1 (.slice (some ⟨g, 0, none⟩) n c) n (l.map byteV) :=
  ownsRow_later h (fun k hk => by
    rcases h.2 with ⟨hv, _⟩ | ⟨g', c', cur, hv, _, hh, _⟩
    · cases hv
    · injection hv with hv _ _
      injection hv with hv
      injection hv with hv _ _
      simp only [Value.ownBlock, Option.some.injEq] at hk
      subst hk hv
      exact hb.block _ (lt_of_heap hh))
theorem steps_zero {B : Nat} {F : Nat → Prop} {w : World} {d : Nat} {M : DiskM} (h : DiskF B F w d M) (hs : M.steps = 0) (n : Nat) :
    Calls Tryd.prog 28 #[.pointer (some ⟨d, 0, none⟩)] (w.drewN n) fun e w' => e = .returned (.int .i64 0) ∧ w' = w.drewN n := by
  have hd : DiskF B F (w.drewN n) d M := h.later (below_drewN (Below.refl _ _) _)
  refine (stepsF B F _ d M hd).mono ?_
  rintro e w' ⟨rfl, rfl⟩
  exact ⟨by rw [hs]; rfl, rfl⟩

set_option maxRecDepth 100000 in
set_option maxHeartbeats 8000000 in
theorem walk (a b c : Int) (ao : Option Addr) (kcap : Nat) (keep : List Int) (tn : Int) (w : World) (hg : Door w) (hz : IntsAt w ao keep) (hkl : keep.length ≤ 9223372036854775807) :
    Calls Tryd.prog 6 #[.int .i64 a, .int .i64 b, .int .i64 c, .slice ao keep.length kcap, .int .i64 tn] w fun e w' => e = .returned (.bool true) ∧ Below w.heap.size w w' := by
  have hpos := hg.pos
  have hnew := newF 3 w (by omega) (by omega)
  have HG := Lib.hid hg
  have HZ := Lib.hid hz
  clear hg hz
  go_enter Tryd.func6, Tryd.ntmps6
  go_wp2_with fail
  refine hnew.mono ?_
  rintro e w1 ⟨rfl, hb1, hd1⟩
  have HB1 := Lib.hid hb1
  have HD1 := Lib.hid hd1
  have hbx := bytesOf_any a w1
  obtain ⟨x, hx⟩ : ∃ x, x = bytesOfL a := ⟨_, rfl⟩
  obtain ⟨y, hy⟩ : ∃ y, y = bytesOfL b := ⟨_, rfl⟩
  obtain ⟨z, hz⟩ : ∃ z, z = bytesOfL c := ⟨_, rfl⟩
  have lx : x.length ≤ 65 := by rw [hx, bytesOfL, bytesTo_len]; exact clamp65_le a
  have ly : y.length ≤ 65 := by rw [hy, bytesOfL, bytesTo_len]; exact clamp65_le b
  have lz : z.length ≤ 65 := by rw [hz, bytesOfL, bytesTo_len]; exact clamp65_le c
  rw [← hx] at hbx
  have HX := Lib.hid hx
  have HY := Lib.hid hy
  have HZZ := Lib.hid hz
  clear hnew hb1 hd1 hx hy hz
  go_wp2_with fail
  refine hbx.mono ?_
  rintro e w2 ⟨vx, rfl, rx, b2⟩
  have hby := bytesOf_any b w2
  rw [← HY.out] at hby
  have RX := Lib.hid rx
  have B2 := Lib.hid b2
  clear hbx rx b2
  go_wp2_with fail
  refine hby.mono ?_
  rintro e w3 ⟨vy, rfl, ry, b3⟩
  have hbz := bytesOf_any c w3
  rw [← HZZ.out] at hbz
  have RY := Lib.hid ry
  have B3 := Lib.hid b3
  clear hby ry b3
  go_wp2_with fail
  refine hbz.mono ?_
  rintro e w4 ⟨vz, rfl, rz, b4⟩
  have ks := KS.start HB1.out HD1.out RX.out B2.out RY.out B3.out rz b4
  generalize (fun k => w1.heap.size ≤ k ∧ k < w4.heap.size) = F at ks
  have c1 := writeF w.heap.size F 0 vx x w4 w.heap.size E0 ks.disk (by decide) (by decide) (by omega) ks.bx (fun _ b e => Or.inr (ks.hx b e))
  rw [wcode_free p0.1 (by omega) (by rw [p0.2.1]; omega)] at c1
  have K4 := Lib.hid ks
  obtain ⟨ex, hex⟩ : ∃ ex, ex = errV (ecd x.length) := ⟨_, rfl⟩
  obtain ⟨ey, hey⟩ : ∃ ey, ey = errV (ecd y.length) := ⟨_, rfl⟩
  obtain ⟨ez, hez⟩ : ∃ ez, ez = errV (ecd z.length) := ⟨_, rfl⟩
  rw [← hex] at c1
  have HEX := Lib.hid hex
  have HEY := Lib.hid hey
  have HEZ := Lib.hid hez
  clear hbz rz b4 RX RY B2 B3 HB1 HD1 ks hex hey hez
  go_wp2_with fail
  refine c1.mono ?_
  rintro e w5 ⟨rfl, s5, d5⟩
  have k5 := K4.out.step s5 d5
  have c2 := writeF w.heap.size F 1 vy y w5 w.heap.size (E1 x) k5.disk (by have := (p1 x).2.2.1; omega) (by have := (p1 x).2.2.2; omega) (by omega) k5.by_ (fun _ b e => Or.inr (k5.hy b e))
  rw [wcode_free (p1 x).1 (by omega) (by rw [(p1 x).2.1]; omega), ← HEY.out] at c2
  have K5 := Lib.hid k5
  clear c1 s5 d5 k5 K4
  go_wp2_with fail
  refine c2.mono ?_
  rintro e w6 ⟨rfl, s6, d6⟩
  have k6 := K5.out.step s6 d6
  have c3 := flushF w.heap.size F w6 w.heap.size (E2 x y) k6.disk (by have := (p2 x y).2.2.1; omega)
  rw [fcode_free (p2 x y).1, fl_free (p2 x y).1, errV_zero] at c3
  have K6 := Lib.hid k6
  clear c2 s6 d6 k6 K5
  go_wp2_with fail
  refine c3.mono ?_
  rintro e w7 ⟨rfl, s7, d7⟩
  have k7 := K6.out.step s7 d7
  have c4 := writeF w.heap.size F 1 vz z w7 w.heap.size (E3 x y) k7.disk (by have := (p3 x y).2.2.1; omega) (by have := (p3 x y).2.2.2; omega) (by omega) k7.bz (fun _ b e => Or.inr (k7.hz b e))
  rw [wcode_free (p3 x y).1 (by omega) (by rw [(p3 x y).2.1]; omega), ← HEZ.out] at c4
  have K7 := Lib.hid k7
  clear c3 s7 d7 k7 K6
  go_wp2_with fail
  refine c4.mono ?_
  rintro e w8 ⟨rfl, s8, d8⟩
  have k8 := K7.out.step s8 d8
  have c5 := writeF w.heap.size F 2 vx x w8 w.heap.size (E4 x y z) k8.disk (by have := (p4 x y z).2.2.1; omega) (by have := (p4 x y z).2.2.2; omega) (by omega) k8.bx (fun _ b e => Or.inr (k8.hx b e))
  rw [wcode_free (p4 x y z).1 (by omega) (by rw [(p4 x y z).2.1]; omega), ← HEX.out] at c5
  have K8 := Lib.hid k8
  clear c4 s8 d8 k8 K7
  go_wp2_with fail
  refine c5.mono ?_
  rintro e w9 ⟨rfl, s9, d9⟩
  have k9 := K8.out.step s9 d9
  have K9 : Hid (KS w F vx vy vz x y z (E5 x y z) w9) := k9
  obtain ⟨sx, ccx, rfl, -⟩ := k9.bx
  obtain ⟨sy, ccy, rfl, -⟩ := k9.by_
  obtain ⟨sz, ccz, rfl, -⟩ := k9.bz
  clear c5 s9 d9 k9 K8
  by_cases hall : x.length ≤ 64 ∧ y.length ≤ 64 ∧ z.length ≤ 64
  · obtain ⟨hx64, hy64, hz64⟩ := hall
    have e1 : decide ((64 : Int) < (x.length : Int)) = false := decide_eq_false (by omega)
    have e2 : decide ((64 : Int) < (y.length : Int)) = false := decide_eq_false (by omega)
    have e3 : decide ((64 : Int) < (z.length : Int)) = false := decide_eq_false (by omega)
    have f1 := HEX.out
    rw [errV_ecd_small hx64] at f1
    subst f1
    have f2 := HEY.out
    rw [errV_ecd_small hy64] at f2
    subst f2
    have f3 := HEZ.out
    rw [errV_ecd_small hz64] at f3
    subst f3
    have hz9 := HZ.out.laterN K9.out.below
    have hcr := crashF w.heap.size F ao kcap keep tn w9 w.heap.size (E5 x y z) K9.out.disk hz9 hkl (by have := (p5 x y z).2.2.2; omega)
    obtain ⟨n0, n1, ns⟩ := e6_now x y z keep tn hx64 hy64 hz64
    have N0 := Lib.hid n0
    have N1 := Lib.hid n1
    have NS := Lib.hid ns
    clear HEX HEY HEZ hz9 n0 n1 ns
    go_wp2_with fail
    refine hcr.mono ?_
    rintro e w10 ⟨rfl, s10, d10⟩
    have K10 := Lib.hid (K9.out.step s10 d10)
    have HZ10 := Lib.hid (HZ.out.laterN K10.out.below)
    clear hcr s10 d10 K9 e1 e2 e3
    go_wp2_with fail
    go_loop [20, 21] (fun r i => ∃ (k : Nat) (bb : Bool), k ≤ keep.length ∧ r = .bool bb ∧ i = .int .i64 (k : Int) ∧ Hid (bb = memB (keep.take k) 0)) (fun _ i => keep.length - (intOf i).toNat)
    case atStart => exact ⟨0, false, Nat.zero_le _, rfl, rfl, (mem_none keep).symm⟩
    case round =>
      obtain ⟨k, bb, hk, rfl, rfl, hbb⟩ := hrel
      by_cases hlt : k < keep.length
      · obtain ⟨b0, off0, rfl, hcell⟩ : ∃ b0 off0, ao = some ⟨b0, off0, none⟩ ∧ ∀ i, i < keep.length → w10.cell? ⟨b0, off0 + i, none⟩ = some (.int .i64 (keep.getD i 0)) := by
          rcases HZ10.out with h | h
          · rw [h] at hlt; simp at hlt
          · exact h
        have ck := hcell k hlt
        have hmm := mem_more hlt
        generalize keep.getD k 0 = t at ck hmm
        cases bb with
        | true =>
          have hb' : Hid (true = memB (keep.take (k + 1)) 0) := by show _ = _; rw [hmm, ← hbb.out]; rfl
          clear hmm hcell hbb
          go_wp2_with fail
          go_round
          case rel => exact ⟨k + 1, true, by omega, rfl, by go_num, hb'⟩
          case measure => simp [intOf]; omega
        | false =>
          have hb' : Hid ((t == 0) = memB (keep.take (k + 1)) 0) := by show _ = _; rw [hmm, ← hbb.out]; rfl
          clear hmm hcell hbb
          go_wp2_with fail
          go_round
          case rel => exact ⟨k + 1, (t == 0), by omega, rfl, by go_num, hb'⟩
          case measure => simp [intOf]; omega
      · obtain rfl : k = keep.length := by omega
        have hmem : Hid (bb = memB keep 0) := by have h := hbb.out; rw [List.take_length] at h; exact h
        have hr0 := readF w.heap.size F 0 _ w10 w.heap.size _ K10.out.disk N0.out
        clear hbb hlt hk
        go_wp2_with fail
        refine hr0.mono ?_
        rintro e w11 ⟨⟨gp, cp, rfl, rp, lp⟩, b11⟩
        have K11 := Lib.hid (K10.out.later b11)
        have hr1 := readF w.heap.size F 1 _ w11 w.heap.size _ K11.out.disk N1.out
        have hcp : 64 ≤ cp := by
          rcases rp.2 with ⟨hv, _⟩ | ⟨g', c', cur, hv, _, _, hc', _⟩
          · cases hv
          · injection hv with _ _ hv; subst hv; exact hc'
        have RP := Lib.hid rp
        clear hr0 b11 rp
        cases bb with
        | false =>
          rw [← hmem.out, if_neg (by decide)] at hr1
          go_wp2_with fail
          refine hr1.mono ?_
          rintro e w12 ⟨⟨gq, cq, rfl, rq, lq⟩, b12⟩
          have K12 := Lib.hid (K11.out.later b12)
          have hcq := row_cap rq
          have rp12 := row_below RP.out b12
          have kx := torn.conv_in K12.out.bx
          have kp := torn.conv_in (torn.row_take rp12 (List.prefix_append x (List.replicate (64 - x.length) 0))).toW
          have ky := torn.conv_in K12.out.by_
          have kq := torn.conv_in (torn.row_take rq (List.prefix_append y (List.replicate (64 - y.length) 0))).toW
          have hc1 : (x.length : Int) ≤ (cp : Int) := by omega
          have hc0 : (0 : Int) ≤ (x.length : Int) := by omega
          have hc3 : (y.length : Int) ≤ (cq : Int) := by omega
          have hc2 : (0 : Int) ≤ (y.length : Int) := by omega
          have HST := steps_zero K12.out.disk NS.out
          have HBL := Lib.hid K12.out.below
          clear hr1 rq rp12 b12 HZ10 hkl
          go_wp2_with fail
          go_quiet ((go_at_call 28; first | exact Calls.quiet_of_same (HST _) | exact (HST _).mono (fun _ _ h => ⟨h.1, _, h.2⟩)))
          go_wp2_with fail
          go_quiet (fail)
          go_wp2_with fail
          go_ret
          exact ⟨rfl, below_drewN (below_drewN HBL.out _) _⟩
        | true =>
          rw [← hmem.out, if_pos rfl] at hr1
          by_cases ht : tn = 0
          · subst ht
            rw [if_pos rfl] at hr1
            have h9 : errV 9 = .iface 102 (.int .i64 9) := errV_some (by decide)
            go_wp2_with fail
            refine hr1.mono ?_
            rintro e w12 ⟨he, b12⟩
            have he' : e = .returned (.tuple #[.slice none 0 0, .iface 102 (.int .i64 9)]) := he.trans (by rw [h9])
            subst he'
            have K12 := Lib.hid (K11.out.later b12)
            have rp12 := row_below RP.out b12
            have kx := torn.conv_in K12.out.bx
            have kp := torn.conv_in (torn.row_take rp12 (List.prefix_append x (List.replicate (64 - x.length) 0))).toW
            have hc1 : (x.length : Int) ≤ (cp : Int) := by omega
            have hc0 : (0 : Int) ≤ (x.length : Int) := by omega
            have HST := steps_zero K12.out.disk NS.out
            have HBL := Lib.hid K12.out.below
            have her := fun n => error_any 9 9 (w12.drewN n) (HG.out.below (below_drewN HBL.out n) hpos)
            rw [h9] at her
            have HER := Lib.hid her
            clear hr1 rp12 b12 HZ10 hkl he h9 her
            go_wp2_with fail
            go_quiet ((go_at_call 28; first | exact Calls.quiet_of_same (HST _) | exact (HST _).mono (fun _ _ h => ⟨h.1, _, h.2⟩)))
            go_wp2_with fail
            refine (HER.out _).mono ?_
            rintro e w13 ⟨rfl, b13⟩
            go_wp2_with fail
            go_ret
            exact ⟨rfl, (below_drewN HBL.out _).trans (b13.mono HBL.out.size)⟩
          · have htb : (tn == 0) = false := beq_eq_false_iff_ne.2 ht
            rw [if_neg (fun h => ht h.symm)] at hr1
            clear ht
            go_wp2_with fail
            refine hr1.mono ?_
            rintro e w12 ⟨⟨gq, cq, rfl, rq, lq⟩, b12⟩
            have K12 := Lib.hid (K11.out.later b12)
            have hcq := row_cap rq
            have rp12 := row_below RP.out b12
            have kx := torn.conv_in K12.out.bx
            have kp := torn.conv_in (torn.row_take rp12 (List.prefix_append x (List.replicate (64 - x.length) 0))).toW
            have ky := torn.conv_in K12.out.bz
            have kq := torn.conv_in (torn.row_take rq (List.prefix_append z (List.replicate (64 - z.length) 0))).toW
            have hc1 : (x.length : Int) ≤ (cp : Int) := by omega
            have hc0 : (0 : Int) ≤ (x.length : Int) := by omega
            have hc3 : (z.length : Int) ≤ (cq : Int) := by omega
            have hc2 : (0 : Int) ≤ (z.length : Int) := by omega
            have HST := steps_zero K12.out.disk NS.out
            have HBL := Lib.hid K12.out.below
            clear hr1 rq rp12 b12 HZ10 hkl
            go_wp2_with fail
            go_quiet ((go_at_call 28; first | exact Calls.quiet_of_same (HST _) | exact (HST _).mono (fun _ _ h => ⟨h.1, _, h.2⟩)))
            go_wp2_with fail
            go_quiet (fail)
            go_wp2_with fail
            go_ret
            exact ⟨rfl, below_drewN (below_drewN HBL.out _) _⟩
  · have HBL := Lib.hid K9.out.below
    have hs : (64 < x.length) ∨ (x.length ≤ 64 ∧ 64 < y.length) ∨ (x.length ≤ 64 ∧ y.length ≤ 64 ∧ 64 < z.length) := by omega
    clear hall
    rcases hs with h1 | ⟨h1, h2⟩ | ⟨h1, h2, h3⟩
    · have e1 : decide ((64 : Int) < (x.length : Int)) = true := decide_eq_true (by omega)
      have f1 := HEX.out
      rw [errV_ecd_big h1] at f1
      subst f1
      go_wp2_with fail
      go_ret
      exact ⟨rfl, HBL.out⟩
    · have e1 : decide ((64 : Int) < (x.length : Int)) = false := decide_eq_false (by omega)
      have e2 : decide ((64 : Int) < (y.length : Int)) = true := decide_eq_true (by omega)
      have f1 := HEX.out
      rw [errV_ecd_small h1] at f1
      subst f1
      have f2 := HEY.out
      rw [errV_ecd_big h2] at f2
      subst f2
      go_wp2_with fail
      go_ret
      exact ⟨rfl, HBL.out⟩
    · have e1 : decide ((64 : Int) < (x.length : Int)) = false := decide_eq_false (by omega)
      have e2 : decide ((64 : Int) < (y.length : Int)) = false := decide_eq_false (by omega)
      have e3 : decide ((64 : Int) < (z.length : Int)) = true := decide_eq_true (by omega)
      have f1 := HEX.out
      rw [errV_ecd_small h1] at f1
      subst f1
      have f2 := HEY.out
      rw [errV_ecd_small h2] at f2
      subst f2
      have f3 := HEZ.out
      rw [errV_ecd_big h3] at f3
      subst f3
      go_wp2_with fail
      go_ret
      exact ⟨rfl, HBL.out⟩
end Go.Proofs.YtldpflijgbcbhaaDoor.keeps
