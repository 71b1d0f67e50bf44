/- LogPlays walked. -/
import Derived.Test.YtldpflijgbcbhaaDoorLqS
import Derived.Test.YtldpflijgbcbhaaDoorLqM
import Derived.Test.YtldpflijgbcbhaaDoorLgZ
import Derived.Deep.CutBlock
import Derived.Deep.DeepCutAuto
import Derived.Deep.OwnRows
namespace Go.Proofs.YtldpflijgbcbhaaDoor.lg
open Go.RowKit

theorem row_cell {w : World} {base : Nat} {e : TypeId} {g n cap : Nat} {xs : List Value} (h : w.ownsRow base e 1 (.slice (some ⟨g, 0, none⟩) n cap) n xs) {j : Nat} (hj : j < n) : w.cell? ⟨g, j, none⟩ = xs[j]? := by
  rcases h.2 with ⟨hv, _⟩ | ⟨g', cap', cur, hv, _, hh, _, _, _, ht⟩
  · cases hv
  · injection hv with e1 _ _
    injection e1 with e1
    injection e1 with e1 _ _
    subst e1
    rw [cell_of_heap hh, ← ht, List.getElem?_take, if_pos (by omega), Array.getElem?_toList]
/-- what All gives is the law's own -/
theorem same_of {F : Nat → Prop} {w0 W : World} {go ao : Option Addr} {rl gc ac : Nat} {rs rs2 : List Value} {L : List (List UInt8)} (ha : AllIs F W (.slice ao rl ac) rs L) (hr : RecRows w0 W (.slice go rl gc) rl rs2 L) (hrl : rl = L.length) : SameAt W go ao rl := by
  subst hrl
  intro j hj
  obtain ⟨b, hb⟩ : ∃ b, L[j]? = some b := ⟨L[j], List.getElem?_eq_getElem hj⟩
  obtain ⟨x, hx, hxr⟩ := hr.each j b hj hb
  obtain ⟨y, hy, hyr⟩ := ha.each j b hb
  obtain ⟨gg, cg, hgv, _⟩ := ownsRow_some hr.row (by omega)
  obtain ⟨ga, ca, hav, _⟩ := ownsRow_some ha.row (by omega)
  injection hgv with e1 _ _
  injection hav with e2 _ _
  subst e1 e2
  obtain ⟨xo, xc, hxe, _⟩ := row_slice' hxr.1
  obtain ⟨yo, yc, hye, _⟩ := row_slice' hyr.1
  subst hxe hye
  exact ⟨gg, ga, b.length, xo, yo, xc, yc, b, rfl, rfl, (row_cell hr.row hj).trans hx, (row_cell ha.row hj).trans hy, bytes_of_row hxr.1 rfl, bytes_of_row hyr.1 rfl⟩
theorem play_start {M0 : DiskM} {fr mn : Nat} (hM : M0 = DiskM.new 40) (hmn : mn ≤ 200) (hf : fr + mn ≤ 40) : fmtR M0 fr 0 mn = (fmtAll M0 fr mn, 0) ∧ PlayOk fr mn (fmtAll M0 fr mn) emptyS 0 ∧ (∀ i, blkOf (fmtAll M0 fr mn).now fr mn i = none) ∧ M0.now.length = 40 ∧ M0.steps = 0 ∧ M0.since.length = 0 := by
  have hfree : Free M0 := by rw [hM]; rfl
  have hlen : M0.now.length = 40 := by rw [hM]; simp [DiskM.new]
  have hst : M0.steps = 0 := by rw [hM]; rfl
  have hsi : M0.since.length = 0 := by rw [hM]; rfl
  obtain ⟨g1, g2, g3, g4⟩ := fmtAll_len M0 fr mn
  have hb := fmt_blk (M := M0) (fr := fr) (mn := mn) (by omega)
  exact ⟨fmt_is hfree fr mn (by omega), ⟨g4 hfree, by omega, ok_empty hmn hb, Nat.le_refl _, by omega, by omega, Nat.zero_le _⟩, hb, hlen, hst, hsi⟩
/-- what the law asks of a log that is refused -/
theorem where_law (n : Nat) (fr mn : Int) : whereC n fr mn = if mn < 1 ∨ 200 < mn ∨ fr < 0 ∨ (n : Int) - mn < fr then 1 else 0 := rfl

set_option maxRecDepth 100000 in
set_option maxHeartbeats 8000000 in
theorem plays_any (fr mn : Int) (sao : Option Addr) (scap : Nat) (zss : List (List Int)) (w : World) (hg : Door w) (hz : IntRows w sao zss) (hm : zss.length ≤ 9223372036854775807) (hfr : -9223372036854775808 ≤ fr ∧ fr ≤ 9223372036854775807) (hmn : -9223372036854775808 ≤ mn ∧ mn ≤ 9223372036854775807) :
    Calls Tryd.prog 8 #[.int .i64 fr, .int .i64 mn, .slice sao zss.length scap] w fun e w' => e = .returned (.bool true) ∧ Below w.heap.size w w' := by
  have hpos := hg.pos
  have hnew := newF 40 w (by omega) (by omega)
  have HG := Lib.hid hg
  have HZ := Lib.hid hz
  clear hg hz
  by_cases hC : mn < 1 ∨ 200 < mn ∨ fr < 0 ∨ (40 : Int) - mn < fr
  · have hwc : whereC 40 fr mn = 1 := by rw [where_law]; exact if_pos hC
    go_enter Tryd.func8, Tryd.ntmps8
    go_wp2_with fail
    refine hnew.mono ?_
    rintro e w1 ⟨rfl, hb1, hd1⟩
    have hlen : (DiskM.new 40).now.length = 40 := by simp [DiskM.new]
    have hf := format_no w.heap.size (fun _ => False) fr mn w1 w.heap.size (DiskM.new 40) hd1 (by rw [hlen]; exact hwc)
    have ho : ∀ w3, Below w1.heap.size w1 w3 → Hid (Calls Tryd.prog 36 #[.pointer (some ⟨w.heap.size, 0, none⟩), .int .i64 fr, .int .i64 mn] w3 fun e w' => e = .returned (.tuple #[.pointer none, .iface 102 (.int .i64 1)]) ∧ w3 = w') := fun w3 hb3 => by
      have := open_no w.heap.size (fun _ => False) fr mn w3 w.heap.size (DiskM.new 40) (hd1.later hb3) (by rw [hlen]; exact hwc)
      rwa [errV_some (by decide)] at this
    have hee : ∀ w3, Below w1.heap.size w1 w3 → Hid (Calls Tryd.prog 13 #[.iface 102 (.int .i64 1), .int .i64 1] w3 fun e w' => e = .returned (.bool true) ∧ Below w3.heap.size w3 w') := fun w3 hb3 => by
      have := error_any 1 1 w3 ((HG.out.below hb1 hpos).below hb3 (Nat.lt_of_lt_of_le hpos hb1.size))
      rwa [errV_some (by decide)] at this
    have he := error_any 1 1 w1 (HG.out.below hb1 hpos)
    rw [errV_some (by decide)] at he hf
    have HB1 := Lib.hid hb1
    clear hnew hb1 hd1 hlen hwc
    by_cases c1 : mn < 1
    · skip
      go_wp2_with fail
      refine hf.mono ?_
      rintro e w2 ⟨rfl, rfl⟩
      go_wp2_with fail
      refine he.mono ?_
      rintro e w3 ⟨rfl, hb3⟩
      have HO3 := ho _ hb3
      have HE3 := hee _ hb3
      go_wp2_with fail
      refine HO3.out.mono ?_
      rintro e w4 ⟨rfl, rfl⟩
      go_wp2_with fail
      refine HE3.out.mono ?_
      rintro e w5 ⟨rfl, hb5⟩
      have HF : Hid (Below w.heap.size w w5) := (HB1.out.trans (hb3.mono HB1.out.size)).trans (hb5.mono (Nat.le_trans HB1.out.size hb3.size))
      clear hb3 hb5 HO3 HE3
      go_wp2_with fail
      go_ret
      exact ⟨rfl, HF.out⟩
    · by_cases c2 : 200 < mn
      · skip
        go_wp2_with fail
        refine hf.mono ?_
        rintro e w2 ⟨rfl, rfl⟩
        go_wp2_with fail
        refine he.mono ?_
        rintro e w3 ⟨rfl, hb3⟩
        have HO3 := ho _ hb3
        have HE3 := hee _ hb3
        go_wp2_with fail
        refine HO3.out.mono ?_
        rintro e w4 ⟨rfl, rfl⟩
        go_wp2_with fail
        refine HE3.out.mono ?_
        rintro e w5 ⟨rfl, hb5⟩
        have HF : Hid (Below w.heap.size w w5) := (HB1.out.trans (hb3.mono HB1.out.size)).trans (hb5.mono (Nat.le_trans HB1.out.size hb3.size))
        clear hb3 hb5 HO3 HE3
        go_wp2_with fail
        go_ret
        exact ⟨rfl, HF.out⟩
      · by_cases c3 : fr < 0
        · skip
          go_wp2_with fail
          refine hf.mono ?_
          rintro e w2 ⟨rfl, rfl⟩
          go_wp2_with fail
          refine he.mono ?_
          rintro e w3 ⟨rfl, hb3⟩
          have HO3 := ho _ hb3
          have HE3 := hee _ hb3
          go_wp2_with fail
          refine HO3.out.mono ?_
          rintro e w4 ⟨rfl, rfl⟩
          go_wp2_with fail
          refine HE3.out.mono ?_
          rintro e w5 ⟨rfl, hb5⟩
          have HF : Hid (Below w.heap.size w w5) := (HB1.out.trans (hb3.mono HB1.out.size)).trans (hb5.mono (Nat.le_trans HB1.out.size hb3.size))
          clear hb3 hb5 HO3 HE3
          go_wp2_with fail
          go_ret
          exact ⟨rfl, HF.out⟩
        · have c4 : (40 : Int) - mn < fr := by omega
          go_wp2_with fail
          refine hf.mono ?_
          rintro e w2 ⟨rfl, rfl⟩
          go_wp2_with fail
          refine he.mono ?_
          rintro e w3 ⟨rfl, hb3⟩
          have HO3 := ho _ hb3
          have HE3 := hee _ hb3
          go_wp2_with fail
          refine HO3.out.mono ?_
          rintro e w4 ⟨rfl, rfl⟩
          go_wp2_with fail
          refine HE3.out.mono ?_
          rintro e w5 ⟨rfl, hb5⟩
          have HF : Hid (Below w.heap.size w w5) := (HB1.out.trans (hb3.mono HB1.out.size)).trans (hb5.mono (Nat.le_trans HB1.out.size hb3.size))
          clear hb3 hb5 HO3 HE3
          go_wp2_with fail
          go_ret
          exact ⟨rfl, HF.out⟩
  · obtain ⟨fn, rfl⟩ := Int.eq_ofNat_of_zero_le (show 0 ≤ fr by omega)
    obtain ⟨m, rfl⟩ := Int.eq_ofNat_of_zero_le (show 0 ≤ mn by omega)
    have hm1 : 1 ≤ m := by omega
    have hm2 : m ≤ 200 := by omega
    have hfm : fn + m ≤ 40 := by omega
    have d1 : decide ((m : Int) < 1) = false := decide_eq_false (by omega)
    have d2 : decide ((200 : Int) < (m : Int)) = false := decide_eq_false (by omega)
    have d3 : decide ((fn : Int) < 0) = false := decide_eq_false (by omega)
    have d4 : decide ((40 : Int) - (m : Int) < (fn : Int)) = false := decide_eq_false (by omega)
    obtain ⟨M0, hM0⟩ : ∃ M0, M0 = DiskM.new 40 := ⟨_, rfl⟩
    obtain ⟨hfmt, hok0, hbn, hlen0, hst0, hsi0⟩ := play_start hM0 hm2 hfm
    go_enter Tryd.func8, Tryd.ntmps8
    go_wp2_with fail
    refine hnew.mono ?_
    rintro e w1 ⟨rfl, hb1, hd1⟩
    rw [← hM0] at hd1
    have hf := format_any w.heap.size (fun _ => False) fn m w1 w.heap.size M0 hd1 hm1 hm2 (by omega) (by omega) (by omega)
    rw [hfmt, errV_zero] at hf
    have HB1 := Lib.hid hb1
    clear hnew hb1 hd1 hC hM0
    go_wp2_with fail
    refine hf.mono ?_
    rintro e w2 ⟨rfl, hs2, hd2⟩
    have HB2 : Hid (Below w.heap.size w w2) := HB1.out.trans hs2.below
    have he2 := error_any 0 0 w2 (HG.out.below HB2.out hpos)
    rw [errV_zero] at he2
    have HD2 := Lib.hid hd2
    clear hf hs2 hd2
    go_wp2_with fail
    refine he2.mono ?_
    rintro e w3 ⟨rfl, hb3⟩
    have HB3 : Hid (Below w.heap.size w w3) := HB2.out.trans (hb3.mono HB2.out.size)
    have hd3 := HD2.out.later hb3
    have ho := open_any w.heap.size (fun _ => False) fn m w3 w.heap.size (fmtAll M0 fn m) hd3 hm1 hm2 (by rw [hok0.len]; omega) (fun i c _ hc => by rw [hbn i] at hc; cases hc)
    rw [open_empty hbn] at ho
    have HD3 := Lib.hid hd3
    clear he2 hb3 hd3
    go_wp2_with fail
    refine ho.mono ?_
    rintro e w4 ⟨rfl, hop4⟩
    have HB4 : Hid (Below w.heap.size w w4) := HB3.out.trans (hop4.below.mono HB3.out.size)
    have he4 := error_any 0 0 w4 (HG.out.below HB4.out hpos)
    rw [errV_zero] at he4
    obtain ⟨p4, hp4⟩ : ∃ p4, p4 = w3.heap.size := ⟨_, rfl⟩
    have HP4 : Hid (PlayAt w w4 (fun _ => False) w.heap.size p4 fn m (fmtAll M0 fn m) emptyS (.slice none 0 0) []) := by
      show PlayAt _ _ _ _ _ _ _ _ _ _ _
      rw [hp4]
      exact ⟨HB4.out, Sys.of_op HD3.out hop4, AllIs.start _ _, fun x hx => hx.elim⟩
    rw [← hp4]
    have HOK := Lib.hid hok0
    clear ho hop4 hp4 hok0 hbn hst0 hsi0 hlen0 hfmt HD2 HD3
    go_wp2_with fail
    refine he4.mono ?_
    rintro e w5 ⟨rfl, hb5⟩
    have HP5 := Lib.hid (HP4.out.later hb5)
    clear he4 hb5 HP4
    go_wp2_with fail
    obtain ⟨B, hB⟩ : ∃ B, B = w.heap.size := ⟨_, rfl⟩
    have HBB := Lib.hid hB
    go_loopw [11, 13, 14, 15] (fun lv av uv z wr => ∃ (i p : Nat) (F : Nat → Prop) (M : DiskM) (L : LogS) (rs : List Value), z = .int .i64 (i : Int) ∧ i ≤ zss.length ∧ i ≤ 60 ∧ lv = .pointer (some ⟨p, 0, none⟩) ∧ uv = .int .i64 (L.stream.length : Int) ∧ Hid (PlayAt w wr F w.heap.size p fn m M L av rs) ∧ Hid (PlayOk fn m M L i)) (fun _ _ _ z _ => 60 - (intOf z).toNat)
    case atStart => exact ⟨0, p4, _, _, _, _, rfl, by omega, by omega, rfl, rfl, HP5.out, HOK.out⟩
    case round =>
      clear HP5 HOK
      obtain ⟨i, p, F, M, L, rs, rfl, hi1, hi2, rfl, rfl, HP, HO⟩ := hrel
      by_cases hlt : i < zss.length ∧ i < 60
      · obtain ⟨hl1, hl2⟩ := hlt
        obtain ⟨r, hr⟩ : ∃ r, zss[i]? = some r := ⟨zss[i], List.getElem?_eq_getElem hl1⟩
        obtain ⟨b, off, rfl, hb, hc⟩ := HZ.out.resolve_left (fun e => by rw [e] at hl1; simp at hl1)
        obtain ⟨ra, rc, hcell, hints, hrc1, hrz⟩ := hc i r hr
        have cr : wr.cell? ⟨b, off + i, none⟩ = some (.slice ra r.length rc) := (HP.out.below.cell (p := ⟨b, off + i, none⟩) hb).trans hcell
        have HI := Lib.hid hints
        have hiI : (i : Int) < (zss.length : Int) := by omega
        have hi60I : (i : Int) < 60 := by omega
        have hi0 : (0 : Int) ≤ (i : Int) := by omega
        clear hc hints hr
        obtain ⟨q, hq⟩ : ∃ q, q = wr.heap.size := ⟨_, rfl⟩
        obtain ⟨W0, hW0⟩ : ∃ W0, W0 = wr.alloc (.cells #[.int .i64 0, .int .i64 0] 75) := ⟨_, rfl⟩
        have V0 : Hid (PlayV w W0 F w.heap.size p fn m q M L u13 rs (box2 r 0)) := by
          show PlayV _ _ _ _ _ _ _ _ _ _ _ _ _
          rw [hq, hW0]; exact PlayV.start HP.out r
        have HBC : Hid (∀ wx, Below w.heap.size w wx → Hid (wx.cell? ⟨b, off + i, none⟩ = some (.slice ra r.length rc))) := fun wx hbx => (hbx.cell (p := ⟨b, off + i, none⟩) hb).trans hcell
        have HQ := Lib.hid hq
        have HW0 := Lib.hid hW0
        clear hq hW0 hcell
        go_upto_block 2 with (fail)
        rw [← HW0.out, ← HQ.out]
        clear HP cr
        go_cut [17] (fun _ wx => ∃ j : Nat, Hid (PlayV w wx F w.heap.size p fn m q M L u13 rs (box2 r j)) ∧ Hid (∀ i', i' < 2 → fst2 r j i' = r.getD i' 0))
        case first =>
          go_wp2_with fail
          go_loopw [17] (fun jv wr2 => ∃ j : Nat, jv = .int .i64 (j : Int) ∧ j ≤ r.length ∧ j ≤ 2 ∧ Hid (PlayV w wr2 F w.heap.size p fn m q M L u13 rs (box2 r j))) (fun jv _ => 2 - (intOf jv).toNat)
          case atStart => exact ⟨0, rfl, Nat.zero_le _, Nat.zero_le _, V0⟩
          case round =>
            clear V0
            obtain ⟨j, rfl, hj1, hj2, hV⟩ := hrel
            have cr := (HBC.out _ hV.out.below).out
            by_cases hjl : j < r.length ∧ j < 2
            · obtain ⟨hjl1, hjl2⟩ := hjl
              obtain ⟨b2, o2, rfl, hc2⟩ := HI.out.resolve_left (fun e => by rw [e] at hjl1; simp at hjl1)
              have hb2 : b2 < w.heap.size := by
                have h0 := hc2 j hjl1
                rcases Nat.lt_or_ge b2 w.heap.size with h1 | h1
                · exact h1
                · simp [World.cell?, Array.getElem?_eq_none h1] at h0
              have cj := (hV.out.below.cell (p := ⟨b2, o2 + j, none⟩) hb2).trans (hc2 j hjl1)
              have cq := hV.out.at hjl2
              have fq := hV.out.free j
              have V1 := Lib.hid (hV.out.set hjl2)
              have hjI : (j : Int) < (r.length : Int) := by omega
              have hj4 : (j : Int) < 2 := by omega
              have hj0 : (0 : Int) ≤ (j : Int) := by omega
              clear hc2 hV
              generalize r.getD j 0 = z at *
              go_wp2_with fail
              go_roundw
              case rel => exact ⟨j + 1, by go_num, by omega, by omega, V1⟩
              case measure => simp [intOf]; omega
            · have HVA : Hid (∀ i', i' < 2 → fst2 r j i' = r.getD i' 0) := fun i' hi' => fst2_all (r := r) (j := j) (by omega) hi'
              have hj3 : (decide ((j : Int) < (r.length : Int)) = false ∧ decide (j < r.length) = false) ∨ (decide ((j : Int) < (r.length : Int)) = true ∧ decide (j < r.length) = true ∧ decide ((j : Int) < 2) = false ∧ decide (j < 2) = false) := by
                by_cases h : j < r.length
                · exact Or.inr ⟨decide_eq_true (by omega), decide_eq_true h, decide_eq_false (by omega), decide_eq_false (by omega)⟩
                · exact Or.inl ⟨decide_eq_false (by omega), decide_eq_false h⟩
              clear hjl
              rcases hj3 with ⟨hj3, hj5⟩ | ⟨hj3, hj5, hj4, hj6⟩
              all_goals
                go_wp2_with fail
                go_meet
                exact ⟨j, hV, HVA⟩
        case rest =>
          obtain ⟨j, hV, hVA⟩ := hcut
          clear V0
          obtain ⟨w8, hw8⟩ : ∃ w8 : World, w8 = wc := ⟨_, rfl⟩
          subst hw8
          have v0 := hV.out.at (i := 0) (by omega)
          have v1 := hV.out.at (i := 1) (by omega)
          rw [hVA.out 0 (by omega)] at v0
          rw [hVA.out 1 (by omega)] at v1
          have hz1 : -9223372036854775808 ≤ r.getD 1 0 ∧ r.getD 1 0 ≤ 9223372036854775807 := by
            by_cases h : 1 < r.length
            · have := hrz r[1] (List.getElem_mem h)
              simpa [h] using this
            · simp [List.getElem?_eq_none (show r.length ≤ 1 by omega)]
          have HPL : Hid (PlayAt w w8 F w.heap.size p fn m M L u13 rs) := hV.out.drop
          have hroom := HO.out.ok.room
          obtain ⟨n, hn⟩ : ∃ n, n = L.stream.length := ⟨_, rfl⟩
          obtain ⟨R, hR⟩ : ∃ R, R = 60 * (m - 2) - L.stream.length := ⟨_, rfl⟩
          rw [← hn] at hroom hR
          have HN := Lib.hid hn
          have HR := Lib.hid hR
          rw [← hn]
          generalize r.getD 0 0 = z0 at *
          generalize r.getD 1 0 = z1 at *
          have hn2 : n ≤ 11880 := by omega
          clear hVA hV hn hR hrz
          go_upto_if 119 with (fail)
          go_cut [18] (fun z wx => z = .int .i64 (R : Int) ∧ wx = w8)
          case first =>
            by_cases hneg : (60 : Int) * (m : Int) - 120 - (n : Int) < 0
            · have hR0 : R = 0 := by have := HR.out; omega
              go_wp2_with fail
              go_meet
              exact ⟨by rw [hR0]; rfl, rfl⟩
            · have hR1 : (60 : Int) * (m : Int) - 120 - (n : Int) = (R : Int) := by have := HR.out; omega
              go_wp2_with fail
              go_meet
              first
                | exact ⟨rfl, rfl⟩
                | exact ⟨by rw [hR1], rfl⟩
          case rest =>
            obtain ⟨hzv, hwc⟩ := hcut
            rw [hzv, hwc]
            clear hzv hwc hroom
            go_upto_block 4 with (fail)
            go_cut [11, 13, 14] (fun lv av uv wx => ∃ (p' : Nat) (F' : Nat → Prop) (M' : DiskM) (L' : LogS) (rs' : List Value), lv = .pointer (some ⟨p', 0, none⟩) ∧ uv = .int .i64 (L'.stream.length : Int) ∧ Hid (PlayAt w wx F' w.heap.size p' fn m M' L' av rs') ∧ Hid (PlayOk fn m M' L' (i + 1)))
            case first =>
              refine piece_use ?_
              refine sw_block HG hm1 hm2 hfm hl2 HPL HO HN HR v1 hz1 (Lib.hid ?_)
              intro p' F' M' L' rs' av' n' y9 y19 y20 y21 y22 y23 y24 y25 y26 y122 y123 y124 y125 y126 y127 y128 y129 y130 y131 y132 y133 y134 y135 y136 y137 y138 y139 y140 y141 y142 y143 y144 y145 y146 y147 y148 y149 y150 y151 y152 y153 y154 y155 y156 y157 y158 y159 y160 y161 y162 y163 y164 y165 y166 y167 y168 y169 y170 y171 y172 y173 y174 y175 y176 y177 y178 y179 y180 y181 y182 y183 y184 y185 y186 y187 y188 y189 y190 y191 y192 y193 y194 y195 y196 y197 y198 y199 y200 y201 y202 y203 y204 y205 y206 wx hn' HP9 HO9
              subst hn'
              go_wp2_with fail
              go_meet
              exact ⟨p', F', M', L', rs', rfl, rfl, HP9, HO9⟩
            case rest =>
              obtain ⟨p', F', M', L', rs', rfl, rfl, HP9, HO9⟩ := hcut
              obtain ⟨w9, hw9⟩ : ∃ w9 : World, w9 = wc := ⟨_, rfl⟩
              subst hw9
              obtain ⟨n9, hn9⟩ : ∃ n9, n9 = L'.stream.length := ⟨_, rfl⟩
              obtain ⟨rl, hrl⟩ : ∃ rl, rl = L'.recs.length := ⟨_, rfl⟩
              obtain ⟨vo, vc, hav, hvc⟩ := row_slice' HP9.out.all.row
              rw [← hrl] at hav hvc
              subst hav
              have hfew := HO9.out.few
              have hrb : rl ≤ 100000 := by omega
              have hroom9 := HO9.out.ok.room
              have hn92 : n9 ≤ 11880 := by omega
              have hall : Hid (Calls Tryd.prog 39 #[.pointer (some ⟨p', 0, none⟩)] w9 fun e w' => ∃ v rs, e = .returned v ∧ RecRows w9 w' v L'.recs.length rs L'.recs) := by
                obtain ⟨S, T, hs⟩ := HP9.out.sys
                exact all_any w9 T p' w.heap.size fn m L' hs.log (by omega) HO9.out.ok.each
              rw [← hrl] at hall
              rw [← hn9]
              have HN9 := Lib.hid hn9
              have HRL := Lib.hid hrl
              clear hn9 hrl hfew hroom9 HPL HO HN HR v0 v1 hz1
              go_wp2_with fail
              refine hall.out.mono ?_
              rintro e w10 ⟨v, rs2, rfl, hrr⟩
              have HP10 := Lib.hid (HP9.out.later hrr.below)
              obtain ⟨go, gc, hgo, hgc⟩ := row_slice' hrr.row
              subst hgo
              have HS := Lib.hid (same_of HP10.out.all hrr HRL.out)
              have hlen := len_any w10 p' m n9 rl (by have := HP10.out.sys.size'; rwa [← HN9.out, ← HRL.out] at this)
              clear hall hrr HP9
              go_wp2_with fail
              refine hlen.mono ?_
              rintro e w11 ⟨rfl, rfl⟩
              clear hlen
              go_upto_block 7 with (fail)
              go_cut [] (fun wx => Hid (Below w10.heap.size w10 wx))
              case first =>
                refine piece_use ?_
                refine cmp_block HS hrb hgc hvc (Lib.hid ?_)
                intro y6 y28 y221 y222 y223 y224 y225 y226 y227 y228 y229 y230 y231 y232 y233 y234 y235 y236 y237 wx HB
                go_wp2_with fail
                go_meet
                exact HB
              case rest =>
                obtain ⟨w11, hw11⟩ : ∃ w11 : World, w11 = wc := ⟨_, rfl⟩
                subst hw11
                have HP11 := Lib.hid (HP10.out.later hcut.out)
                have hrm := room_any w11 p' m n9 rl (by have := HP11.out.sys.size'; rwa [← HN9.out, ← HRL.out] at this) hm2 (by omega)
                obtain ⟨R9, hR9⟩ : ∃ R9, R9 = 60 * (m - 2) - n9 := ⟨_, rfl⟩
                have hR9b : n9 ≤ 60 * (m - 2) := by have := HO9.out.ok.room; rwa [← HN9.out] at this
                rw [← hR9] at hrm
                have HR9 := Lib.hid hR9
                clear hR9 hcut HS HP10 hgc hvc
                go_upto_if 244 with (fail)
                go_cut [18] (fun z wx => z = .int .i64 (R9 : Int) ∧ wx = w11)
                case first =>
                  by_cases hneg : (60 : Int) * (m : Int) - 120 - (n9 : Int) < 0
                  · have hR0 : R9 = 0 := by have := HR9.out; omega
                    go_wp2_with fail
                    go_meet
                    exact ⟨by rw [hR0]; rfl, rfl⟩
                  · have hR1 : (60 : Int) * (m : Int) - 120 - (n9 : Int) = (R9 : Int) := by have := HR9.out; omega
                    go_wp2_with fail
                    go_meet
                    first
                      | exact ⟨rfl, rfl⟩
                      | exact ⟨by rw [hR1], rfl⟩
                case rest =>
                  obtain ⟨hzv, hwc⟩ := hcut
                  rw [hzv, hwc]
                  clear hzv hwc hR9b
                  go_wp2_with fail
                  refine hrm.mono ?_
                  rintro e w12 ⟨rfl, hb12⟩
                  have HP12 := Lib.hid (HP11.out.later hb12)
                  clear hrm hb12 HP11
                  go_wp2_with fail
                  go_roundw
                  case rel => exact ⟨i + 1, p', F', M', L', rs', by go_num, by omega, by omega, rfl, by rw [HN9.out], HP12, HO9⟩
                  case measure => simp [intOf]; omega
      · have hj3 : (decide ((i : Int) < (zss.length : Int)) = false ∧ decide (i < zss.length) = false) ∨ (decide ((i : Int) < (zss.length : Int)) = true ∧ decide (i < zss.length) = true ∧ decide ((i : Int) < 60) = false ∧ decide (i < 60) = false) := by
          by_cases h : i < zss.length
          · exact Or.inr ⟨decide_eq_true (by omega), decide_eq_true h, decide_eq_false (by omega), decide_eq_false (by omega)⟩
          · exact Or.inl ⟨decide_eq_false (by omega), decide_eq_false h⟩
        have HF : Hid (Below w.heap.size w wr) := HP.out.below
        clear hlt
        rcases hj3 with ⟨hj3, hj5⟩ | ⟨hj3, hj5, hj4, hj6⟩
        all_goals
          go_wp2_with fail
          go_ret
          exact ⟨rfl, HF.out⟩
end Go.Proofs.YtldpflijgbcbhaaDoor.lg
