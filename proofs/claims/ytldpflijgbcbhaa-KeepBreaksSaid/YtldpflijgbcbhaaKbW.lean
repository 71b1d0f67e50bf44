/- KeepBreaks walked. -/
import Derived.Test.YtldpflijgbcbhaaKbR
import Derived.Deep.CutBlock
import Derived.Deep.DeepCutAuto
import Derived.Deep.RegionLaw
namespace Go.Proofs.Ytldpflijgbcbhaa.lg
open Go.RowKit

theorem saveR_near : ∀ (bs : List (List UInt8)) (M : DiskM) (L : LogS), (∀ b ∈ bs, b.length ≤ 200) → (saveR bs M L).1.steps ≤ M.steps + 8 * bs.length + 1 ∧ (saveR bs M L).1.since.length ≤ M.since.length + 8 * bs.length
  | [], M, L, _ => by
      show (DiskM.fl M).steps ≤ _ ∧ (DiskM.fl M).since.length ≤ _
      unfold DiskM.fl
      split
      · omega
      · exact ⟨by show M.steps + 1 ≤ _; omega, Nat.zero_le _⟩
  | b :: bs, M, L, h => by
      obtain ⟨_, g2, g3⟩ := appR_near M L b (h b (by simp))
      rw [saveR]
      split
      · have := saveR_near bs (appR M 0 L b).1 (L.bared.add b) (fun c hc => h c (by simp [hc]))
        simp only [List.length_cons]; omega
      · simp only [List.length_cons]; omega
theorem save_law {B k q cap E s : Nat} {F : Nat → Prop} {w : World} {M M0 : DiskM} {ao : Option Addr} {xs : List Value} (hl : LawE B F w M (.slice ao (k + q) cap) (k + q) xs) (h : KB recs0 (k + 1) E s M0) (e1 : M.now = M0.now) (e2 : M.safe = M0.safe) (e3 : M.since = M0.since) (hst : M.steps ≤ s) (hs : s ≤ 900000) (hk : k + q ≤ 110) (hE : E < 60000) :
    Calls Try.prog 29 #[.pointer (some ⟨B, 0, none⟩), .slice ao (k + q) cap] w (SaveS B F w B (saveR ((recs0.drop (k + 1)).take q) M (openS (blkOf M0.now 0 150) 150))) := by
  obtain ⟨r1, r2, r3, r4, r5, r6, r7⟩ := h.recs (by omega) (by omega) e1 e2 e3
  have hsv := ksave_stop B F w B M (openS (blkOf M.now 0 150) 150) (entL k) (entL (k + q)) ao cap s hl.disk (by rw [e1, h.len]; omega) r7 rfl r1 r2 (by omega) r4 r5 r6 (fun i o ho => by
    obtain ⟨hi, rfl⟩ := entL_some ho
    exact entL_get (by omega)) (by rw [entL_len, entL_len]; omega) (fun x hx => by
    obtain ⟨i, hi, rfl⟩ := entL_mem hx
    have := entM_ok (n := i) (by omega)
    exact ⟨this.1, by omega⟩) (by rw [entL_len]; omega) (by
    have := posR_le recs0 (k + q + 1)
    unfold posR at this
    rw [recs0_take hk] at this
    have h8 := recs0_enc
    omega) hst (by rw [e3, h.since]; exact Nat.zero_le _) (by omega) hl.entsQ
  rw [entL_len, entL_len, ← recs0_drop hk, e1] at hsv
  exact hsv
theorem load_law {B k E s : Nat} {F : Nat → Prop} {w : World} {M : DiskM} (hd : DiskF B F w B M) (h : KB recs0 (k + 1) E s M) (hk : k ≤ 110) (hE : E < 60000) :
    Calls Try.prog 30 #[.pointer (some ⟨B, 0, none⟩)] w fun e w' => ∃ ao cap F' xs, e = .returned (.tuple #[.slice ao k cap, .nilIface]) ∧ Below w.heap.size w w' ∧ LawE B F' w' M (.slice ao k cap) k xs := by
  obtain ⟨r1, r2, r3, r4, r5, r6, r7⟩ := h.recs hk (by omega) rfl rfl rfl
  have hl := kload_row B F w B M (entL k) hd (by rw [h.len]; omega) r7 r1 (fun x hx => by
    obtain ⟨i, hi, rfl⟩ := entL_mem hx
    have := entM_ok (n := i) (by omega)
    exact ⟨this.1, by omega⟩) (by rw [entL_len]; omega)
  rw [entL_len] at hl
  refine hl.mono ?_
  rintro e w' ⟨ao, cap, n0, w5, he, hn0, hb, hd2, h5, ho⟩
  have hB : B ≤ w.heap.size := by obtain ⟨S, _, _, h3, _⟩ := hd; exact h3
  obtain ⟨xs, hlaw⟩ := LawE.of_out hd2 ho h5 (by omega)
  exact ⟨ao, cap, _, xs, he, hb, hlaw⟩
theorem kb_start : KB recs0 1 1 1000 (kfmt (DiskM.new 150)) ∧ Free (kfmt (DiskM.new 150)) := by
  have hfree : Free (DiskM.new 150) := rfl
  have hlen : (DiskM.new 150).now.length = 150 := by simp [DiskM.new]
  have hst : (DiskM.new 150).steps = 0 := rfl
  have hk := kept_format hfree (by omega) (by omega) (s := 1000) (by omega)
  obtain ⟨_, _, _, _, hl⟩ := kfmt_is hfree (by omega) (by omega)
  exact kb_of_kept hk (by rw [hl]; exact hlen) rfl rfl (by rw [recs0_take (k := 0) (by omega)]; rfl) (by rw [recs0_len]; omega) recs0_enc
theorem ents_val (k : Nat) (g : Nat) : entryV (entM k) (some ⟨g, 0, none⟩) 2 = .agg #[.string (entM k).ref, .int .i64 (entM k).ent, .int .i64 (entM k).per, .slice (some ⟨g, 0, none⟩) 2 2] := rfl

set_option maxRecDepth 100000 in
set_option maxHeartbeats 8000000 in
theorem breaks_any (sao : Option Addr) (scap : Nat) (zss : List (List Int)) (w : World) (hz : IntRows w sao zss) (hm : zss.length ≤ 9223372036854775807) :
    Calls Try.prog 8 #[.slice sao zss.length scap] w fun e w' => e = .returned (.bool true) ∧ Below w.heap.size w w' := by
  have hnew := newF 150 w (by omega) (by omega)
  have HZ := Lib.hid hz
  obtain ⟨KM, hKM⟩ : ∃ KM, KM = kfmt (DiskM.new 150) := ⟨_, rfl⟩
  have hks := kb_start
  rw [← hKM] at hks
  have HKS := Lib.hid hks
  have hfm := fun w1 d h => kformat_any w.heap.size (fun _ => False) w1 d (DiskM.new 150) h rfl (by simp [DiskM.new]) (by show 0 ≤ _; omega) (by show 0 ≤ _; omega)
  rw [← hKM] at hfm
  have HFM := Lib.hid hfm
  obtain ⟨B, hB⟩ : ∃ B, B = w.heap.size := ⟨_, rfl⟩
  have HBB := Lib.hid hB
  rw [← hB] at hnew
  clear hz hks hfm hKM hB
  go_enter Try.func8, Try.ntmps8
  go_wp2_with fail
  refine hnew.mono ?_
  rintro e w1 ⟨rfl, hb1, hd1⟩
  have hf := HFM.out w1 B (by rw [← HBB.out]; exact hd1)
  rw [← HBB.out] at hf
  have HB1 : Hid (Below B w w1) := by show Below _ _ _; have := HBB.out; rw [this] at hb1 ⊢; exact hb1
  clear hnew hb1 hd1 HFM
  go_wp2_with fail
  refine hf.mono ?_
  rintro e w2 ⟨rfl, hs2, hd2⟩
  have HB2 : Hid (Below B w w2) := HB1.out.trans hs2.below
  have HD2 := Lib.hid hd2
  have he := entryOf_any 0 w2 (by omega)
  rw [show ((0 : Nat) : Int) = 0 from rfl] at he
  clear hf hs2 hd2
  go_wp2_with fail
  refine he.mono ?_
  rintro e w3 ⟨hb3, g, hg, rfl, hl3⟩
  rw [ents_val]
  obtain ⟨xs1, hlaw1⟩ := LawE.first HD2.out hb3 hl3 hg
  obtain ⟨W4, hW4⟩ : ∃ W4, W4 = w3.alloc (.cells #[.string (entM 0).ref, .int .i64 (entM 0).ent, .int .i64 (entM 0).per, .slice (some ⟨g, 0, none⟩) 2 2] 30) := ⟨_, rfl⟩
  rw [← hW4] at hlaw1
  have HB4 : Hid (Below B w W4) := by
    have h4 : Below w3.heap.size w3 W4 := by rw [hW4]; exact (Below.refl _ _).alloc (Nat.le_refl _) _
    have hBw : B ≤ w2.heap.size := by obtain ⟨S, _, _, h3, _⟩ := HD2.out; exact h3
    exact HB2.out.trans ((hb3.mono hBw).trans (h4.mono (Nat.le_trans hBw hb3.size)))
  have hsv := save_law (k := 0) (q := 1) hlaw1 HKS.out.1 rfl rfl rfl HKS.out.1.steps (by omega) (by omega) (by omega)
  obtain ⟨R, hR⟩ : ∃ R, R = saveR ((recs0.drop (0 + 1)).take 1) KM (openS (blkOf KM.now 0 150) 150) := ⟨_, rfl⟩
  rw [← hR] at hsv
  have hev := event HKS.out.1 recs0_each recs0_enc (by omega) (M1 := KM) rfl rfl rfl (q := 1) (by omega) (by rw [recs0_len]; omega) hR
  have hR0 := hev.2.2.2 HKS.out.2
  have HKB : Hid (KB recs0 2 2 2000 R.1 ∧ Free R.1) := by
    refine ⟨(hev.1 hR0).1 2000 ?_, hev.2.2.1.trans HKS.out.2⟩
    have h1 := (saveR_near ((recs0.drop (0 + 1)).take 1) KM (openS (blkOf KM.now 0 150) 150) (fun b hb => (recs0_each b (List.mem_of_mem_drop (List.mem_of_mem_take hb))).2)).1
    rw [← hR] at h1
    have h2 := HKS.out.1.steps
    have h3 : ((recs0.drop (0 + 1)).take 1).length ≤ 1 := by rw [List.length_take]; omega
    omega
  unfold SaveS at hsv
  rw [hR0, errV_zero] at hsv
  have HL1 := Lib.hid hlaw1
  have HW4 := Lib.hid hW4
  obtain ⟨M1, hM1⟩ : ∃ M1, M1 = R.1 := ⟨_, rfl⟩
  rw [← hM1] at hsv HKB
  clear he hb3 hl3 hg hlaw1 hW4 hev hR0 hR hM1
  rw [Nat.zero_add] at hsv
  go_upto_region 6 with (fail)
  rw [← HW4.out]
  refine hsv.mono ?_
  rintro e w5 ⟨rfl, hs5, hd5⟩
  have hld := load_law hd5 HKB.out.1 (by omega) (by omega)
  have HB5 : Hid (Below B w w5) := HB4.out.trans hs5.below
  clear hsv hs5 hd5 HL1
  go_wp2_with fail
  refine hld.mono ?_
  rintro e w6 ⟨fo, fc, F6, xs6, rfl, hb6, hl6⟩
  have HB6 : Hid (Below B w w6) := by
    have hBw : B ≤ w5.heap.size := by have := HB5.out.size; have := HBB.out; omega
    exact HB5.out.trans (hb6.mono hBw)
  have HL6 := Lib.hid hl6
  have he := entryOf_any 0 w6 (by omega)
  rw [show ((0 : Nat) : Int) = 0 from rfl] at he
  clear hld hb6 hl6
  go_wp2_with fail
  refine he.mono ?_
  rintro e w7 ⟨hb7, g7, hg7, rfl, hl7⟩
  rw [ents_val]
  obtain ⟨xs8, hlaw8⟩ := LawE.first HL6.out.disk hb7 hl7 hg7
  obtain ⟨W8, hW8⟩ : ∃ W8, W8 = w7.alloc (.cells #[.string (entM 0).ref, .int .i64 (entM 0).ent, .int .i64 (entM 0).per, .slice (some ⟨g7, 0, none⟩) 2 2] 30) := ⟨_, rfl⟩
  rw [← hW8] at hlaw8
  have HB8 : Hid (Below B w W8) := by
    have h4 : Below w7.heap.size w7 W8 := by rw [hW8]; exact (Below.refl _ _).alloc (Nat.le_refl _) _
    have hBw : B ≤ w6.heap.size := by obtain ⟨S, _, _, h3, _⟩ := HL6.out.disk; exact h3
    exact HB6.out.trans ((hb7.mono hBw).trans (h4.mono (Nat.le_trans hBw hb7.size)))
  have HL8 := Lib.hid hlaw8
  have HW8 := Lib.hid hW8
  obtain ⟨ao8, hao8⟩ : ∃ ao8 : Option Addr, ao8 = some ⟨w7.heap.size, 0, none⟩ := ⟨_, rfl⟩
  rw [← hao8] at HL8
  have HA8 := Lib.hid hao8
  clear he hb7 hl7 hg7 hlaw8 hW8 hao8 HL6
  go_upto_block 0 with (fail)
  rw [← HW8.out, ← HA8.out]
  have HROW : Hid (∀ i r, zss[i]? = some r → ∃ b off ra rc, sao = some ⟨b, off, none⟩ ∧ (∀ z ∈ r, -9223372036854775808 ≤ z ∧ z ≤ 9223372036854775807) ∧ (r.length ≤ rc ∧ r.length ≤ 9223372036854775807) ∧ ∀ wx, Below B w wx → wx.cell? ⟨b, off + i, none⟩ = some (.slice ra r.length rc) ∧ IntsAt wx ra r) := by
    intro i r hi
    obtain ⟨b, off, ra, rc, h1, h2, h3, h4⟩ := rows_at HZ.out hi
    exact ⟨b, off, ra, rc, h1, h2, h3, fun wx hbx => h4 wx (by rw [← HBB.out]; exact hbx)⟩
  obtain ⟨nz, hnz⟩ : ∃ nz, nz = zss.length := ⟨_, rfl⟩
  rw [← hnz] at hm ⊢
  have HNZ := Lib.hid hnz
  clear hnz HZ HKS HB1 HB2 HD2 HB4 HW4 HB5 HB6 HW8 HA8
  go_cut [9, 10, 11] (fun _ _ _ wx => Hid (Below B w wx))
  case rest =>
    go_wp2_with fail
    go_ret
    exact ⟨rfl, by have := hcut.out; rw [HBB.out] at this; exact this⟩
  case first =>
    go_wp2_with fail
    go_loopw [9, 10, 11] (fun av sv z wr => ∃ (i k cap : Nat) (ao : Option Addr) (F : Nat → Prop) (M : DiskM) (xs : List Value), z = .int .i64 (i : Int) ∧ i ≤ nz ∧ i ≤ 25 ∧ av = .slice ao k cap ∧ sv = .int .i64 (k : Int) ∧ 1 ≤ k ∧ k ≤ 1 + 4 * i ∧ Hid (LawE B F wr M (.slice ao k cap) k xs) ∧ Hid (KB recs0 (k + 1) (2 + i) (2000 + 100 * i) M ∧ Free M) ∧ Hid (Below B w wr)) (fun _ _ z _ => 25 - (intOf z).toNat)
    case atStart => exact ⟨0, 1, 1, ao8, _, M1, xs8, rfl, Nat.zero_le _, Nat.zero_le _, rfl, rfl, Nat.le_refl _, Nat.le_refl _, HL8.out, HKB.out, HB8.out⟩
    case round =>
      clear HL8 HKB HB8
      obtain ⟨i, k, cap, ao, F, M, xs, rfl, hi1, hi2, rfl, rfl, hk1, hk2, HL, HK, HB⟩ := hrel
      by_cases hlt : i < nz ∧ i < 25
      · obtain ⟨hl1, hl2⟩ := hlt
        obtain ⟨r, hr⟩ : ∃ r, zss[i]? = some r := ⟨zss[i]'(by rw [← HNZ.out]; exact hl1), List.getElem?_eq_getElem _⟩
        obtain ⟨b, off, ra, rc, hsao, hrz, ⟨_, hrl⟩, hwx⟩ := HROW.out i r hr
        subst hsao
        have cr := (hwx wr HB.out).1
        have HWX : Hid (∀ wx, Below B w wx → wx.cell? ⟨b, off + i, none⟩ = some (.slice ra r.length rc) ∧ IntsAt wx ra r) := hwx
        have hiI : (i : Int) < (nz : Int) := by omega
        have hi60I : (i : Int) < 25 := by omega
        have hi0 : (0 : Int) ≤ (i : Int) := by omega
        obtain ⟨q, hq⟩ : ∃ q, q = wr.heap.size := ⟨_, rfl⟩
        obtain ⟨W0, hW0⟩ : ∃ W0, W0 = wr.alloc (.cells #[.int .i64 0, .int .i64 0, .int .i64 0] 68) := ⟨_, rfl⟩
        have V0 : Hid (RndA w W0 B F q M (.slice ao k cap) k xs (box3 r 0)) := by
          show RndA _ _ _ _ _ _ _ _ _ _
          rw [hq, hW0]; exact RndA.start HB.out HL.out r
        have HQ := Lib.hid hq
        have HW0 := Lib.hid hW0
        have HRZ := Lib.hid hrz
        clear hq hW0 hwx hr hrz
        go_upto_block 2 with (fail)
        rw [← HW0.out, ← HQ.out]
        clear HL HB cr
        go_cut [14] (fun _ wx => ∃ j : Nat, Hid (RndA w wx B F q M (.slice ao k cap) k xs (box3 r j)) ∧ Hid (r.length ≤ j ∨ 3 ≤ j))
        case first =>
          go_wp2_with fail
          go_loopw [14] (fun jv wr2 => ∃ j : Nat, jv = .int .i64 (j : Int) ∧ j ≤ r.length ∧ j ≤ 3 ∧ Hid (RndA w wr2 B F q M (.slice ao k cap) k xs (box3 r j))) (fun jv _ => 3 - (intOf jv).toNat)
          case atStart => exact ⟨0, rfl, Nat.zero_le _, Nat.zero_le _, V0⟩
          case round =>
            clear V0
            obtain ⟨j, rfl, hj1, hj2, hV⟩ := hrel
            by_cases hjl : j < r.length ∧ j < 3
            · obtain ⟨hjl1, hjl2⟩ := hjl
              obtain ⟨b2, o2, rfl, hc2⟩ := (HWX.out _ hV.out.below).2.resolve_left (fun e => by rw [e] at hjl1; simp at hjl1)
              have cj := hc2 j hjl1
              have cq := hV.out.at hjl2
              have fq := hV.out.free j
              have V1 := Lib.hid (hV.out.set hjl2)
              have hjI : (j : Int) < (r.length : Int) := by omega
              have hj4 : (j : Int) < 3 := by omega
              have hj0 : (0 : Int) ≤ (j : Int) := by omega
              clear hc2 hV
              generalize r.getD j 0 = z at *
              go_wp2_with fail
              go_roundw
              case rel => exact ⟨j + 1, by go_num, by omega, by omega, V1⟩
              case measure => simp [intOf]; omega
            · have HVA : Hid (r.length ≤ j ∨ 3 ≤ j) := by show _ ∨ _; omega
              have hj3 : (decide ((j : Int) < (r.length : Int)) = false ∧ decide (j < r.length) = false) ∨ (decide ((j : Int) < (r.length : Int)) = true ∧ decide (j < r.length) = true ∧ decide ((j : Int) < 3) = false ∧ decide (j < 3) = false) := by
                by_cases h : j < r.length
                · exact Or.inr ⟨decide_eq_true (by omega), decide_eq_true h, decide_eq_false (by omega), decide_eq_false (by omega)⟩
                · exact Or.inl ⟨decide_eq_false (by omega), decide_eq_false h⟩
              clear hjl
              rcases hj3 with ⟨hj3, hj5⟩ | ⟨hj3, hj5, hj4, hj6⟩
              all_goals
                go_wp2_with fail
                go_meet
                exact ⟨j, hV, HVA⟩
        case rest =>
          obtain ⟨j, hV, hVA⟩ := hcut
          clear V0
          obtain ⟨w8, hw8⟩ : ∃ w8 : World, w8 = wc := ⟨_, rfl⟩
          subst hw8
          have hz1 := getD_int HRZ.out 1
          have hz2 := getD_int HRZ.out 2
          have hz0 := getD_int HRZ.out 0
          have hRB := hV.out.done hVA.out
          generalize r.getD 0 0 = z0 at *
          generalize r.getD 1 0 = z1 at *
          generalize r.getD 2 0 = z2 at *
          obtain ⟨G, hG⟩ : ∃ G : Nat → Prop, G = fun x => F x ∨ x = q := ⟨_, rfl⟩
          rw [← hG] at hRB
          have HRB := Lib.hid hRB
          clear hV hVA hRB hG HRZ
          obtain ⟨q1, hq1⟩ : ∃ q1 : Nat, (z0.tmod 4 + 4).tmod 4 = (q1 : Int) := ⟨((z0.tmod 4 + 4).tmod 4).toNat, by
            have h2 := Int.lt_tmod_of_pos z0 (show (0 : Int) < 4 by omega)
            have := Int.tmod_nonneg (a := z0.tmod 4 + 4) 4 (by omega)
            omega⟩
          have hq13 : q1 ≤ 3 := by
            have := Int.tmod_lt_of_pos (z0.tmod 4 + 4) (show (0 : Int) < 4 by omega)
            omega
          have hwt : IntKind.i64.wrap (z0.tmod 4 + 4) = z0.tmod 4 + 4 := IntWalk.i64_in _ (by
            have h1 := Int.tmod_lt_of_pos z0 (show (0 : Int) < 4 by omega)
            have h2 := Int.lt_tmod_of_pos z0 (show (0 : Int) < 4 by omega)
            omega)
          clear hz0
          go_upto_block 4 with (fail)
          go_cut [9] (fun av wx => ∃ (cap2 : Nat) (ao2 : Option Addr) (G2 : Nat → Prop) (xs2 : List Value), av = .slice ao2 (k + (1 + q1)) cap2 ∧ Hid (RndB w wx B G2 q M (.slice ao2 (k + (1 + q1)) cap2) (k + (1 + q1)) xs2 z0 z1 z2))
          case first =>
            go_wp2_with fail
            go_loopw [9, 15] (fun av jv wr2 => ∃ (j n cap2 : Nat) (ao2 : Option Addr) (G2 : Nat → Prop) (xs2 : List Value), jv = .int .i64 (j : Int) ∧ j ≤ 1 + q1 ∧ Hid (n = k + j) ∧ n ≤ 110 ∧ av = .slice ao2 n cap2 ∧ Hid (RndB w wr2 B G2 q M (.slice ao2 n cap2) n xs2 z0 z1 z2)) (fun _ jv _ => 5 - (intOf jv).toNat)
            case atStart => exact ⟨0, k, cap, ao, G, xs, rfl, Nat.zero_le _, rfl, by omega, rfl, HRB.out⟩
            case round =>
              clear HRB
              obtain ⟨j, n, cap2, ao2, G2, xs2, rfl, hj, hn, hn110, rfl, hR⟩ := hrel
              obtain ⟨v0, _, _⟩ := hR.out.at
              by_cases hjq : j < 1 + q1
              · have hjI : (j : Int) < 1 + (q1 : Int) := by omega
                have he := entryOf_any n wr (by omega)
                go_wp2_with fail
                refine he.mono ?_
                rintro e w3' ⟨hb3, g', hg', rfl, hl3⟩
                rw [ents_val]
                obtain ⟨W7, hW7⟩ : ∃ W7, W7 = w3'.alloc (.cells #[.string (entM n).ref, .int .i64 (entM n).ent, .int .i64 (entM n).per, .slice (some ⟨g', 0, none⟩) 2 2] 30) := ⟨_, rfl⟩
                have hb7 : Below w3'.heap.size w3' W7 := by rw [hW7]; exact (Below.refl _ _).alloc (Nat.le_refl _) _
                have hbox : W7.heap[w3'.heap.size]? = some (.cells #[.string (entM n).ref, .int .i64 (entM n).ent, .int .i64 (entM n).per, .slice (some ⟨g', 0, none⟩) 2 2] 30 (0, 0)) := by rw [hW7]; exact heap_new_at rfl _
                have x0 : W7.cell? ⟨w3'.heap.size, 0, none⟩ = some (.string (entM n).ref) := cell_of_heap hbox 0
                have x1 : W7.cell? ⟨w3'.heap.size, 1, none⟩ = some (.int .i64 (entM n).ent) := cell_of_heap hbox 1
                have x2 : W7.cell? ⟨w3'.heap.size, 2, none⟩ = some (.int .i64 (entM n).per) := cell_of_heap hbox 2
                have x3 : W7.cell? ⟨w3'.heap.size, 3, none⟩ = some (.slice (some ⟨g', 0, none⟩) 2 2) := cell_of_heap hbox 3
                obtain ⟨ao9, cap9, w9, G9, xs9, hrun, hR9⟩ := hR.out.more (hb3.trans (hb7.mono hb3.size)) (hl3.below hb7 (Nat.le_refl _)) hg' (by omega)
                have HR9 := Lib.hid hR9
                have HW7 := Lib.hid hW7
                obtain ⟨q7, hq7⟩ : ∃ q7, q7 = w3'.heap.size := ⟨_, rfl⟩
                rw [← hq7] at x0 x1 x2 x3
                have HQ7 := Lib.hid hq7
                clear he hb3 hl3 hg' hb7 hbox hR9 hR v0 hW7 hq7
                go_upto_region 24 with (fail)
                rw [← HW7.out, ← HQ7.out]
                go_wp2_with (at_builtin; refine Lib.wpList_append_run _ rfl _ _ _ _ rfl _ _ rfl rfl _ _ hrun ?_)
                clear hrun x0 x1 x2 x3
                go_wp2_with fail
                go_roundw
                case rel => exact ⟨j + 1, n + 1, cap9, ao9, G9, xs9, by go_num, by omega, by show n + 1 = k + (j + 1); rw [hn.out]; omega, by have := hn.out; omega, rfl, HR9⟩
                case measure => simp [intOf]; omega
              · obtain rfl : j = 1 + q1 := by omega
                have hnn := hn.out
                subst hnn
                have hjI : ¬ (1 : Int) + (q1 : Int) < 1 + (q1 : Int) := by omega
                go_wp2_with fail
                go_meet
                exact ⟨cap2, ao2, G2, xs2, rfl, hR⟩
          case rest =>
            obtain ⟨cap2, ao2, G2, xs2, rfl, hR⟩ := hcut
            obtain ⟨w9, hw9⟩ : ∃ w9 : World, w9 = wc := ⟨_, rfl⟩
            subst hw9
            clear HRB
            obtain ⟨n, hn⟩ : ∃ n, n = k + (1 + q1) := ⟨_, rfl⟩
            rw [← hn] at hR ⊢
            have HN := Lib.hid hn
            have hn110 : n ≤ 105 := by omega
            have hkn : k ≤ n := by omega
            clear hn
            obtain ⟨_, v1, v2⟩ := hR.out.at
            have hm9 : -9 < z1.tmod 9 ∧ z1.tmod 9 < 9 := ⟨Int.lt_tmod_of_pos z1 (by omega), Int.tmod_lt_of_pos z1 (by omega)⟩
            have hst := HK.out.1.steps
            go_upto_if 105 with (fail)
            go_cut [] (fun wx => ∃ M2 : DiskM, Hid (M2.now = M.now ∧ M2.safe = M.safe ∧ M2.since = M.since ∧ M2.steps = M.steps ∧ (z1 < 0 → M2 = M)) ∧ Hid (RndB w wx B G2 q M2 (.slice ao2 n cap2) n xs2 z0 z1 z2))
            case first =>
              by_cases hz1n : z1 < 0
              · have HRES : Hid (∃ M2 : DiskM, Hid (M2.now = M.now ∧ M2.safe = M.safe ∧ M2.since = M.since ∧ M2.steps = M.steps ∧ (z1 < 0 → M2 = M)) ∧ Hid (RndB w w9 B G2 q M2 (.slice ao2 n cap2) n xs2 z0 z1 z2)) := ⟨M, ⟨rfl, rfl, rfl, rfl, fun _ => rfl⟩, hR.out⟩
                clear hst hm9
                go_wp2_with fail
                go_meet
                exact HRES.out
              · have hwd : Below w9.heap.size w9 w9.drew := (Below.refl _ _).drew
                have hRd := hR.out.later hwd
                have hs1 := stepsF B G2 w9.drew B M hRd.law.disk
                have hwr : IntKind.i64.wrap ((M.steps : Int) + z1.tmod 9) = (M.steps : Int) + z1.tmod 9 := IntWalk.i64_in _ (by omega)
                have hf1 := failF B G2 ((M.steps : Int) + z1.tmod 9) w9.drew B M hRd.law.disk (by omega)
                have HRD := Lib.hid hRd
                obtain ⟨d1, d2, d3⟩ := hRd.at
                clear hRd hwd hst hm9
                go_wp2_with fail
                go_region_law
                  (first
                    | (go_simp; go_at_call 26; refine hs1.mono ?_; rintro e w' ⟨rfl, rfl⟩)
                    | (go_simp; go_at_call 25; refine hf1.mono ?_; rintro e w' ⟨rfl, hs', hd'⟩))
                all_goals
                  have HRES : Hid (∃ M2 : DiskM, Hid (M2.now = M.now ∧ M2.safe = M.safe ∧ M2.since = M.since ∧ M2.steps = M.steps ∧ (z1 < 0 → M2 = M)) ∧ Hid (RndB w w' B G2 q M2 (.slice ao2 n cap2) n xs2 z0 z1 z2)) := ⟨M.fail ((M.steps : Int) + z1.tmod 9), ⟨rfl, rfl, rfl, rfl, fun h => absurd h (by omega)⟩, HRD.out.step hs' hd'⟩
                  clear hs1 hf1 hwr hs' hd' d1 d2 d3
                  go_wp2_with fail
                  go_meet
                  exact HRES.out
            case rest =>
              obtain ⟨M2, hM2, hR2⟩ := hcut
              obtain ⟨w10, hw10⟩ : ∃ w10 : World, w10 = wc := ⟨_, rfl⟩
              subst hw10
              clear v1 v2 hm9 hR
              have hst2 : M2.steps ≤ 2000 + 100 * i := by rw [hM2.out.2.2.2.1]; exact hst
              obtain ⟨RR, hRR⟩ : ∃ RR, RR = saveR ((recs0.drop (k + 1)).take (1 + q1)) M2 (openS (blkOf M.now 0 150) 150) := ⟨_, rfl⟩
              have hlaw := hR2.out.law
              rw [HN.out] at hlaw
              have hsv := save_law hlaw HK.out.1 hM2.out.1 hM2.out.2.1 hM2.out.2.2.1 hst2 (by omega) (by have := HN.out; omega) (by omega)
              rw [← HN.out, ← hRR] at hsv
              have hev := event HK.out.1 recs0_each recs0_enc (by omega) (M1 := M2) hM2.out.1 hM2.out.2.1 hM2.out.2.2.1 (q := 1 + q1) (by omega) (by rw [recs0_len]; have := HN.out; omega) hRR
              have hnear := saveR_near ((recs0.drop (k + 1)).take (1 + q1)) M2 (openS (blkOf M.now 0 150) 150) (fun b hb => (recs0_each b (List.mem_of_mem_drop (List.mem_of_mem_take hb))).2)
              rw [← hRR] at hnear
              have hlt5 : ((recs0.drop (k + 1)).take (1 + q1)).length ≤ 4 := by rw [List.length_take]; omega
              have HEV : Hid ((RR.2 = 0 → KB recs0 (n + 1) (2 + (i + 1)) (2000 + 100 * (i + 1)) RR.1 ∧ ∀ keep torn, KB recs0 (n + 1) (2 + (i + 1)) (2000 + 100 * (i + 1)) (RR.1.crash keep torn)) ∧ (RR.2 ≠ 0 → ∀ keep torn, ∃ k', k ≤ k' ∧ k' ≤ n ∧ KB recs0 (k' + 1) (2 + (i + 1)) (2000 + 100 * (i + 1)) (RR.1.crash keep torn)) ∧ (z1 < 0 → RR.2 = 0 ∧ Free RR.1)) := by
                have hnn := HN.out
                refine ⟨fun h0 => ?_, fun h0 keep torn => ?_, fun h0 => ?_⟩
                · obtain ⟨g1, g2⟩ := hev.1 h0
                  rw [show n + 1 = k + 1 + (1 + q1) by omega]
                  refine ⟨g1 _ (by have := hnear.1; omega), fun keep torn => ?_⟩
                  have h2 := g2 keep torn
                  exact ⟨h2.len, h2.safe, h2.since, Nat.le_trans h2.steps (Nat.zero_le _), h2.cons, h2.jle, h2.lo, h2.hi⟩
                · obtain ⟨j', g1, g2, h2⟩ := hev.2.1 h0 keep torn
                  refine ⟨j' - 1, by omega, by omega, ?_⟩
                  rw [show j' - 1 + 1 = j' by omega]
                  exact ⟨h2.len, h2.safe, h2.since, Nat.le_trans h2.steps (Nat.zero_le _), h2.cons, h2.jle, h2.lo, h2.hi⟩
                · have hf : Free M2 := by rw [hM2.out.2.2.2.2 h0]; exact HK.out.2
                  exact ⟨hev.2.2.2 hf, hev.2.2.1.trans hf⟩
              obtain ⟨bz, hbz⟩ : ∃ bz, bz = decide (RR.2 = 0) := ⟨_, rfl⟩
              obtain ⟨ev, hevv⟩ : ∃ ev, ev = errV RR.2 := ⟨_, rfl⟩
              have hql : ∀ wx, (binOp .eql 25 ev .nilIface).run Try.prog wx = .ok (.bool bz) wx := by
                intro wx
                rw [hevv, hbz]
                by_cases h0 : RR.2 = 0
                · rw [h0, errV_zero]; exact err_eql_nil wx
                · rw [errV_some h0, err_eql_some]; simp [h0]
              have hqg : ∀ wx, (eqGuard BinOp.eql 25 (Operand.tmp 117) (Operand.const Value.nilIface) ev Value.nilIface).run Try.prog wx = .ok () wx := by
                intro wx
                rw [hevv]
                by_cases h0 : RR.2 = 0
                · rw [h0, errV_zero]; rfl
                · rw [errV_some h0]; rfl
              unfold SaveS at hsv
              rw [← hevv] at hsv
              have HBZ := Lib.hid hbz
              have HR2 := Lib.hid hR2.out
              have hsc : RR.1.since.length ≤ 1000000000 := by
                have h2 := hnear.2
                have h3 : M2.since.length = 0 := by rw [hM2.out.2.2.1, HK.out.1.since]; rfl
                omega
              have HSC := Lib.hid hsc
              clear hev hnear hlt5 hRR hlaw hM2 hst hst2 hbz hevv hR2 hsc HK
              go_wp2_with fail
              refine hsv.mono ?_
              rintro e w11 ⟨rfl, hs11, hd11⟩
              have HR3 := Lib.hid (HR2.out.step hs11 hd11)
              obtain ⟨_, v1, v2⟩ := HR3.out.at
              clear hsv hs11 hd11 HR2
              go_upto_if 118 with (fail)
              clear hql hqg
              go_cut [10] (fun sv wx => wx = w11 ∧ ∃ sf : Nat, sv = .int .i64 (sf : Int) ∧ Hid ((bz = true → sf = n) ∧ (bz = false → sf = k)))
              case first =>
                cases bz with
                | true =>
                  go_wp2_with fail
                  go_meet
                  exact ⟨rfl, n, rfl, fun _ => rfl, fun h => by cases h⟩
                | false =>
                  go_wp2_with fail
                  go_meet
                  exact ⟨rfl, k, rfl, fun h => (by cases h), fun _ => rfl⟩
              case rest =>
                obtain ⟨hwc, sf, rfl, hsf⟩ := hcut
                rw [hwc]
                clear hwc
                go_upto_if 123 with (fail)
                go_cut [] (fun wx => ∃ (M3 : DiskM) (k' : Nat), Hid (KB recs0 (k' + 1) (2 + (i + 1)) (2000 + 100 * (i + 1)) M3 ∧ Free M3) ∧ k ≤ k' ∧ k' ≤ n ∧ sf ≤ k' ∧ Hid (RndB w wx B G2 q M3 (.slice ao2 n cap2) n xs2 z0 z1 z2))
                case first =>
                  by_cases hz1n : z1 < 0
                  · have HRES : Hid (∃ (M3 : DiskM) (k' : Nat), Hid (KB recs0 (k' + 1) (2 + (i + 1)) (2000 + 100 * (i + 1)) M3 ∧ Free M3) ∧ k ≤ k' ∧ k' ≤ n ∧ sf ≤ k' ∧ Hid (RndB w w11 B G2 q M3 (.slice ao2 n cap2) n xs2 z0 z1 z2)) := by
                      obtain ⟨g1, g2⟩ := HEV.out.2.2 hz1n
                      refine ⟨RR.1, n, ⟨(HEV.out.1 g1).1, g2⟩, hkn, Nat.le_refl _, ?_, HR3.out⟩
                      have := hsf.out.1 (by rw [HBZ.out]; exact decide_eq_true g1)
                      omega
                    go_wp2_with fail
                    go_meet
                    exact HRES.out
                  · have hcr := crashF B G2 ra rc r z2 w11 B RR.1 HR3.out.law.disk (HWX.out w11 HR3.out.below).2 hrl HSC.out
                    go_wp2_with fail
                    refine hcr.mono ?_
                    rintro e w12 ⟨rfl, hs12, hd12⟩
                    have HRES : Hid (∃ (M3 : DiskM) (k' : Nat), Hid (KB recs0 (k' + 1) (2 + (i + 1)) (2000 + 100 * (i + 1)) M3 ∧ Free M3) ∧ k ≤ k' ∧ k' ≤ n ∧ sf ≤ k' ∧ Hid (RndB w w12 B G2 q M3 (.slice ao2 n cap2) n xs2 z0 z1 z2)) := by
                      have hR4 := HR3.out.step hs12 hd12
                      by_cases h0 : RR.2 = 0
                      · have hs := hsf.out.1 (by rw [HBZ.out]; exact decide_eq_true h0)
                        exact ⟨_, n, ⟨(HEV.out.1 h0).2 r z2, rfl⟩, hkn, Nat.le_refl _, by omega, hR4⟩
                      · have hs := hsf.out.2 (by rw [HBZ.out]; exact decide_eq_false h0)
                        obtain ⟨k', g1, g2, g3⟩ := HEV.out.2.1 h0 r z2
                        exact ⟨_, k', ⟨g3, rfl⟩, g1, g2, by omega, hR4⟩
                    clear hcr hs12 hd12
                    go_wp2_with fail
                    go_meet
                    exact HRES.out
                case rest =>
                  obtain ⟨M3, k', hK3, hkk, hkn', hsfk, hR4⟩ := hcut
                  obtain ⟨w12, hw12⟩ : ∃ w12 : World, w12 = wc := ⟨_, rfl⟩
                  subst hw12
                  clear HR3 HEV HBZ HSC v1 v2 hsf
                  have hld := load_law hR4.out.law.disk hK3.out.1 (by omega) (by omega)
                  have hc1 : ¬ k' < sf := by omega
                  have hc2 : ¬ n < k' := by omega
                  clear hsfk
                  go_wp2_with fail
                  refine hld.mono ?_
                  rintro e w13 ⟨go, gc, G9, xs9, rfl, hb13, hl13⟩
                  have HR5 := Lib.hid (hR4.out.later hb13)
                  have HL13 := Lib.hid hl13
                  have hk110 : k' ≤ 105 := by omega
                  clear hld hb13 hl13 hR4
                  go_upto_block 6 with (fail)
                  go_cut [20] (fun _ wx => Hid (Below w13.heap.size w13 wx))
                  case first =>
                    have HB0 : Hid (Below w13.heap.size w13 w13) := Below.refl _ _
                    go_wp2_with fail
                    go_loopw [20] (fun z wr => ∃ j : Nat, j ≤ k' ∧ z = .int .i64 (j : Int) ∧ Hid (Below w13.heap.size w13 wr)) (fun z _ => k' - (intOf z).toNat)
                    case atStart => exact ⟨0, Nat.zero_le _, rfl, HB0⟩
                    case round =>
                      clear HB0
                      obtain ⟨j, hj, rfl, hBW⟩ := hrel
                      by_cases hjk : j < k'
                      · have hbd : Below w13.heap.size w13 wr.drew := hBW.out.drew
                        obtain ⟨b1, o1, la, lc, hgo, hb1, x0, x1, x2, x3, xl⟩ := ents_at (HL13.out.ents.below hbd (Nat.le_refl _)) (entL_get hjk)
                        obtain ⟨b2, o2, lb, ld, hao2, hb2, y0, y1, y2, y3, yl⟩ := ents_at (HR5.out.law.ents.below hbd (Nat.le_refl _)) (entL_get (show j < n by omega))
                        subst hgo
                        subst hao2
                        have hsame := entry_same (entM j) wr.drew la lb lc ld xl yl (by show 2 ≤ _; omega)
                        unfold entryV at hsame
                        have hjn : j < n := by omega
                        have HBD := Lib.hid hbd
                        clear hb1 hb2 xl yl hBW hbd
                        go_wp2_with fail
                        go_region_law
                          (first
                            | (go_simp; go_at_call 14; refine hsame.mono ?_; rintro e w8' ⟨rfl, hb8'⟩))
                        all_goals
                          have HB8 : Hid (Below w13.heap.size w13 w8') := HBD.out.trans (hb8'.mono HBD.out.size)
                          clear hsame hb8' x0 x1 x2 x3 y0 y1 y2 y3
                          go_wp2_with fail
                          go_roundw
                          case rel => exact ⟨j + 1, by omega, by go_num, HB8⟩
                          case measure => simp [intOf]; omega
                      · obtain rfl : j = k' := by omega
                        go_wp2_with fail
                        go_meet
                        exact hBW
                  case rest =>
                    obtain ⟨w14, hw14⟩ : ∃ w14 : World, w14 = wc := ⟨_, rfl⟩
                    subst hw14
                    have HL14 := Lib.hid (HL13.out.later hcut.out)
                    have HB14 : Hid (Below B w w14) := by
                      have hBw : B ≤ w13.heap.size := by obtain ⟨S, _, _, h3, _⟩ := HL13.out.disk; exact h3
                      exact HR5.out.below.trans (hcut.out.mono hBw)
                    clear hcut HL13 HR5
                    go_wp2_with fail
                    go_roundw
                    case rel => exact ⟨i + 1, k', gc, go, G9, M3, xs9, by go_num, by omega, by omega, rfl, rfl, by omega, by have := HN.out; omega, HL14, hK3, HB14⟩
                    case measure => simp [intOf]; omega
      · have hj3 : (decide ((i : Int) < (nz : Int)) = false ∧ decide (i < nz) = false) ∨ (decide ((i : Int) < (nz : Int)) = true ∧ decide (i < nz) = true ∧ decide ((i : Int) < 25) = false ∧ decide (i < 25) = false) := by
          by_cases h : i < nz
          · exact Or.inr ⟨decide_eq_true (by omega), decide_eq_true h, decide_eq_false (by omega), decide_eq_false (by omega)⟩
          · exact Or.inl ⟨decide_eq_false (by omega), decide_eq_false h⟩
        clear hlt
        rcases hj3 with ⟨hj3, hj5⟩ | ⟨hj3, hj5, hj4, hj6⟩
        all_goals
          go_wp2_with fail
          go_meet
          exact HB
end Go.Proofs.Ytldpflijgbcbhaa.lg
