/- (*log.Log).Append walked, where all goes well. -/
import Derived.Test.YtldpflijgbcbhaaDoorLgQ
import Derived.Deep.RegionHeld3
import Derived.Deep.RegionLaw
namespace Go.Proofs.YtldpflijgbcbhaaDoor.lg
open Go.RowKit

theorem putsR_start (M : DiskM) (fr : Nat) (L : LogS) (k n : Nat) : putsR M fr L k n = putsR M fr L k (n + k - k) := by rw [Nat.add_sub_cancel]
theorem putsR_step {M : DiskM} {fr : Nat} {L : LogS} {k e : Nat} (h : k < e) (hc : putC M fr L k = 0) : putsR M fr L k (e - k) = putsR (putM M fr L k) fr L (k + 1) (e - (k + 1)) := by
  rw [show e - k = (e - (k + 1)) + 1 by omega, putsR, if_pos hc]
theorem putsR_bad {M : DiskM} {fr : Nat} {L : LogS} {k e : Nat} (h : k < e) (hc : putC M fr L k ≠ 0) : (putsR M fr L k (e - k)).2 ≠ 0 := by
  rw [show e - k = (e - (k + 1)) + 1 by omega, putsR, if_neg hc]; exact hc
theorem chunks_end {s x : List UInt8} (k : Nat) (hk : s.length / 60 ≤ k) : (k < s.length / 60 + chunks s x ↔ 60 * k < (s ++ x).length) := by
  unfold chunks
  have := @List.length_append _ s x
  omega

set_option maxRecDepth 100000 in
set_option maxHeartbeats 4000000 in
theorem append_ok (B : Nat) (F : Nat → Prop) (v : Value) (b : List UInt8) (w : World) (p d fr mn : Nat) (M : DiskM) (L : LogS) (h : Sys B F w d M p fr mn L) (hv : BytesW w v b) (hvb : ∀ g, v.ownBlock = some g → F g ∨ g < B)
    (hbr : L.broken = false) (hba : L.bare = false) (h1 : 1 ≤ b.length) (h2 : b.length ≤ 200) (hroom : L.stream.length + b.length + 2 ≤ 60 * (mn - 2)) (hmn : mn ≤ 200) (hsf : L.safe < 2) (hE : L.epoch ≤ 65535) (hfr : fr ≤ 1000) (hrl : L.recs.length ≤ 100000) (hst : M.steps ≤ 100000000) (hsi : M.since.length ≤ 100000000)
    (hok : (putsR M fr (L.add b) (L.stream.length / 60) (chunks L.stream (enc1 b))).2 = 0) :
    Calls Tryd.prog 37 #[.pointer (some ⟨p, 0, none⟩), v] w (StepL B F w d (.tuple #[.int .i64 L.recs.length, .nilIface]) (putsR M fr (L.add b) (L.stream.length / 60) (chunks L.stream (enc1 b))).1 p fr mn (L.add b)) := by
  obtain ⟨m, hm⟩ : ∃ m, m = b.length := ⟨_, rfl⟩
  obtain ⟨vo, vc, hvv⟩ : ∃ vo vc, v = .slice vo m vc := by obtain ⟨sp, c, e, _⟩ := hv; exact ⟨sp, c, by rw [hm]; exact e⟩
  have hlen : L.stream.length ≤ 12000 := by omega
  have hsize := h.size'
  have hrm := room_any w p mn L.stream.length L.recs.length hsize hmn hlen
  obtain ⟨R, hR⟩ : ∃ R, R = 60 * (mn - 2) - L.stream.length := ⟨_, rfl⟩
  rw [← hR] at hrm
  have hRm : m + 2 ≤ R := by omega
  have c9 := h.cells.c9
  rw [hbr] at c9
  have hF : ∀ x, F x → x < w.heap.size := by obtain ⟨S, T, hs⟩ := h; exact hs.f_
  have hBw : B ≤ w.heap.size := h.lt.2.2.2
  -- behind the call of Room
  have hnext : ∀ w2, Below w.heap.size w w2 → Hid (Sys B F w2 d M p fr mn L ∧ Stays B F w w2 ∧ BytesW w2 v b) := fun w2 hb2 => ⟨h.later hb2, Stays.of_below hb2 hBw hF, BytesW.keep hv (fun g hg => hb2.block g (by rcases hvb g hg with h3 | h3; exact hF g h3; omega)) hb2.size⟩
  have HNEXT := Lib.hid hnext
  obtain ⟨n, hn⟩ : ∃ n, n = L.stream.length := ⟨_, rfl⟩
  rw [← hn] at hlen
  rw [← hm] at h1 h2
  have HV := Lib.hid hvv
  have HN := Lib.hid hn
  have HM := Lib.hid hm
  have HVB := Lib.hid hvb
  have HOK := Lib.hid hok
  have HE0 := Lib.hid (show L.epoch ≤ 65535 from hE)
  have HSF := Lib.hid hsf
  have HROOM := Lib.hid hroom
  rw [hvv]
  clear hnext h hv hvb hok hn hm hR hsize hF hvv hsf hE hroom hbr
  go_enter Tryd.func37, Tryd.ntmps37
  go_wp2_with fail
  refine hrm.mono ?_
  rintro e w2 ⟨rfl, hb2⟩
  have hN2 := HNEXT.out w2 hb2
  have HSYS2 := Lib.hid hN2.out.1
  have HST2 := Lib.hid hN2.out.2.1
  have HV2 := Lib.hid hN2.out.2.2
  clear hrm hb2 hN2 HNEXT c9
  obtain ⟨ao, cap, v1, w3, ao2, cap2, w4, p4, hr1, hr2, hcap2, q4, f4, hs5, hy5⟩ := app_stream HSYS2.out HV2.out HVB.out (by rw [← HM.out]; exact h2) (by rw [← HN.out]; exact hlen)
  have c8 := HSYS2.out.cells.c8
  rw [hba] at c8
  obtain ⟨n2, hn2⟩ : ∃ n2, n2 = (L.stream ++ enc1 b).length := ⟨_, rfl⟩
  rw [← hn2] at hr2 hcap2 hs5 hy5
  rw [← HN.out] at p4 q4 hr1
  rw [← HM.out] at hr1
  rw [HV.out] at hr2
  have HN2 := Lib.hid hn2
  have hn2b : n2 = n + m + 2 := by rw [hn2, List.length_append, enc1_len, HN.out, HM.out]; omega
  have HN2B := Lib.hid hn2b
  obtain ⟨W5, hW5⟩ : ∃ W5, W5 = w4.setCell ⟨p, 4, none⟩ (.slice ao2 n2 cap2) := ⟨_, rfl⟩
  rw [← hW5] at hs5 hy5
  have HW5 := Lib.hid hW5
  have HS5 := Lib.hid (HST2.out.trans hs5)
  have HY5 := Lib.hid hy5
  obtain ⟨ao3, cap3, s3x⟩ := hy5.size'.c3
  have s3 : W5.cell? ⟨p, 3, none⟩ = some (.slice ao3 L.recs.length cap3) := s3x
  clear s3x
  have hy5d : Sys B F W5.drew d M p fr mn { L with stream := L.stream ++ enc1 b } := hy5.later (Below.refl _ _).drew
  have hv5 : BytesW W5.drew v b := by
    have hs5' := hs5
    exact BytesW.keep HV2.out (fun g hg => by
      rcases HVB.out g hg with h3 | h3
      · exact hs5'.blk g h3
      · exact hs5'.below.block g h3) hs5'.below.size
  have hcl := clone_bytes v b W5.drew hv5 (by rw [← HM.out]; exact h1) (by rw [← HM.out]; omega)
  rw [HV.out] at hcl
  have HYD := Lib.hid hy5d
  clear hn2 hn2b hW5 hs5 hy5 hy5d hv5
  have hpW5 : p < W5.drew.heap.size := HYD.out.lt.2.2.1
  have hrm : L.recs.length ≤ 100000 := hrl
  obtain ⟨rl, hrle⟩ : ∃ rl, rl = L.recs.length := ⟨_, rfl⟩
  rw [← hrle] at s3 hrm
  have HREC : Hid (∀ w6 x, Below W5.drew.heap.size W5.drew w6 → RecAt w6 (fun k => W5.drew.heap.size ≤ k ∧ k < w6.heap.size) x b → ∃ ao6 cap6 w7,
      (Builtin.append_ #[66, 66] 66 #[.slice ao3 rl cap3, .slice (some ⟨w6.heap.size, 0, none⟩) 1 1]).run Tryd.prog (w6.alloc (.cells #[x] 22)) = .ok (.slice ao6 (rl + 1) cap6) w7 ∧ rl + 1 ≤ cap6 ∧
      w6.cell? ⟨p, 3, none⟩ = some (.slice ao3 rl cap3) ∧ w7.cell? ⟨p, 3, none⟩ = some (.slice ao3 rl cap3) ∧ w7.frozen? ⟨p, 3, none⟩ = false ∧
      Hid (Stays B F w (w7.setCell ⟨p, 3, none⟩ (.slice ao6 (rl + 1) cap6)) ∧ Sys B F (w7.setCell ⟨p, 3, none⟩ (.slice ao6 (rl + 1) cap6)) d M p fr mn { L with stream := L.stream ++ enc1 b, recs := L.recs ++ [b] })) := by
    intro w6 x hb6 hx
    have hd : Stays B F W5 W5.drew := ⟨(Below.refl _ _).drew, fun _ _ => rfl⟩
    obtain ⟨ao6, cap6, w7, hr7, hcap7, hk6, hk7, hf7, hs7, hy7⟩ := app_recs HYD.out (show W5.drew.cell? ⟨p, 3, none⟩ = _ from s3) hb6 hx (show L.recs.length ≤ 100000 by omega)
    rw [show ({ L with stream := L.stream ++ enc1 b } : LogS).recs.length = rl from hrle.symm] at hr7 hcap7 hs7 hy7
    exact ⟨ao6, cap6, w7, hr7, hcap7, hk6, hk7, hf7, (HS5.out.trans hd).trans hs7, hy7⟩
  have HRL := Lib.hid hrle
  clear hrle hrl
  obtain ⟨L2, hL2⟩ : ∃ L2, L2 = L.add b := ⟨_, rfl⟩
  obtain ⟨K0, hK0⟩ : ∃ K0, K0 = L.stream.length / 60 := ⟨_, rfl⟩
  obtain ⟨N, hNN⟩ : ∃ N, N = chunks L.stream (enc1 b) := ⟨_, rfl⟩
  obtain ⟨PR, hPR⟩ : ∃ PR, PR = putsR M fr (L.add b) (L.stream.length / 60) (chunks L.stream (enc1 b)) := ⟨_, rfl⟩
  have HOKP : Hid (PR.2 = 0) := by show PR.2 = 0; rw [hPR]; exact HOK.out
  have HPR0 := Lib.hid hPR
  have HPR : Hid (PR = putsR M fr L2 K0 (K0 + N - K0)) := by show PR = _; rw [hPR, hL2, hK0, hNN, Nat.add_sub_cancel_left]
  have HL2 := Lib.hid hL2
  have HK0 := Lib.hid hK0
  have HCE : Hid (∀ k, K0 ≤ k → (k < K0 + N ↔ 60 * k < n2)) := fun k hk => by rw [HN2.out, hK0, hNN]; exact chunks_end k (by rw [← hK0]; exact hk)
  have HNB : Hid (N ≤ 100000) := by show N ≤ _; rw [hNN]; unfold chunks; have := HN2.out; have := HN2B.out; omega
  have HLS : Hid (L2.stream.length = n2) := by show L2.stream.length = n2; rw [hL2, HN2.out]; rfl
  have HLR : Hid (L2.recs.length = rl + 1) := by show L2.recs.length = rl + 1; rw [hL2, HRL.out]; show (L.recs ++ [b]).length = _; simp
  have HSF2 : Hid (L2.safe < 2) := by show L2.safe < 2; rw [hL2]; exact HSF.out
  have HE2 : Hid (L2.epoch ≤ 65535) := by show L2.epoch ≤ _; rw [hL2]; exact HE0.out
  have hn2m : n2 ≤ 12000 := by have := HN2B.out; have := HROOM.out; have := HN.out; have := HM.out; omega
  clear hL2 hK0 hNN hPR
  go_wp2_with (first
    | (at_builtin; refine Lib.wpList_append_run _ rfl _ _ _ _ rfl _ _ rfl rfl _ _ hr1 ?_)
    | (at_builtin; refine Lib.wpList_append_run _ rfl _ _ _ _ rfl _ _ rfl rfl _ _ hr2 ?_))
  rw [← HW5.out]
  clear hr1 hr2 p4 q4 f4 c8
  go_region_law
    (first
      | (go_simp; go_at_call 73; refine hcl.mono ?_; rintro e w6 ⟨hb6, x, rfl, hrec⟩; obtain ⟨xo, xc, hxe⟩ := row_slice hrec.1; subst hxe; have hp6 : p < w6.heap.size := Nat.lt_of_lt_of_le hpW5 hb6.size; obtain ⟨ao6, cap6, w7, hr7, hcap7, hk6, hk7, hf7, HY7⟩ := HREC.out _ _ hb6 hrec)
      | (refine step_append_run (by rfl) _ _ _ _ (by rfl) _ _ (by rfl) (by rfl) _ _ hr7 ?_))
  all_goals
    obtain ⟨W8, hW8⟩ : ∃ W8, W8 = w7.setCell ⟨p, 3, none⟩ (.slice ao6 (rl + 1) cap6) := ⟨_, rfl⟩
    have HY8 : Hid (Stays B F w W8 ∧ Sys B F W8 d M p fr mn { L with stream := L.stream ++ enc1 b, recs := L.recs ++ [b] }) := by show _ ∧ _; rw [hW8]; exact HY7.out
    rw [← hW8]
    have f7 := HY8.out.2.cells.fz 7
    have c7 := HY8.out.2.cells.c7
    have HY9 : Hid (Stays B F w (W8.setCell ⟨p, 7, none⟩ (.bool true)) ∧ Sys B F (W8.setCell ⟨p, 7, none⟩ (.bool true)) d M p fr mn (L.add b)) := by
      obtain ⟨g1, g2⟩ := HY8.out.2.set7 true
      exact ⟨HY8.out.1.trans g1, g2⟩
    obtain ⟨W9, hW9⟩ : ∃ W9, W9 = W8.setCell ⟨p, 7, none⟩ (.bool true) := ⟨_, rfl⟩
    rw [← hW9] at HY9
    have HW9 := Lib.hid hW9
    clear hW8 hW9 HY7 hf7 hk7 hk6 hr7 hcap7 hcl HREC hp6
    go_wp2_with fail
    rw [← HW9.out]
    clear f7 c7 HY8
    go_loopw [9] (fun z wr => ∃ (k : Nat) (M' : DiskM), z = .int .i64 (k : Int) ∧ K0 ≤ k ∧ k ≤ K0 + N ∧ Hid (PR = putsR M' fr L2 k (K0 + N - k)) ∧ Hid (Near M M' (k - K0)) ∧ Hid (Stays B F w wr) ∧ Hid (Sys B F wr d M' p fr mn L2)) (fun z _ => K0 + N - (intOf z).toNat)
    case atStart => exact ⟨K0, M, by rw [HK0.out, HN.out]; simp, Nat.le_refl _, Nat.le_add_right _ _, HPR.out, by show Near _ _ _; rw [Nat.sub_self]; exact Near.refl M, HY9.out.1, by show Sys _ _ _ _ _ _ _ _ _; rw [HL2.out]; exact HY9.out.2⟩
    case round =>
      obtain ⟨k, M', rfl, hk1, hk2, hE, hNr, hS, hY⟩ := hrel
      have hst' : M'.steps ≤ 1000000000 := by have := hNr.out.2.1; have := HNB.out; omega
      have hsi' : M'.since.length ≤ 1000000000 := by have := hNr.out.2.2; have := HNB.out; omega
      obtain ⟨ao4, cap4, c4⟩ := hY.out.size'.c4
      obtain ⟨ao8, cap8, c3⟩ := hY.out.size'.c3
      rw [HLS.out] at c4
      rw [HLR.out] at c3
      have hce := HCE.out k hk1
      have hkb : k ≤ 300000 := by have := HNB.out; have := HK0.out; have := HN.out; omega
      by_cases hlt : k < K0 + N
      · have hlt2 : 60 * k < n2 := hce.1 hlt
        have hcall := put_any B F k wr p d fr mn M' L2 hY.out (by rw [HLS.out]; exact hlt2) (by rw [HLS.out]; omega) HSF2.out HE2.out hfr hst' hsi'
        by_cases hC : putC M' fr L2 k = 0
        · have HGO : Hid (PR = putsR (putM M' fr L2 k) fr L2 (k + 1) (K0 + N - (k + 1))) := hE.out.trans (putsR_step hlt hC)
          have HNN : Hid (Near M (putM M' fr L2 k) (k + 1 - K0)) := by
            show Near _ _ _
            rw [show k + 1 - K0 = k - K0 + 1 by omega]
            exact hNr.out.wr _ _
          rw [hC, errV_zero] at hcall
          generalize putM M' fr L2 k = M3 at *
          clear hC hE hNr hst' hsi' hce
          go_wp2_with fail
          refine hcall.mono ?_
          rintro e w9 ⟨rfl, hs9, hy9⟩
          have HS9 := Lib.hid (hS.out.trans hs9)
          have HY10 := Lib.hid hy9
          clear hcall hs9 hy9 hS hY c3 c4
          go_wp2_with fail
          go_roundw
          case rel => exact ⟨k + 1, M3, by go_num, by omega, by omega, HGO, HNN, HS9, HY10⟩
          case measure => simp [intOf]; omega
        · exact absurd (by rw [← hE.out]; exact HOKP.out) (putsR_bad hlt hC)
      · have hlt2 : ¬ 60 * k < n2 := fun h => hlt (hce.2 h)
        have hke : k = K0 + N := by omega
        have HPE : Hid ((putsR M fr (L.add b) (L.stream.length / 60) (chunks L.stream (enc1 b))).1 = M') := by show _ = M'; rw [← HPR0.out, hE.out, hke, Nat.sub_self]; rfl
        have HYL : Hid (Sys B F wr d M' p fr mn (L.add b)) := by show Sys _ _ _ _ _ _ _ _ _; rw [← HL2.out]; exact hY.out
        have hd : decide ((k : Int) * 60 < (n2 : Int)) = false := decide_eq_false (by omega)
        clear hce hE hke
        go_wp2_with fail
        all_goals first
          | (exfalso; omega)
          | exact bodyPost_ret (v := .tuple #[.int .i64 (rl : Int), .nilIface]) (by simp [results, Tryd.results37, go_sem]) rfl ⟨by rw [HRL.out], hS.out, by rw [HPE.out]; exact HYL.out⟩
end Go.Proofs.YtldpflijgbcbhaaDoor.lg
