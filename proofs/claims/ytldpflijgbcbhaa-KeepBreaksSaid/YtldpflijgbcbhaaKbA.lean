/- (*log.Log).Append walked on any disk: one that stops, a log whose last chunk stands alone. -/
import Derived.Test.YtldpflijgbcbhaaLgX
import Derived.Test.YtldpflijgbcbhaaKbL
import Derived.Deep.CutBlock
import Derived.Deep.DeepCutAuto
namespace Go.Proofs.Ytldpflijgbcbhaa.lg
open Go.RowKit

/-- what Append leaves: C: 0, or why it failed -/
def AppPost (B : Nat) (F : Nat → Prop) (w : World) (d p fr mn n : Nat) (C : Int) (M' : DiskM) (L' : LogS) (e : Ending) (w' : World) : Prop :=
  e = .returned (.tuple #[.int .i64 (if C = 0 then (n : Int) else 0), errV C]) ∧ Stays B F w w' ∧ (C = 0 → Sys B F w' d M' p fr mn L') ∧ DiskF B F w' d M'
theorem AppPost.ok {B : Nat} {F : Nat → Prop} {w w' : World} {d p fr mn n : Nat} {M' : DiskM} {L' : LogS} (hs : Stays B F w w') (hy : Sys B F w' d M' p fr mn L') : AppPost B F w d p fr mn n 0 M' L' (.returned (.tuple #[.int .i64 (n : Int), .nilIface])) w' := ⟨by rw [if_pos rfl, errV_zero], hs, fun _ => hy, hy.diskF⟩
theorem AppPost.bad {B : Nat} {F : Nat → Prop} {w w' : World} {d p fr mn n : Nat} {C : Int} {M' : DiskM} {L' : LogS} (hC : C ≠ 0) (hs : Stays B F w w') (hd : DiskF B F w' d M') : AppPost B F w d p fr mn n C M' L' (.returned (.tuple #[.int .i64 0, errV C])) w' := ⟨by rw [if_neg hC], hs, fun h => absurd h hC, hd⟩
theorem bared_eq (L : LogS) : L.bared.stream = L.stream ∧ L.bared.recs = L.recs ∧ L.bared.epoch = L.epoch ∧ L.bared.bare = false ∧ L.bared.broken = L.broken ∧ (L.safe < 2 → L.bared.safe < 2) := by
  unfold LogS.bared
  cases hb : L.bare with
  | true => rw [if_pos rfl]; exact ⟨rfl, rfl, rfl, rfl, rfl, fun h => by show 1 - L.safe < 2; omega⟩
  | false => rw [if_neg (by simp)]; exact ⟨rfl, rfl, rfl, hb, rfl, fun h => h⟩
theorem Sys.row_caps {B : Nat} {F : Nat → Prop} {w : World} {d p fr mn : Nat} {M : DiskM} {L : LogS} (h : Sys B F w d M p fr mn L) : (∃ ao cap, w.cell? ⟨p, 3, none⟩ = some (.slice ao L.recs.length cap) ∧ L.recs.length ≤ cap) ∧ (∃ ao cap, w.cell? ⟨p, 4, none⟩ = some (.slice ao L.stream.length cap) ∧ L.stream.length ≤ cap) := by
  obtain ⟨S, T, h⟩ := h
  obtain ⟨rv, sv, rs, hl⟩ := h.log
  obtain ⟨a1, b1, e1, l1⟩ := row_slice' hl.stream
  obtain ⟨a2, b2, e2, l2⟩ := row_slice' hl.recs
  exact ⟨⟨a2, b2, by rw [← e2]; exact hl.self.c3, l2⟩, ⟨a1, b1, by rw [← e1]; exact hl.self.c4, l1⟩⟩
theorem putsR_fell {M : DiskM} {fr : Nat} {L : LogS} {k e : Nat} (h : k < e) (hc : putC M fr L k ≠ 0) : putsR M fr L k (e - k) = (putM M fr L k, putC M fr L k) := by
  rw [show e - k = (e - (k + 1)) + 1 by omega, putsR, if_neg hc]
theorem only_drewN {S : Nat → Prop} {a b : World} (h : Only S a b) (n : Nat) : Only S a (b.drewN n) := ⟨h.os, h.tape, h.output, h.size, h.block⟩
theorem near_two (M : DiskM) : Near M M 2 := ⟨rfl, Nat.le_add_right _ _, Nat.le_add_right _ _⟩
theorem Near.one {M : DiskM} {fr : Nat} {L : LogS} {k : Nat} : Near M (putM M fr L k) 1 := (Near.refl M).wr _ _

set_option maxRecDepth 100000 in
set_option maxHeartbeats 8000000 in
theorem append_any (B : Nat) (F : Nat → Prop) (v : Value) (b : List UInt8) (w : World) (p d fr mn : Nat) (M : DiskM) (L : LogS) (h : Sys B F w d M p fr mn L) (hv : BytesW w v b) (hvb : ∀ g, v.ownBlock = some g → F g ∨ g < B)
    (hbr : L.broken = false) (h1 : 1 ≤ b.length) (h2 : b.length ≤ 200) (hroom : L.stream.length + b.length + 2 ≤ 60 * (mn - 2)) (hmn : mn ≤ 200) (hsf : L.safe < 2) (hE : L.epoch ≤ 65535) (hfr : fr ≤ 1000) (hrl : L.recs.length ≤ 100000) (hst : M.steps ≤ 10000000) (hsi : M.since.length ≤ 10000000)
    (hbb : L.bare = true → L.stream.length % 60 ≠ 0) :
    Calls Try.prog 21 #[.pointer (some ⟨p, 0, none⟩), v] w (AppPost B F w d p fr mn L.recs.length (appR M fr L b).2 (appR M fr L b).1 (L.bared.add b)) := by
  obtain ⟨m, hm⟩ : ∃ m, m = b.length := ⟨_, rfl⟩
  obtain ⟨vo, vc, hvv⟩ : ∃ vo vc, v = .slice vo m vc := by obtain ⟨sp, c, e, _⟩ := hv; exact ⟨sp, c, by rw [hm]; exact e⟩
  have hlen : L.stream.length ≤ 12000 := by omega
  have hsize := h.size'
  have hrm := room_any w p mn L.stream.length L.recs.length hsize hmn hlen
  obtain ⟨R, hR⟩ : ∃ R, R = 60 * (mn - 2) - L.stream.length := ⟨_, rfl⟩
  rw [← hR] at hrm
  have hRm : m + 2 ≤ R := by omega
  have c9 := h.cells.c9
  rw [hbr] at c9
  have hF : ∀ x, F x → x < w.heap.size := by obtain ⟨S, T, hs⟩ := h; exact hs.f_
  have hBw : B ≤ w.heap.size := h.lt.2.2.2
  -- behind the call of Room
  have hnext : ∀ w2, Below w.heap.size w w2 → Hid (Sys B F w2 d M p fr mn L ∧ Stays B F w w2 ∧ BytesW w2 v b) := fun w2 hb2 => ⟨h.later hb2, Stays.of_below hb2 hBw hF, BytesW.keep hv (fun g hg => hb2.block g (by rcases hvb g hg with h3 | h3; exact hF g h3; omega)) hb2.size⟩
  have HNEXT := Lib.hid hnext
  obtain ⟨n, hn⟩ : ∃ n, n = L.stream.length := ⟨_, rfl⟩
  rw [← hn] at hlen
  rw [← hm] at h1 h2
  have HV := Lib.hid hvv
  have HV0 := Lib.hid hv
  have HBBB := Lib.hid hbb
  have HFB : Hid (B ≤ w.heap.size ∧ ∀ x, F x → x < w.heap.size) := ⟨hBw, hF⟩
  have HN := Lib.hid hn
  have HM := Lib.hid hm
  have HVB := Lib.hid hvb
  have HE0 := Lib.hid (show L.epoch ≤ 65535 from hE)
  have HSF := Lib.hid hsf
  have HROOM := Lib.hid hroom
  rw [hvv]
  clear hnext h hv hvb hn hm hR hsize hF hvv hsf hE hroom hbr hbb
  go_enter Try.func21, Try.ntmps21
  go_wp2_with fail
  refine hrm.mono ?_
  rintro e w2 ⟨rfl, hb2⟩
  have hN2 := HNEXT.out w2 hb2
  have HSYS2 := Lib.hid hN2.out.1
  have HST2 := Lib.hid hN2.out.2.1
  have HV2 := Lib.hid hN2.out.2.2
  clear hrm hb2 hN2 HNEXT c9
  have c8 := HSYS2.out.cells.c8
  obtain ⟨ao0, cap0, c40⟩ := HSYS2.out.size'.c4
  rw [← HN.out] at c40
  obtain ⟨bb, hbbe⟩ : ∃ bb, bb = L.bare := ⟨_, rfl⟩
  rw [← hbbe] at c8
  have HBE := Lib.hid hbbe
  clear hbbe
  go_upto_if 44 with (fail)
  go_cut [7] (fun _ wx => ∃ M1, Hid (bareR M fr L = (M1, 0)) ∧ Hid (Near M M1 2) ∧ Hid (Stays B F w wx) ∧ Hid (Sys B F wx d M1 p fr mn L.bared))
  case first =>
    cases bb with
    | false =>
      have e1 : bareR M fr L = (M, 0) := by unfold bareR; rw [← HBE.out, if_neg (by simp)]
      have e2 : L.bared = L := by unfold LogS.bared; rw [← HBE.out, if_neg (by simp)]
      have HRES : Hid (∃ M1, Hid (bareR M fr L = (M1, 0)) ∧ Hid (Near M M1 2) ∧ Hid (Stays B F w w2) ∧ Hid (Sys B F w2 d M1 p fr mn L.bared)) := ⟨M, e1, near_two M, HST2.out, by rw [e2]; exact HSYS2.out⟩
      clear e1 e2 c8 c40
      go_wp2_with fail
      go_meet
      exact HRES.out
    | true =>
      have e1 : bareR M fr L = if putC M fr L (L.stream.length / 60) = 0 then ((putM M fr L (L.stream.length / 60)).fl, (putM M fr L (L.stream.length / 60)).fcode) else (putM M fr L (L.stream.length / 60), putC M fr L (L.stream.length / 60)) := by
        unfold bareR; rw [← HBE.out, if_pos rfl]
      have e2 : L.bared = { L with safe := 1 - L.safe, bare := false } := by unfold LogS.bared; rw [← HBE.out, if_pos rfl]
      have h60 : n % 60 ≠ 0 := by rw [HN.out]; exact HBBB.out HBE.out.symm
      have hput := put_any B F (n / 60) w2 p d fr mn M L HSYS2.out (by rw [← HN.out]; omega) (by rw [← HN.out]; omega) HSF.out HE0.out hfr (by omega) (by omega)
      rw [← HN.out] at e1
      have HE1 := Lib.hid e1
      have HE2 := Lib.hid e2
      have hkI : ((n / 60 : Nat) : Int) = (n : Int) / 60 := by omega
      rw [hkI] at hput
      clear e1 e2 c8 c40 h60 hkI
      by_cases hC : putC M fr L (n / 60) = 0
      · rw [hC, errV_zero] at hput
        have HNR : Hid (Near M (putM M fr L (n / 60)) 1) := Near.one
        have HE3 : Hid (bareR M fr L = ((putM M fr L (n / 60)).fl, (putM M fr L (n / 60)).fcode)) := by show _ = _; rw [HE1.out, if_pos hC]
        clear HE1 hC
        generalize putM M fr L (n / 60) = M3 at *
        go_wp2_with fail
        refine hput.mono ?_
        rintro e w3 ⟨rfl, hs3, hy3⟩
        have hfl := hy3.disk_step (fun G hG hd => flushF B G w3 d M3 hd (by have := HNR.out.2.1; omega))
        have c0 := hy3.cells.c0
        have HY3 := Lib.hid hy3
        have HS3 := Lib.hid (HST2.out.trans hs3)
        clear hput hs3 hy3
        by_cases hs : M3.stopped = true
        · have f1 : M3.fl = M3 := by rw [DiskM.fl, if_pos hs]
          have f2 : M3.fcode = 7 := by rw [DiskM.fcode, if_pos hs]
          rw [f1, f2, errV_some (by decide)] at hfl
          have HAP : Hid (appR M fr L b = (M3, 7)) := by
            show _ = _
            unfold appR
            rw [HE3.out, f1, f2, if_neg (by simp)]
          clear HE3 f1 f2 hs
          go_wp2_with fail
          refine hfl.mono ?_
          rintro e w4 ⟨rfl, hs4, hy4⟩
          have f9 := hy4.cells.fz 9
          have c9' := hy4.cells.c9
          have HR := Lib.hid hy4.set9
          have HS4 := Lib.hid (HS3.out.trans hs4)
          clear hfl hs4 hy4 c0
          go_wp2_with fail
          refine bodyPost_ret (v := .tuple #[.int .i64 0, .iface 75 (.int .i64 7)]) (by simp [results, Try.results21, go_sem]) rfl ?_
          rw [HAP.out]
          have hbad : AppPost B F w d p fr mn L.recs.length 7 M3 (L.bared.add b) (.returned (.tuple #[.int .i64 0, errV 7])) _ := AppPost.bad (by decide) (HS4.out.trans HR.out.1) HR.out.2.diskF
          rw [errV_some (by decide)] at hbad
          exact hbad
        · have f1 : M3.fl = M3.flush := by rw [DiskM.fl, if_neg hs]
          have f2 : M3.fcode = 0 := by rw [DiskM.fcode, if_neg hs]
          rw [f1, f2] at HE3
          rw [f1, f2, errV_zero] at hfl
          have HNF : Hid (Near M M3.flush 2) := ⟨HNR.out.1, by have := HNR.out.2.1; show M3.steps + 1 ≤ _; omega, Nat.zero_le _⟩
          clear f1 f2 hs
          go_wp2_with fail
          refine hfl.mono ?_
          rintro e w4 ⟨rfl, hs4, hy4⟩
          obtain ⟨sf, hsfe⟩ : ∃ sf, sf = L.safe := ⟨_, rfl⟩
          have hsl : sf < 2 := by rw [hsfe]; exact HSF.out
          have hk := hy4.cells
          have c6 := hk.c6
          have c8 := hk.c8
          have f6 := hk.fz 6
          have f8 := hk.fz 8
          rw [← hsfe] at c6
          obtain ⟨hs6, hy6⟩ := hy4.set6 (1 - sf)
          obtain ⟨hs8, hy8⟩ := hy6.set8 false
          have hcast : ((1 - sf : Nat) : Int) = 1 - (sf : Int) := by omega
          rw [hcast] at hs6 hs8 hy8
          have HR : Hid (Stays B F w ((w4.setCell ⟨p, 6, none⟩ (.int .i64 (1 - (sf : Int)))).setCell ⟨p, 8, none⟩ (.bool false)) ∧ Sys B F ((w4.setCell ⟨p, 6, none⟩ (.int .i64 (1 - (sf : Int)))).setCell ⟨p, 8, none⟩ (.bool false)) d M3.flush p fr mn L.bared) := by
            show _ ∧ _
            rw [HE2.out]
            rw [← hsfe]
            exact ⟨(HS3.out.trans hs4).trans (hs6.trans hs8), hy8⟩
          clear hfl hs4 hy4 c0 hk hsfe hs6 hy6 hs8 hy8 hcast
          go_wp2_with fail
          go_meet
          exact ⟨M3.flush, HE3, HNF, HR.out.1, HR.out.2⟩
      · have HAP : Hid (appR M fr L b = (putM M fr L (n / 60), putC M fr L (n / 60))) := by
          show _ = _
          unfold appR
          rw [HE1.out, if_neg hC]
          exact if_neg hC
        clear HE1
        generalize putM M fr L (n / 60) = M3 at *
        generalize putC M fr L (n / 60) = C at *
        have hvC := errV_some hC
        rw [hvC] at hput
        go_wp2_with fail
        refine hput.mono ?_
        rintro e w4 ⟨rfl, hs4, hy4⟩
        have f9 := hy4.cells.fz 9
        have c9' := hy4.cells.c9
        have HR := Lib.hid hy4.set9
        have HS4 := Lib.hid (HST2.out.trans hs4)
        have HBAD : Hid (∀ w', w' = w4.setCell ⟨p, 9, none⟩ (.bool true) → AppPost B F w d p fr mn L.recs.length C M3 (L.bared.add b) (.returned (.tuple #[.int .i64 0, .iface 75 (.int .i64 C)])) w') := by
          rintro w' rfl
          have hbad : AppPost B F w d p fr mn L.recs.length C M3 (L.bared.add b) (.returned (.tuple #[.int .i64 0, errV C])) _ := AppPost.bad hC (HS4.out.trans HR.out.1) HR.out.2.diskF
          rw [hvC] at hbad
          exact hbad
        clear hput hs4 hy4 hvC hC
        go_wp2_with fail
        refine bodyPost_ret (v := .tuple #[.int .i64 0, .iface 75 (.int .i64 C)]) (by simp [results, Try.results21, go_sem]) rfl ?_
        rw [HAP.out]
        exact HBAD.out _ rfl
  case rest =>
    obtain ⟨M1, hbrR, hnr1, hs2', hy2'⟩ := hcut
    obtain ⟨w2', hw2'⟩ : ∃ wq : World, wq = wc := ⟨_, rfl⟩
    subst hw2'
    clear c8 c40 HBE bb
    obtain ⟨L1, hL1⟩ : ∃ L1, L1 = L.bared := ⟨_, rfl⟩
    have hq := bared_eq L
    rw [← hL1] at hq hy2'
    obtain ⟨q1, q2, q3, q4, q5, q6⟩ := hq
    have HAPR : Hid (appR M fr L b = putsR M1 fr (L1.add b) (L1.stream.length / 60) (chunks L1.stream (enc1 b))) := by
      show _ = _
      unfold appR
      rw [hbrR.out, if_pos rfl, ← hL1, q1]
    have HL1 := Lib.hid hL1
    have HQ2 := Lib.hid q2
    have HN := Lib.hid (show n = L1.stream.length by rw [q1]; exact HN.out)
    have HSF := Lib.hid (q6 HSF.out)
    have HE0 := Lib.hid (show L1.epoch ≤ 65535 by rw [q3]; exact HE0.out)
    have HROOM := Lib.hid (show L1.stream.length + b.length + 2 ≤ 60 * (mn - 2) by rw [q1]; exact HROOM.out)
    have hrl1 : L1.recs.length ≤ 100000 := by rw [q2]; exact hrl
    have hst1 : M1.steps ≤ 100000000 := by have := hnr1.out.2.1; omega
    have hsi1 : M1.since.length ≤ 100000000 := by have := hnr1.out.2.2; omega
    have hba := q4
    have HSYS2 := hy2'
    have HST2 := hs2'
    have HV2 : Hid (BytesW w2' v b) := BytesW.keep HV0.out (fun g hg => by
      rcases HVB.out g hg with h3 | h3
      · exact hs2'.out.blk g h3
      · exact hs2'.out.below.block g h3) hs2'.out.below.size
    clear q1 q2 q3 q4 q5 q6 hL1 hnr1 hy2' hs2' hrl hst hsi hbrR
    obtain ⟨ao, cap, v1, w3, ao2, cap2, w4, p4, hr1, hr2, hcap2, q4, f4, hs5, hy5⟩ := app_stream HSYS2.out HV2.out HVB.out (by rw [← HM.out]; exact h2) (by rw [← HN.out]; exact hlen)
    obtain ⟨n2, hn2⟩ : ∃ n2, n2 = (L1.stream ++ enc1 b).length := ⟨_, rfl⟩
    rw [← hn2] at hr2 hcap2 hs5 hy5
    rw [← HN.out] at p4 q4 hr1
    rw [← HM.out] at hr1
    rw [HV.out] at hr2
    have HN2 := Lib.hid hn2
    have hn2b : n2 = n + m + 2 := by rw [hn2, List.length_append, enc1_len, HN.out, HM.out]; omega
    have HN2B := Lib.hid hn2b
    obtain ⟨W5, hW5⟩ : ∃ W5, W5 = w4.setCell ⟨p, 4, none⟩ (.slice ao2 n2 cap2) := ⟨_, rfl⟩
    rw [← hW5] at hs5 hy5
    have HW5 := Lib.hid hW5
    have HS5 := Lib.hid (HST2.out.trans hs5)
    have HY5 := Lib.hid hy5
    obtain ⟨ao3, cap3, s3x⟩ := hy5.size'.c3
    have s3 : W5.cell? ⟨p, 3, none⟩ = some (.slice ao3 L1.recs.length cap3) := s3x
    clear s3x
    have hy5d : Sys B F W5.drew d M1 p fr mn { L1 with stream := L1.stream ++ enc1 b } := hy5.later (Below.refl _ _).drew
    have hv5 : BytesW W5.drew v b := by
      have hs5' := hs5
      exact BytesW.keep HV2.out (fun g hg => by
        rcases HVB.out g hg with h3 | h3
        · exact hs5'.blk g h3
        · exact hs5'.below.block g h3) hs5'.below.size
    have hcl := clone_bytes v b W5.drew hv5 (by rw [← HM.out]; exact h1) (by rw [← HM.out]; omega)
    rw [HV.out] at hcl
    have HYD := Lib.hid hy5d
    clear hn2 hn2b hW5 hs5 hy5 hy5d hv5
    have hpW5 : p < W5.drew.heap.size := HYD.out.lt.2.2.1
    have hrm : L1.recs.length ≤ 100000 := hrl1
    obtain ⟨rl, hrl1e⟩ : ∃ rl, rl = L1.recs.length := ⟨_, rfl⟩
    rw [← hrl1e] at s3 hrm
    have HREC : Hid (∀ w6 x, Below W5.drew.heap.size W5.drew w6 → RecAt w6 (fun k => W5.drew.heap.size ≤ k ∧ k < w6.heap.size) x b → ∃ ao6 cap6 w7,
        (Builtin.append_ #[56, 56] 56 #[.slice ao3 rl cap3, .slice (some ⟨w6.heap.size, 0, none⟩) 1 1]).run Try.prog (w6.alloc (.cells #[x] 23)) = .ok (.slice ao6 (rl + 1) cap6) w7 ∧ rl + 1 ≤ cap6 ∧
        w6.cell? ⟨p, 3, none⟩ = some (.slice ao3 rl cap3) ∧ w7.cell? ⟨p, 3, none⟩ = some (.slice ao3 rl cap3) ∧ w7.frozen? ⟨p, 3, none⟩ = false ∧
        Hid (Stays B F w (w7.setCell ⟨p, 3, none⟩ (.slice ao6 (rl + 1) cap6)) ∧ Sys B F (w7.setCell ⟨p, 3, none⟩ (.slice ao6 (rl + 1) cap6)) d M1 p fr mn { L1 with stream := L1.stream ++ enc1 b, recs := L1.recs ++ [b] })) := by
      intro w6 x hb6 hx
      have hd : Stays B F W5 W5.drew := ⟨(Below.refl _ _).drew, fun _ _ => rfl⟩
      obtain ⟨ao6, cap6, w7, hr7, hcap7, hk6, hk7, hf7, hs7, hy7⟩ := app_recs HYD.out (show W5.drew.cell? ⟨p, 3, none⟩ = _ from s3) hb6 hx (show L1.recs.length ≤ 100000 by omega)
      rw [show ({ L1 with stream := L1.stream ++ enc1 b } : LogS).recs.length = rl from hrl1e.symm] at hr7 hcap7 hs7 hy7
      exact ⟨ao6, cap6, w7, hr7, hcap7, hk6, hk7, hf7, (HS5.out.trans hd).trans hs7, hy7⟩
    have HRL := Lib.hid hrl1e
    clear hrl1e hrl1
    obtain ⟨L2, hL2⟩ : ∃ L2, L2 = L1.add b := ⟨_, rfl⟩
    obtain ⟨K0, hK0⟩ : ∃ K0, K0 = L1.stream.length / 60 := ⟨_, rfl⟩
    obtain ⟨N, hNN⟩ : ∃ N, N = chunks L1.stream (enc1 b) := ⟨_, rfl⟩
    obtain ⟨PR, hPR⟩ : ∃ PR, PR = putsR M1 fr (L1.add b) (L1.stream.length / 60) (chunks L1.stream (enc1 b)) := ⟨_, rfl⟩
    have HPR0 := Lib.hid hPR
    have HPR : Hid (PR = putsR M1 fr L2 K0 (K0 + N - K0)) := by show PR = _; rw [hPR, hL2, hK0, hNN, Nat.add_sub_cancel_left]
    have HL2 := Lib.hid hL2
    have HK0 := Lib.hid hK0
    have HCE : Hid (∀ k, K0 ≤ k → (k < K0 + N ↔ 60 * k < n2)) := fun k hk => by rw [HN2.out, hK0, hNN]; exact chunks_end k (by rw [← hK0]; exact hk)
    have HNB : Hid (N ≤ 100000) := by show N ≤ _; rw [hNN]; unfold chunks; have := HN2.out; have := HN2B.out; omega
    have HLS : Hid (L2.stream.length = n2) := by show L2.stream.length = n2; rw [hL2, HN2.out]; rfl
    have HLR : Hid (L2.recs.length = rl + 1) := by show L2.recs.length = rl + 1; rw [hL2, HRL.out]; show (L1.recs ++ [b]).length = _; simp
    have HSF2 : Hid (L2.safe < 2) := by show L2.safe < 2; rw [hL2]; exact HSF.out
    have HE2 : Hid (L2.epoch ≤ 65535) := by show L2.epoch ≤ _; rw [hL2]; exact HE0.out
    have hn2m : n2 ≤ 12000 := by have := HN2B.out; have := HROOM.out; have := HN.out; have := HM.out; omega
    clear hL2 hK0 hNN hPR
    go_wp2_with (first
      | (at_builtin; refine Lib.wpList_append_run _ rfl _ _ _ _ rfl _ _ rfl rfl _ _ hr1 ?_)
      | (at_builtin; refine Lib.wpList_append_run _ rfl _ _ _ _ rfl _ _ rfl rfl _ _ hr2 ?_))
    rw [← HW5.out]
    clear hr1 hr2 p4 q4 f4
    go_region_law
      (first
        | (go_simp; go_at_call 55; refine hcl.mono ?_; rintro e w6 ⟨hb6, x, rfl, hrec⟩; obtain ⟨xo, xc, hxe⟩ := row_slice hrec.1; subst hxe; have hp6 : p < w6.heap.size := Nat.lt_of_lt_of_le hpW5 hb6.size; obtain ⟨ao6, cap6, w7, hr7, hcap7, hk6, hk7, hf7, HY7⟩ := HREC.out _ _ hb6 hrec)
        | (refine step_append_run (by rfl) _ _ _ _ (by rfl) _ _ (by rfl) (by rfl) _ _ hr7 ?_))
    all_goals
      obtain ⟨W8, hW8⟩ : ∃ W8, W8 = w7.setCell ⟨p, 3, none⟩ (.slice ao6 (rl + 1) cap6) := ⟨_, rfl⟩
      have HY8 : Hid (Stays B F w W8 ∧ Sys B F W8 d M1 p fr mn { L1 with stream := L1.stream ++ enc1 b, recs := L1.recs ++ [b] }) := by show _ ∧ _; rw [hW8]; exact HY7.out
      rw [← hW8]
      have f7 := HY8.out.2.cells.fz 7
      have c7 := HY8.out.2.cells.c7
      have HY9 : Hid (Stays B F w (W8.setCell ⟨p, 7, none⟩ (.bool true)) ∧ Sys B F (W8.setCell ⟨p, 7, none⟩ (.bool true)) d M1 p fr mn (L1.add b)) := by
        obtain ⟨g1, g2⟩ := HY8.out.2.set7 true
        exact ⟨HY8.out.1.trans g1, g2⟩
      obtain ⟨W9, hW9⟩ : ∃ W9, W9 = W8.setCell ⟨p, 7, none⟩ (.bool true) := ⟨_, rfl⟩
      rw [← hW9] at HY9
      have HW9 := Lib.hid hW9
      clear hW8 hW9 HY7 hf7 hk7 hk6 hr7 hcap7 hcl HREC hp6
      go_wp2_with fail
      rw [← HW9.out]
      clear f7 c7 HY8
      go_loopw [9] (fun z wr => ∃ (k : Nat) (M' : DiskM), z = .int .i64 (k : Int) ∧ K0 ≤ k ∧ k ≤ K0 + N ∧ Hid (PR = putsR M' fr L2 k (K0 + N - k)) ∧ Hid (Near M1 M' (k - K0)) ∧ Hid (Stays B F w wr) ∧ Hid (Sys B F wr d M' p fr mn L2)) (fun z _ => K0 + N - (intOf z).toNat)
      case atStart => exact ⟨K0, M1, by rw [HK0.out, HN.out]; simp, Nat.le_refl _, Nat.le_add_right _ _, HPR.out, by show Near _ _ _; rw [Nat.sub_self]; exact Near.refl M1, HY9.out.1, by show Sys _ _ _ _ _ _ _ _ _; rw [HL2.out]; exact HY9.out.2⟩
      case round =>
        obtain ⟨k, M', rfl, hk1, hk2, hE, hNr, hS, hY⟩ := hrel
        have hst' : M'.steps ≤ 1000000000 := by have := hNr.out.2.1; have := HNB.out; omega
        have hsi' : M'.since.length ≤ 1000000000 := by have := hNr.out.2.2; have := HNB.out; omega
        obtain ⟨ao4, cap4, c4⟩ := hY.out.size'.c4
        obtain ⟨ao8, cap8, c3⟩ := hY.out.size'.c3
        rw [HLS.out] at c4
        rw [HLR.out] at c3
        have hce := HCE.out k hk1
        have hkb : k ≤ 300000 := by have := HNB.out; have := HK0.out; have := HN.out; omega
        by_cases hlt : k < K0 + N
        · have hlt2 : 60 * k < n2 := hce.1 hlt
          have hcall := put_any B F k wr p d fr mn M' L2 hY.out (by rw [HLS.out]; exact hlt2) (by rw [HLS.out]; omega) HSF2.out HE2.out hfr hst' hsi'
          by_cases hC : putC M' fr L2 k = 0
          · have HGO : Hid (PR = putsR (putM M' fr L2 k) fr L2 (k + 1) (K0 + N - (k + 1))) := hE.out.trans (putsR_step hlt hC)
            have HNN : Hid (Near M1 (putM M' fr L2 k) (k + 1 - K0)) := by
              show Near _ _ _
              rw [show k + 1 - K0 = k - K0 + 1 by omega]
              exact hNr.out.wr _ _
            rw [hC, errV_zero] at hcall
            generalize putM M' fr L2 k = M3 at *
            clear hC hE hNr hst' hsi' hce
            go_wp2_with fail
            refine hcall.mono ?_
            rintro e w9 ⟨rfl, hs9, hy9⟩
            have HS9 := Lib.hid (hS.out.trans hs9)
            have HY10 := Lib.hid hy9
            clear hcall hs9 hy9 hS hY c3 c4
            go_wp2_with fail
            go_roundw
            case rel => exact ⟨k + 1, M3, by go_num, by omega, by omega, HGO, HNN, HS9, HY10⟩
            case measure => simp [intOf]; omega
          · have HPE : Hid (appR M fr L b = (putM M' fr L2 k, putC M' fr L2 k)) := by show _ = _; rw [HAPR.out, ← HPR0.out, hE.out]; exact putsR_fell hlt hC
            generalize putM M' fr L2 k = M3 at *
            generalize putC M' fr L2 k = C at *
            have hvC := errV_some hC
            rw [hvC] at hcall
            have HBAD : Hid (∀ w9 w', Stays B F w w9 → Sys B F w9 d M3 p fr mn L2 → Only (fun k => k = p) w9 w' → AppPost B F w d p fr mn L.recs.length C M3 (L.bared.add b) (.returned (.tuple #[.int .i64 0, .iface 75 (.int .i64 C)])) w') := by
              intro w9 w' hs9 hy9 ho
              obtain ⟨k1, k2⟩ := hy9.wreck ho
              have hbad : AppPost B F w d p fr mn L.recs.length C M3 (L.bared.add b) (.returned (.tuple #[.int .i64 0, errV C])) w' := AppPost.bad hC (hs9.trans k1) k2
              rw [hvC] at hbad
              exact hbad
            clear hE hNr hst' hsi' hce hvC hC
            go_wp2_with fail
            refine hcall.mono ?_
            rintro e w9 ⟨rfl, hs9, hy9⟩
            obtain ⟨⟨ao3, cap3', c3, hcp3⟩, ⟨ao4, cap4', c4, hcp4⟩⟩ := hy9.row_caps
            rw [HLR.out] at c3 hcp3
            rw [HLS.out] at c4 hcp4
            have f9 := hy9.cells.fz 9
            have c9 := hy9.cells.c9
            have f3 := hy9.cells.fz 3
            have f4 := hy9.cells.fz 4
            have HS9 := Lib.hid (hS.out.trans hs9)
            have HY9 := Lib.hid hy9
            have hn2b : n2 = n + m + 2 := HN2B.out
            clear hcall hs9 hy9 hS hY
            go_wp2_with fail
            go_big_region
            all_goals go_wp2_with fail
            all_goals go_big_region
            all_goals go_wp2_with fail
            all_goals refine bodyPost_ret (v := .tuple #[.int .i64 0, .iface 75 (.int .i64 C)]) (by simp [results, Try.results21, go_sem]) rfl ?_
            all_goals rw [HPE.out]
            all_goals exact HBAD.out _ _ HS9.out HY9.out (by
              repeat (first
                | exact Only.refl _ _
                | refine Only.setCell ?_ (show p = p from rfl) _
                | refine Only.drew ?_
                | refine only_drewN ?_ _))
        · have hlt2 : ¬ 60 * k < n2 := fun h => hlt (hce.2 h)
          have hke : k = K0 + N := by omega
          have HPE : Hid (appR M fr L b = (M', 0)) := by show _ = _; rw [HAPR.out, ← HPR0.out, hE.out, hke, Nat.sub_self]; rfl
          have HYL : Hid (Sys B F wr d M' p fr mn (L.bared.add b)) := by show Sys _ _ _ _ _ _ _ _ _; rw [← HL1.out, ← HL2.out]; exact hY.out
          have hd : decide ((k : Int) * 60 < (n2 : Int)) = false := decide_eq_false (by omega)
          clear hce hE hke
          go_wp2_with fail
          all_goals first
            | (exfalso; omega)
            | exact bodyPost_ret (v := .tuple #[.int .i64 (rl : Int), .nilIface]) (by simp [results, Try.results21, go_sem]) rfl (by rw [HPE.out, HRL.out, HQ2.out]; exact AppPost.ok hS.out HYL.out)
end Go.Proofs.Ytldpflijgbcbhaa.lg
