/- LogPlays: the switch (block 4), a piece of its own. (Printed by a program of mine.) -/
import Derived.Test.YtldpflijgbcbhaaDoorLqC
import Derived.Test.YtldpflijgbcbhaaDoorPiece
import Derived.Test.YtldpflijgbcbhaaDoorLgN5
import Derived.Test.YtldpflijgbcbhaaDoorTold
import Derived.Deep.CutBlock
import Derived.Deep.DeepCutAuto
import Derived.Deep.OwnRows
namespace Go.Proofs.YtldpflijgbcbhaaDoor.lg
open Go.RowKit
noncomputable def playsC : Code := (Tryd.f8.body).getD .skip
set_option maxRecDepth 100000 in
set_option maxHeartbeats 16000000 in
theorem sw_block {u2 u3 u4 u5 u6 u8 u9 u10 u12 u17 u19 u20 u21 u22 u23 u24 u25 u26 u27 u28 u29 u30 u31 u32 u33 u34 u35 u36 u37 u38 u39 u40 u41 u42 u43 u44 u45 u46 u47 u48 u49 u50 u51 u52 u53 u54 u55 u56 u57 u58 u59 u60 u61 u62 u63 u64 u65 u66 u67 u68 u69 u70 u71 u72 u73 u74 u75 u76 u77 u78 u79 u80 u81 u82 u83 u84 u85 u86 u87 u88 u89 u90 u91 u92 u93 u94 u95 u96 u97 u98 u99 u100 u101 u102 u103 u104 u105 u106 u107 u108 u109 u110 u111 u112 u113 u114 u115 u116 u117 u118 u119 u120 u122 u123 u124 u125 u126 u127 u128 u129 u130 u131 u132 u133 u134 u135 u136 u137 u138 u139 u140 u141 u142 u143 u144 u145 u146 u147 u148 u149 u150 u151 u152 u153 u154 u155 u156 u157 u158 u159 u160 u161 u162 u163 u164 u165 u166 u167 u168 u169 u170 u171 u172 u173 u174 u175 u176 u177 u178 u179 u180 u181 u182 u183 u184 u185 u186 u187 u188 u189 u190 u191 u192 u193 u194 u195 u196 u197 u198 u199 u200 u201 u202 u203 u204 u205 u206 u207 u208 u209 u210 u211 u212 u213 u214 u215 u216 u217 u218 u219 u220 u221 u222 u223 u224 u225 u226 u227 u228 u229 u230 u231 u232 u233 u234 u235 u236 u237 u238 u239 u240 u241 u242 u243 u244 u245 u246 u247 u248 : Value} {K : Act → World → Prop} {w W8 : World} {p fn m n i R q : Nat} {z0 z1 : Int} {F : Nat → Prop} {M : DiskM} {L : LogS} {av : Value} {rs : List Value}
    (HG : Hid (Door w)) (hm1 : 1 ≤ m) (hm2 : m ≤ 200) (hfm : fn + m ≤ 40) (hi2 : i < 60) (HPL : Hid (PlayAt w W8 F w.heap.size p fn m M L av rs)) (HO : Hid (PlayOk fn m M L i)) (HN : Hid (n = L.stream.length)) (HR : Hid (R = 60 * (m - 2) - n)) (v1 : W8.cell? ⟨q, 1, none⟩ = some (.int .i64 z1)) (hz1 : -9223372036854775808 ≤ z1 ∧ z1 ≤ 9223372036854775807)
    (HK : Hid (∀ (p' : Nat) (F' : Nat → Prop) (M' : DiskM) (L' : LogS) (rs' : List Value) (av' : Value) (n' : Nat) (y9 y19 y20 y21 y22 y23 y24 y25 y26 y122 y123 y124 y125 y126 y127 y128 y129 y130 y131 y132 y133 y134 y135 y136 y137 y138 y139 y140 y141 y142 y143 y144 y145 y146 y147 y148 y149 y150 y151 y152 y153 y154 y155 y156 y157 y158 y159 y160 y161 y162 y163 y164 y165 y166 y167 y168 y169 y170 y171 y172 y173 y174 y175 y176 y177 y178 y179 y180 y181 y182 y183 y184 y185 y186 y187 y188 y189 y190 y191 y192 y193 y194 y195 y196 y197 y198 y199 y200 y201 y202 y203 y204 y205 y206 : Value) (wx : World), n' = L'.stream.length → Hid (PlayAt w wx F' w.heap.size p' fn m M' L' av' rs') → Hid (PlayOk fn m M' L' (i + 1)) → K { tmps := #[.int .i64 (fn : Int), .int .i64 (m : Int), u2, u3, u4, u5, u6, .pointer (some ⟨w.heap.size, 0, none⟩), u8, y9, u10, .pointer (some ⟨p', 0, none⟩), u12, av', .int .i64 (n' : Int), .int .i64 (i : Int), .pointer (some ⟨q, 0, none⟩), u17, .int .i64 (R : Int), y19, y20, y21, y22, y23, y24, y25, y26, u27, u28, u29, u30, u31, u32, u33, u34, u35, u36, u37, u38, u39, u40, u41, u42, u43, u44, u45, u46, u47, u48, u49, u50, u51, u52, u53, u54, u55, u56, u57, u58, u59, u60, u61, u62, u63, u64, u65, u66, u67, u68, u69, u70, u71, u72, u73, u74, u75, u76, u77, u78, u79, u80, u81, u82, u83, u84, u85, u86, u87, u88, u89, u90, u91, u92, u93, u94, u95, u96, u97, u98, u99, u100, u101, u102, u103, u104, u105, u106, u107, u108, u109, u110, u111, u112, u113, u114, u115, u116, u117, u118, u119, u120, .int .i64 z0, y122, y123, y124, y125, y126, y127, y128, y129, y130, y131, y132, y133, y134, y135, y136, y137, y138, y139, y140, y141, y142, y143, y144, y145, y146, y147, y148, y149, y150, y151, y152, y153, y154, y155, y156, y157, y158, y159, y160, y161, y162, y163, y164, y165, y166, y167, y168, y169, y170, y171, y172, y173, y174, y175, y176, y177, y178, y179, y180, y181, y182, y183, y184, y185, y186, y187, y188, y189, y190, y191, y192, y193, y194, y195, y196, y197, y198, y199, y200, y201, y202, y203, y204, y205, y206, u207, u208, u209, u210, u211, u212, u213, u214, u215, u216, u217, u218, u219, u220, u221, u222, u223, u224, u225, u226, u227, u228, u229, u230, u231, u232, u233, u234, u235, u236, u237, u238, u239, u240, u241, u242, u243, u244, u245, u246, u247, u248], defers := [] } wx)) :
    Code.wp Tryd.prog ((findB 4 playsC).getD .skip) (Exit.then K (fun _ _ _ => False)) { tmps := #[.int .i64 (fn : Int), .int .i64 (m : Int), u2, u3, u4, u5, u6, .pointer (some ⟨w.heap.size, 0, none⟩), u8, u9, u10, .pointer (some ⟨p, 0, none⟩), u12, av, .int .i64 (n : Int), .int .i64 (i : Int), .pointer (some ⟨q, 0, none⟩), u17, .int .i64 (R : Int), u19, u20, u21, u22, u23, u24, u25, u26, u27, u28, u29, u30, u31, u32, u33, u34, u35, u36, u37, u38, u39, u40, u41, u42, u43, u44, u45, u46, u47, u48, u49, u50, u51, u52, u53, u54, u55, u56, u57, u58, u59, u60, u61, u62, u63, u64, u65, u66, u67, u68, u69, u70, u71, u72, u73, u74, u75, u76, u77, u78, u79, u80, u81, u82, u83, u84, u85, u86, u87, u88, u89, u90, u91, u92, u93, u94, u95, u96, u97, u98, u99, u100, u101, u102, u103, u104, u105, u106, u107, u108, u109, u110, u111, u112, u113, u114, u115, u116, u117, u118, u119, u120, .int .i64 z0, u122, u123, u124, u125, u126, u127, u128, u129, u130, u131, u132, u133, u134, u135, u136, u137, u138, u139, u140, u141, u142, u143, u144, u145, u146, u147, u148, u149, u150, u151, u152, u153, u154, u155, u156, u157, u158, u159, u160, u161, u162, u163, u164, u165, u166, u167, u168, u169, u170, u171, u172, u173, u174, u175, u176, u177, u178, u179, u180, u181, u182, u183, u184, u185, u186, u187, u188, u189, u190, u191, u192, u193, u194, u195, u196, u197, u198, u199, u200, u201, u202, u203, u204, u205, u206, u207, u208, u209, u210, u211, u212, u213, u214, u215, u216, u217, u218, u219, u220, u221, u222, u223, u224, u225, u226, u227, u228, u229, u230, u231, u232, u233, u234, u235, u236, u237, u238, u239, u240, u241, u242, u243, u244, u245, u246, u247, u248], defers := [] } W8 := by
  rw [show (findB 4 playsC).getD .skip = Code.block 4 _ from rfl]
  have hpos := HG.out.pos
  have hroom := HO.out.ok.room
  have hn2 : n ≤ 11880 := by rw [HN.out]; omega
  by_cases h012 : z0 = 0 ∨ z0 = 1 ∨ z0 = 2
  · go_upto_if 122 with (fail)
    go_cut [122] from 122 to 206 (fun v wx => wx = W8 ∧ v = .bool true)
    case first =>
      rcases h012 with rfl | rfl | rfl
      all_goals
        go_wp2_with fail
        go_meet
        exact ⟨rfl, rfl⟩
    case rest =>
      obtain ⟨hwc, hv⟩ := hcut
      rw [hwc, hv]
      clear hwc hv h012
      go_upto_region 30 with (fail)
      go_cut [133] from 122 to 206 (fun v wx => wx = W8 ∧ v = .bool (decide (z1 < 0 ∨ 201 < z1)))
      case first =>
        by_cases g1 : z1 < 0
        · go_wp2_with fail
          go_meet
          exact ⟨rfl, congrArg Value.bool (by simp [g1])⟩
        · by_cases g2 : 201 < z1
          · go_wp2_with fail
            go_meet
            exact ⟨rfl, congrArg Value.bool (by simp [g2])⟩
          · go_wp2_with fail
            go_meet
            exact ⟨rfl, congrArg Value.bool (by simp [g1, g2])⟩
      case rest =>
        obtain ⟨hwc, hv⟩ := hcut
        rw [hwc, hv]
        clear hwc hv
        obtain ⟨N, hN⟩ : ∃ N : Nat, N ≤ 201 ∧ (N : Int) = if z1 < 0 ∨ 201 < z1 then 201 else z1 := by
          by_cases h : z1 < 0 ∨ 201 < z1
          · exact ⟨201, by omega, by rw [if_pos h]; rfl⟩
          · exact ⟨z1.toNat, by omega, by rw [if_neg h]; omega⟩
        obtain ⟨hNb, hNe⟩ := hN
        go_upto_if 133 with (fail)
        go_cut [19] from 122 to 206 (fun v wx => wx = W8 ∧ v = .int .i64 (N : Int))
        case first =>
          by_cases h : z1 < 0 ∨ 201 < z1
          · rw [if_pos h] at hNe
            rw [show decide (z1 < 0 ∨ 201 < z1) = true from decide_eq_true h]
            go_wp2_with fail
            go_meet
            exact ⟨rfl, by rw [hNe]⟩
          · rw [if_neg h] at hNe
            rw [show decide (z1 < 0 ∨ 201 < z1) = false from decide_eq_false h]
            go_wp2_with fail
            go_meet
            exact ⟨rfl, by rw [hNe]⟩
        case rest =>
          obtain ⟨hwc, hv⟩ := hcut
          rw [hwc, hv]
          clear hwc hv hNe v1 hz1
          have hmk : ∀ W : World, (Instr.makeSlice 22 (.int .i64 (N : Int)) (.int .i64 (N : Int))).run Tryd.prog W = .ok (.slice (some ⟨W.heap.size, 0, none⟩) N N) (W.alloc (.cells (bytesArr (List.replicate N 0)) 5)) := fun W => make_bytes N (by omega) W
          obtain ⟨g, hg⟩ : ∃ g, g = W8.heap.size := ⟨_, rfl⟩
          obtain ⟨W9, hW9⟩ : ∃ W9, W9 = W8.alloc (.cells (bytesArr (List.replicate N 0)) 5) := ⟨_, rfl⟩
          have V0 : Hid (PlayV w W9 F w.heap.size p fn m g M L av rs (.cells (bytesArr (fillL i 0 N)) 5 (0, 0))) := by
            show PlayV _ _ _ _ _ _ _ _ _ _ _ _ _
            rw [hg, hW9, fillL_zero]
            exact PlayV.of HPL.out _ _
          have HG9 := Lib.hid hg
          have HW9 := Lib.hid hW9
          clear hg hW9
          go_upto_block 5 with (fail)
          rw [← HW9.out, ← HG9.out]
          clear hmk
          go_cut [] from 122 to 206 (fun wx => Hid (PlayV w wx F w.heap.size p fn m g M L av rs (.cells (bytesArr (fillL i N N)) 5 (0, 0))))
          case first =>
            go_wp2_with fail
            go_loopw [21] (fun jv wr => ∃ j : Nat, jv = .int .i64 (j : Int) ∧ j ≤ N ∧ Hid (PlayV w wr F w.heap.size p fn m g M L av rs (.cells (bytesArr (fillL i j N)) 5 (0, 0)))) (fun jv _ => N - (intOf jv).toNat)
            case atStart => exact ⟨0, rfl, Nat.zero_le _, V0⟩
            case round =>
              clear V0
              obtain ⟨j, rfl, hj, hV⟩ := hrel
              by_cases hjN : j < N
              · have cj : wr.cell? ⟨g, j, none⟩ = some (.int .u8 0) := (cell_of_heap hV.out.box j).trans (fill_at hjN)
                have fj : wr.frozen? ⟨g, j, none⟩ = false := free_of_heap hV.out.box j
                have V1 := Lib.hid (hV.out.fill hjN (show i < 256 by omega))
                clear hV
                go_wp2_with fail
                go_roundw
                case rel => exact ⟨j + 1, by go_num, by omega, V1⟩
                case measure => simp [intOf]; omega
              · obtain rfl : j = N := by omega
                go_wp2_with fail
                go_meet
                exact hV
          case rest =>
            have HW := Lib.hid (hcut.out.laid (by rw [fillL_len (Nat.le_refl _)]; omega))
            obtain ⟨W, hWw⟩ : ∃ W : World, W = wc := ⟨_, rfl⟩
            subst hWw
            clear V0 hcut HW9
            rw [fillL_end] at HW
            obtain ⟨b, hb⟩ : ∃ b, b = List.replicate N (UInt8.ofNat i) := ⟨_, rfl⟩
            have hbl : b.length = N := by rw [hb]; simp
            rw [← hb, hbl] at HW
            obtain ⟨C, hC⟩ : ∃ C : Int, C = appC L m N := ⟨_, rfl⟩
            have hCv : C = if N = 0 then 3 else if 200 < N ∨ R < N + 2 then 4 else 0 := by
              rw [hC]; unfold appC
              rw [HO.out.ok.broken, if_neg (by simp), ← HN.out, ← HR.out]
            clear hb
            go_upto_if 147 with (fail)
            go_cut [9] from 122 to 206 (fun v wx => wx = W ∧ v = .int .i64 C)
            case first =>
              by_cases g0 : N = 0
              · subst g0
                go_wp2_with fail
                go_meet
                exact ⟨rfl, by rw [hCv]; rfl⟩
              · have g0b : ((N : Int) == 0) = false := by simp; omega
                by_cases g1 : 200 < N
                · go_wp2_with fail
                  go_meet
                  exact ⟨rfl, by rw [hCv, if_neg g0, if_pos (Or.inl g1)]⟩
                · by_cases g2 : R < N + 2
                  · go_wp2_with fail
                    go_meet
                    exact ⟨rfl, by rw [hCv, if_neg g0, if_pos (Or.inr g2)]⟩
                  · go_wp2_with fail
                    go_meet
                    exact ⟨rfl, by rw [hCv, if_neg g0, if_neg (by omega)]⟩
            case rest =>
              obtain ⟨hwc, hv⟩ := hcut
              rw [hwc, hv]
              clear hwc hv
              obtain ⟨rl, hrl⟩ : ∃ rl, rl = L.recs.length := ⟨_, rfl⟩
              have hfew := HO.out.few
              have hlogs := HO.out.steps
              have hsin := HO.out.since
              have hep := HO.out.ep
              obtain ⟨vo, vc, hav, _⟩ := row_slice' HW.out.all.row
              rw [← hrl] at hav
              subst hav
              by_cases hC0 : C = 0
              · have hNr : 1 ≤ N ∧ N ≤ 200 ∧ n + N + 2 ≤ 60 * (m - 2) := by
                  rw [hC0] at hCv
                  by_cases g0 : N = 0
                  · rw [if_pos g0] at hCv; omega
                  · rw [if_neg g0] at hCv
                    by_cases g1 : 200 < N ∨ R < N + 2
                    · rw [if_pos g1] at hCv; omega
                    · have := HR.out; omega
                have hpr := putsR_ok (b := b) HO.out.free HO.out.ok (by rw [HO.out.len]; omega) (by rw [hbl, ← HN.out]; omega)
                have hap := append_ok w.heap.size (fun x => F x ∨ x = g) (.slice (some ⟨g, 0, none⟩) N N) b W p w.heap.size fn m M L HW.out.sys (by have := bytes_of_row HW.out.one.1 rfl; exact this) (fun g' hg' => Or.inl (HW.out.one.2 g' hg')) HO.out.ok.broken HO.out.ok.bare (by omega) (by omega) (by rw [← HN.out]; omega) hm2 HO.out.ok.safe (by omega) (by omega) (by omega) (by omega) (by omega) (by rw [hpr])
                rw [hpr, ← hrl] at hap
                have HOS := Lib.hid (HO.out.add (b := b) (by omega) hfm (by omega) (by omega) (by rw [hbl, ← HN.out]; omega))
                have HST : Hid (((L.add b).stream.length : Int) = (n : Int) + (N : Int) + 2) := by
                  show ((L.stream ++ enc1 b).length : Int) = _
                  rw [List.length_append, enc1_len, ← HN.out, hbl]; omega
                rw [hC0]
                have HRL := Lib.hid hrl
                have HBL := Lib.hid hbl
                clear hC hCv hC0 hpr hrl hbl
                go_wp2_with fail
                refine hap.mono ?_
                rintro e w9 ⟨rfl, hs9, hy9⟩
                have HW9 := Lib.hid (HW.out.step hs9 hy9)
                have her := error_any 0 0 w9 (HG.out.below HW9.out.below hpos)
                rw [errV_zero] at her
                clear hap hs9 hy9 HW
                go_wp2_with fail
                refine her.mono ?_
                rintro e w10 ⟨rfl, hb10⟩
                have HW10 := Lib.hid (HW9.out.later hb10)
                obtain ⟨ao, cap, w6, hr, hp6⟩ := HW10.out.more (show (L.add b).recs = L.recs ++ [b] from rfl) (by omega)
                have HP6 := Lib.hid hp6
                rw [← HRL.out] at hr HP6
                clear her hb10 HW9 HW10 hp6
                go_wp2_with (at_builtin; refine Lib.wpList_append_run _ rfl _ _ _ _ rfl _ _ rfl rfl _ _ hr ?_)
                rw [show (n : Int) + (N : Int) + 2 = ((n + N + 2 : Nat) : Int) by omega]
                exact HK.out p _ _ (L.add b) _ (.slice ao (rl + 1) cap) (n + N + 2) _ _ _ _ _ _ _ _ _ _ _ _ _ _ _ _ _ _ _ _ _ _ _ _ _ _ _ _ _ _ _ _ _ _ _ _ _ _ _ _ _ _ _ _ _ _ _ _ _ _ _ _ _ _ _ _ _ _ _ _ _ _ _ _ _ _ _ _ _ _ _ _ _ _ _ _ _ _ _ _ _ _ _ _ _ _ _ _ _ _ _ _ _ _ _ (by have := HST.out; omega) HP6 HOS
              · have hno := append_no (some ⟨g, 0, none⟩) N N W p w.heap.size fn m L HW.out.sys.size' HW.out.sys.cells HO.out.ok.broken hm2 (by rw [← HN.out]; omega) (by omega) (by rw [← hC]; exact hC0)
                rw [← hC] at hno
                have HOS := Lib.hid HO.out.next
                rw [errV_some hC0] at hno
                have hCb : (C == 0) = false := by simp; exact hC0
                have HC0 := Lib.hid hC0
                have HRL := Lib.hid hrl
                clear hC hCv hC0 hrl hbl
                go_wp2_with fail
                refine hno.mono ?_
                rintro e w9 ⟨rfl, hb9⟩
                have HW9 := Lib.hid ((HW.out.drop rfl).later hb9)
                have her := error_any C C w9 (HG.out.below HW9.out.below hpos)
                rw [errV_some HC0.out, show (C == C) = true by simp] at her
                clear hno hb9 HW
                go_wp2_with fail
                refine her.mono ?_
                rintro e w10 ⟨rfl, hb10⟩
                have HW10 := Lib.hid (HW9.out.later hb10)
                clear her hb10 HW9
                go_wp2_with fail
                exact HK.out p _ M L rs (.slice vo rl vc) n _ _ _ _ _ _ _ _ _ _ _ _ _ _ _ _ _ _ _ _ _ _ _ _ _ _ _ _ _ _ _ _ _ _ _ _ _ _ _ _ _ _ _ _ _ _ _ _ _ _ _ _ _ _ _ _ _ _ _ _ _ _ _ _ _ _ _ _ _ _ _ _ _ _ _ _ _ _ _ _ _ _ _ _ _ _ _ _ _ _ _ _ _ _ _ (by rw [HN.out]) HW10 HOS
  · have y0 : (z0 == 0) = false := by simp; omega
    have y1 : (z0 == 1) = false := by simp; omega
    have y2 : (z0 == 2) = false := by simp; omega
    by_cases h3 : z0 = 3
    · have y3 : (z0 == 3) = true := by simp [h3]
      have hsy := HPL.out.sync HO.out (by omega) hm2
      have HOS := Lib.hid HO.out.sync
      clear h012 h3
      go_wp2_with fail
      refine hsy.mono ?_
      rintro e w9 ⟨rfl, hp9⟩
      have HP9 := Lib.hid hp9
      clear hsy hp9
      go_wp2_with fail
      exact HK.out p F M.flush L.sync rs av n _ _ _ _ _ _ _ _ _ _ _ _ _ _ _ _ _ _ _ _ _ _ _ _ _ _ _ _ _ _ _ _ _ _ _ _ _ _ _ _ _ _ _ _ _ _ _ _ _ _ _ _ _ _ _ _ _ _ _ _ _ _ _ _ _ _ _ _ _ _ _ _ _ _ _ _ _ _ _ _ _ _ _ _ _ _ _ _ _ _ _ _ _ _ _ (by rw [HN.out]; rfl) HP9 HOS
    · by_cases h4 : z0 = 4
      · have y3 : (z0 == 3) = false := by simp [h3]
        have y4 : (z0 == 4) = true := by simp [h4]
        have hsy := HPL.out.sync HO.out (by omega) hm2
        have HOS := Lib.hid HO.out.opened
        have hturn := (ok_sync HO.out.ok).cons.turn
        have hln : M.flush.now.length = 40 := HO.out.len
        clear h012 h3 h4
        go_wp2_with fail
        refine hsy.mono ?_
        rintro e w9 ⟨rfl, hp9⟩
        have hop := open_any w.heap.size F fn m w9 w.heap.size M.flush hp9.sys.diskF hm1 hm2 (by omega) (fun i' c hi' hc => hturn i' c hi' hc)
        have HP9 := Lib.hid hp9
        clear hsy hp9 hturn
        go_wp2_with fail
        refine hop.mono ?_
        rintro e w10 ⟨rfl, hop10⟩
        have HP10 := Lib.hid (HP9.out.opened hop10 HOS.out.2.1)
        clear hop hop10
        go_wp2_with fail
        exact HK.out w9.heap.size F M.flush _ rs av n _ _ _ _ _ _ _ _ _ _ _ _ _ _ _ _ _ _ _ _ _ _ _ _ _ _ _ _ _ _ _ _ _ _ _ _ _ _ _ _ _ _ _ _ _ _ _ _ _ _ _ _ _ _ _ _ _ _ _ _ _ _ _ _ _ _ _ _ _ _ _ _ _ _ _ _ _ _ _ _ _ _ _ _ _ _ _ _ _ _ _ _ _ _ _ (by rw [HOS.out.2.2, HN.out]) HP10 HOS.out.1
      · have y3 : (z0 == 3) = false := by simp [h3]
        have y4 : (z0 == 4) = false := by simp [h4]
        have HOS := Lib.hid HO.out.next
        clear h012 h3 h4
        go_wp2_with fail
        exact HK.out p F M L rs av n _ _ _ _ _ _ _ _ _ _ _ _ _ _ _ _ _ _ _ _ _ _ _ _ _ _ _ _ _ _ _ _ _ _ _ _ _ _ _ _ _ _ _ _ _ _ _ _ _ _ _ _ _ _ _ _ _ _ _ _ _ _ _ _ _ _ _ _ _ _ _ _ _ _ _ _ _ _ _ _ _ _ _ _ _ _ _ _ _ _ _ _ _ _ _ (by rw [HN.out]) HPL HOS
end Go.Proofs.YtldpflijgbcbhaaDoor.lg
