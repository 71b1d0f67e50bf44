/- log.Open's loop of records, a piece of its own. (Printed by wip/tools/gen_rec.py.) -/
import Derived.Test.YtldpflijgbcbhaaLgM2
import Derived.Test.YtldpflijgbcbhaaPiece
import Derived.Deep.CutBlock
import Derived.Deep.DeepCutAuto
namespace Go.Proofs.Ytldpflijgbcbhaa.lg
open Go.RowKit

set_option maxRecDepth 100000 in
set_option maxHeartbeats 16000000 in
theorem rec_block {u0 u1 u2 u3 u4 u5 u6 u7 u8 u10 u11 u12 u13 u14 u15 u16 u17 u18 u19 u20 u22 u23 u24 u25 u26 u27 u28 u29 u30 u31 u32 u33 u34 u35 u36 u37 u38 u39 u40 u41 u42 u43 u44 u45 u46 u47 u48 u49 u50 u51 u52 u53 u54 u55 u56 u57 u58 u59 u60 u61 u62 u63 u64 u65 u66 u67 u68 u69 u70 u71 u72 u73 u74 u75 u76 u77 u78 u79 u80 u81 u82 u83 u84 u85 u86 u87 u88 u89 u90 u91 u92 u93 u94 u95 u96 u97 u98 u99 u100 u101 u102 u103 u104 u105 u106 u107 u108 u109 u110 u111 u112 u113 u114 u115 u116 u117 u118 u119 u120 u121 u122 u123 u124 u125 u126 u127 u128 u129 u130 u131 u132 u133 u134 u135 u136 u137 u138 u139 u140 u141 u142 u143 u144 u145 u146 u147 u148 u149 u150 u151 u152 u153 u154 u155 u156 u157 u158 u159 u160 u161 u162 u163 u164 u165 u166 u167 u168 u169 u170 u171 u172 u173 u174 u175 u176 u177 u178 u179 u180 u181 u182 u183 u184 u185 u186 u187 u188 u189 u190 u191 u192 u193 u194 u195 u196 u197 u198 u199 u200 u201 u202 u203 u204 u205 u206 u207 u208 u209 u210 u211 u212 u213 u214 u215 u216 u217 u218 u219 u220 u221 u222 u223 u224 u225 u226 u227 u228 u229 u230 u231 u232 u233 u234 u235 u236 u237 u238 u239 u240 u241 u242 u243 u244 u245 u246 u247 u248 u249 u250 u251 u252 u253 u254 u255 u256 u257 u258 u259 u260 u261 u262 u263 u264 u265 u266 : Value} {K : Act → World → Prop} {w W5 : World} {p d fr mn n E : Nat} {o : OpS} (HN : Hid (n = o.stream.length)) (hlen5 : n ≤ 12300) (hEb : E ≤ 65535) (HO5 : Hid (OpAt w W5 p d fr mn { mkL o [] with epoch := E + 1 }))
    (HQ : Hid (∀ (a : Nat) (rs : List (List UInt8)) (y22 y164 y165 y166 y167 y168 y169 y170 y171 y172 y173 y174 y175 y176 y177 y178 y179 y180 y181 y182 y183 y184 y185 y186 y187 y188 y189 y190 y191 y192 y193 y194 y195 y196 y197 y198 y199 y200 y201 y202 y203 y204 y205 y206 y207 y208 y209 y210 y211 y212 y213 y214 y215 y216 y217 y218 y219 y220 y221 y222 y223 y224 y225 y226 y227 y228 y229 y230 y231 y232 y233 : Value) (wx : World), a ≤ n → Hid (parse o.stream.length o.stream = rs ∧ o.stream.take a = enc rs) → Hid (OpAt w wx p d fr mn { mkL o rs with epoch := E + 1 }) → K { tmps := #[u0, u1, u2, u3, u4, u5, u6, u7, u8, .pointer (some ⟨p, 0, none⟩), u10, u11, u12, u13, u14, u15, u16, u17, u18, u19, u20, .int .i64 (a : Int), y22, u23, u24, u25, u26, u27, u28, u29, u30, u31, u32, u33, u34, u35, u36, u37, u38, u39, u40, u41, u42, u43, u44, u45, u46, u47, u48, u49, u50, u51, u52, u53, u54, u55, u56, u57, u58, u59, u60, u61, u62, u63, u64, u65, u66, u67, u68, u69, u70, u71, u72, u73, u74, u75, u76, u77, u78, u79, u80, u81, u82, u83, u84, u85, u86, u87, u88, u89, u90, u91, u92, u93, u94, u95, u96, u97, u98, u99, u100, u101, u102, u103, u104, u105, u106, u107, u108, u109, u110, u111, u112, u113, u114, u115, u116, u117, u118, u119, u120, u121, u122, u123, u124, u125, u126, u127, u128, u129, u130, u131, u132, u133, u134, u135, u136, u137, u138, u139, u140, u141, u142, u143, u144, u145, u146, u147, u148, u149, u150, u151, u152, u153, u154, u155, u156, u157, u158, u159, u160, u161, u162, u163, y164, y165, y166, y167, y168, y169, y170, y171, y172, y173, y174, y175, y176, y177, y178, y179, y180, y181, y182, y183, y184, y185, y186, y187, y188, y189, y190, y191, y192, y193, y194, y195, y196, y197, y198, y199, y200, y201, y202, y203, y204, y205, y206, y207, y208, y209, y210, y211, y212, y213, y214, y215, y216, y217, y218, y219, y220, y221, y222, y223, y224, y225, y226, y227, y228, y229, y230, y231, y232, y233, u234, u235, u236, u237, u238, u239, u240, u241, u242, u243, u244, u245, u246, u247, u248, u249, u250, u251, u252, u253, u254, u255, u256, u257, u258, u259, u260, u261, u262, u263, u264, u265, u266], defers := [] } wx)) :
    Code.wp Try.prog ((findB 6 openC).getD .skip) (Exit.then K (fun _ _ _ => False)) { tmps := #[u0, u1, u2, u3, u4, u5, u6, u7, u8, .pointer (some ⟨p, 0, none⟩), u10, u11, u12, u13, u14, u15, u16, u17, u18, u19, u20, .int .i64 0, u22, u23, u24, u25, u26, u27, u28, u29, u30, u31, u32, u33, u34, u35, u36, u37, u38, u39, u40, u41, u42, u43, u44, u45, u46, u47, u48, u49, u50, u51, u52, u53, u54, u55, u56, u57, u58, u59, u60, u61, u62, u63, u64, u65, u66, u67, u68, u69, u70, u71, u72, u73, u74, u75, u76, u77, u78, u79, u80, u81, u82, u83, u84, u85, u86, u87, u88, u89, u90, u91, u92, u93, u94, u95, u96, u97, u98, u99, u100, u101, u102, u103, u104, u105, u106, u107, u108, u109, u110, u111, u112, u113, u114, u115, u116, u117, u118, u119, u120, u121, u122, u123, u124, u125, u126, u127, u128, u129, u130, u131, u132, u133, u134, u135, u136, u137, u138, u139, u140, u141, u142, u143, u144, u145, u146, u147, u148, u149, u150, u151, u152, u153, u154, u155, u156, u157, u158, u159, u160, u161, u162, u163, u164, u165, u166, u167, u168, u169, u170, u171, u172, u173, u174, u175, u176, u177, u178, u179, u180, u181, u182, u183, u184, u185, u186, u187, u188, u189, u190, u191, u192, u193, u194, u195, u196, u197, u198, u199, u200, u201, u202, u203, u204, u205, u206, u207, u208, u209, u210, u211, u212, u213, u214, u215, u216, u217, u218, u219, u220, u221, u222, u223, u224, u225, u226, u227, u228, u229, u230, u231, u232, u233, u234, u235, u236, u237, u238, u239, u240, u241, u242, u243, u244, u245, u246, u247, u248, u249, u250, u251, u252, u253, u254, u255, u256, u257, u258, u259, u260, u261, u262, u263, u264, u265, u266], defers := [] } W5 := by
  rw [show (findB 6 openC).getD .skip = Code.block 6 _ from rfl]
  go_wp2_with fail
  go_loopw [21] (fun z wr => ∃ (a : Nat) (rs : List (List UInt8)), a ≤ n ∧ z = .int .i64 (a : Int) ∧ Hid (ParseAt o.stream a rs) ∧ Hid (OpAt w wr p d fr mn { mkL o rs with epoch := E + 1 })) (fun z _ => n + 1 - (intOf z).toNat)
  case atStart => exact ⟨0, [], by omega, rfl, ParseAt.start _, HO5.out⟩
  case round =>
    obtain ⟨a, rs, han, rfl, HPA, HOP⟩ := hrel
    by_cases g0 : a + 2 ≤ n
    · rcases HOP.out.stream with ⟨hnil, _⟩ | ⟨g, cap, p4x, hbyx, hgl, hncapx, hcellx⟩
      · exact absurd g0 (by rw [HN.out, show o.stream = [] from hnil]; simp)
      · have p4 : wr.cell? ⟨p, 4, none⟩ = some (.slice (some ⟨g, 0, none⟩) n cap) := by rw [HN.out]; exact p4x
        have hby : BytesW wr.drew.drew (.slice (some ⟨g, 0, none⟩) n cap) o.stream := by rw [HN.out]; exact BytesW.keep' hbyx (fun _ _ _ => rfl) (Nat.le_refl _)
        have hncap : n ≤ cap := by rw [HN.out]; exact hncapx
        have x0 : wr.cell? ⟨g, a, none⟩ = some (.int .u8 (bAt o.stream a : Nat)) := hcellx a (by show a < o.stream.length; rw [← HN.out]; omega)
        have x1 : wr.cell? ⟨g, a + 1, none⟩ = some (.int .u8 (bAt o.stream (a + 1) : Nat)) := hcellx (a + 1) (by show a + 1 < o.stream.length; rw [← HN.out]; omega)
        have a0 := bAt_lt o.stream a
        have a1 := bAt_lt o.stream (a + 1)
        obtain ⟨N, hNN⟩ : ∃ N, N = lenAt o.stream a := ⟨_, rfl⟩
        have hNe : N = bAt o.stream a * 256 + bAt o.stream (a + 1) := by rw [hNN]; unfold lenAt; rw [bAt_drop, bAt_drop]; rfl
        have u5 : bits .or .i64 ((bAt o.stream a : Int) * 256) ((bAt o.stream (a + 1) : Nat) : Int) = (N : Int) := by rw [hNe]; have := or256 a0 a1; rwa [Int.natCast_mul] at this
        have hNb : N ≤ 65535 := by omega
        have HNN := Lib.hid hNN
        clear p4x hbyx hncapx hcellx hNe hNN
        generalize bAt o.stream a = y0 at *
        generalize bAt o.stream (a + 1) = y1 at *
        go_wp2_with fail
        go_big_region
        all_goals clear u5 x0 x1
        by_cases n1 : N < 1
        · skip
          have HST : Hid (parse o.stream.length o.stream = rs ∧ o.stream.take a = enc rs) := HPA.out.stop (by rw [← HNN.out, ← HN.out]; omega)
          have HOPD : Hid (OpAt w wr.drew p d fr mn { mkL o rs with epoch := E + 1 }) := HOP.out.drew
          clear HPA hby
          go_wp2_with fail
          exact HQ.out a rs _ _ _ _ _ _ _ _ _ _ _ _ _ _ _ _ _ _ _ _ _ _ _ _ _ _ _ _ _ _ _ _ _ _ _ _ _ _ _ _ _ _ _ _ _ _ _ _ _ _ _ _ _ _ _ _ _ _ _ _ _ _ _ _ _ _ _ _ _ _ _ _ han HST HOPD
        · by_cases n2 : 200 < N
          · skip
            have HST : Hid (parse o.stream.length o.stream = rs ∧ o.stream.take a = enc rs) := HPA.out.stop (by rw [← HNN.out, ← HN.out]; omega)
            have HOPD : Hid (OpAt w wr.drew p d fr mn { mkL o rs with epoch := E + 1 }) := HOP.out.drew
            clear HPA hby
            go_wp2_with fail
            exact HQ.out a rs _ _ _ _ _ _ _ _ _ _ _ _ _ _ _ _ _ _ _ _ _ _ _ _ _ _ _ _ _ _ _ _ _ _ _ _ _ _ _ _ _ _ _ _ _ _ _ _ _ _ _ _ _ _ _ _ _ _ _ _ _ _ _ _ _ _ _ _ _ _ _ _ han HST HOPD
          · by_cases n3 : n < a + 2 + N
            · skip
              have HST : Hid (parse o.stream.length o.stream = rs ∧ o.stream.take a = enc rs) := HPA.out.stop (by rw [← HNN.out, ← HN.out]; omega)
              have HOPD : Hid (OpAt w wr.drew p d fr mn { mkL o rs with epoch := E + 1 }) := HOP.out.drew
              clear HPA hby
              go_wp2_with fail
              exact HQ.out a rs _ _ _ _ _ _ _ _ _ _ _ _ _ _ _ _ _ _ _ _ _ _ _ _ _ _ _ _ _ _ _ _ _ _ _ _ _ _ _ _ _ _ _ _ _ _ _ _ _ _ _ _ _ _ _ _ _ _ _ _ _ _ _ _ _ _ _ _ _ _ _ _ han HST HOPD
            · obtain ⟨b, hb⟩ : ∃ b, b = (o.stream.drop (a + 2)).take N := ⟨_, rfl⟩
              have hbl : b.length = N := by rw [hb, List.length_take, List.length_drop, ← HN.out]; omega
              have hbv : BytesW wr.drew.drew (.slice (some ⟨g, a + 2, none⟩) N (cap - (a + 2))) b := by
                rw [hb]
                have := bytes_cut (c' := cap - (a + 2)) (by rw [← HN.out]; exact hby) (a + 2) N (by rw [← HN.out]; omega)
                rwa [Nat.zero_add] at this
              have hcl := clone_bytes (.slice (some ⟨g, a + 2, none⟩) N (cap - (a + 2))) b wr.drew.drew hbv (by omega) (by omega)
              obtain ⟨ao3, cap3, s3x⟩ := HOP.out.size'.c3
              obtain ⟨rl, hrl⟩ : ∃ rl, rl = rs.length := ⟨_, rfl⟩
              have s3 : wr.cell? ⟨p, 3, none⟩ = some (.slice ao3 rl cap3) := by rw [hrl]; exact s3x
              have hrlb : rl ≤ 100000 := by
                have h5 := enc_len_ge rs
                rw [← HPA.out.enc, List.length_take] at h5
                omega
              have HREC : Hid (∀ w7 x, Below wr.drew.drew.heap.size wr.drew.drew w7 → RecAt w7 (fun k => wr.drew.drew.heap.size ≤ k ∧ k < w7.heap.size) x b → ∃ ao6 cap6 w8,
                  (Builtin.append_ #[56, 56] 56 #[.slice ao3 rl cap3, .slice (some ⟨w7.heap.size, 0, none⟩) 1 1]).run Try.prog (w7.alloc (.cells #[x] 23)) = .ok (.slice ao6 (rl + 1) cap6) w8 ∧
                  w7.cell? ⟨p, 3, none⟩ = some (.slice ao3 rl cap3) ∧ w8.cell? ⟨p, 3, none⟩ = some (.slice ao3 rl cap3) ∧ w8.frozen? ⟨p, 3, none⟩ = false ∧ p < w7.heap.size ∧
                  Hid (OpAt w (w8.setCell ⟨p, 3, none⟩ (.slice ao6 (rl + 1) cap6)) p d fr mn { mkL o (rs ++ [b]) with epoch := E + 1 })) := by
                intro w7 x hb7 hx7
                obtain ⟨ao6, cap6, w8, z1, z2, z3, z4, z5, z6⟩ := op_recs HOP.out.drew.drew (show wr.drew.drew.cell? ⟨p, 3, none⟩ = _ from s3) hb7 hx7 (show rs.length ≤ _ by omega)
                rw [show ({ mkL o rs with epoch := E + 1 } : LogS).recs.length = rl from hrl.symm] at z1 z6
                exact ⟨ao6, cap6, w8, z1, z2, z3, z4, z5, z6⟩
              have HPN : Hid (ParseAt o.stream (a + 2 + N) (rs ++ [b])) := by
                have := HPA.out.next (by rw [← HNN.out]; omega) (by rw [← HNN.out]; omega) (by rw [← HNN.out, ← HN.out]; omega)
                rw [← HNN.out, ← hb] at this
                exact this
              have hw1 : IntKind.i64.wrap ((a : Int) + 2) = (a : Int) + 2 := IntWalk.i64_in _ (by omega)
              have hw2 : IntKind.i64.wrap ((a : Int) + 2 + (N : Int)) = (a : Int) + 2 + (N : Int) := IntWalk.i64_in _ (by omega)
              have hcne : ¬ cap = a + 2 := by omega
              have hq1 : (a : Int) + 2 + (N : Int) ≤ (cap : Int) := by omega
              have hq2 : (0 : Int) ≤ (a : Int) + 2 + (N : Int) := by omega
              have hq3 : (0 : Int) ≤ (a : Int) + 2 := by omega
              have hq4 : max ((a : Int) + 2 + (N : Int)) 0 = (a : Int) + 2 + (N : Int) := by omega
              have hq5 : (a : Int) + 2 ≤ (a : Int) + 2 + (N : Int) := by omega
              have hq6 : ((a : Int) + 2).toNat = a + 2 := by omega
              have hq7 : ((a : Int) + 2 + (N : Int)).toNat = a + 2 + N := by omega
              have hq8 : a + 2 + N - (a + 2) = N := by omega
              clear hb hbv s3x hrl HPA HOP hby hbl
              go_wp2_with fail
              go_region_law
                (first
                  | (go_simp; go_at_call 55; refine hcl.mono ?_; rintro e w7 ⟨hb7, x, rfl, hrec⟩; obtain ⟨xo, xc, hxe⟩ := row_slice hrec.1; subst hxe; obtain ⟨ao6, cap6, w8, hr8, hk7, hk8, hf8, hp7, HY8⟩ := HREC.out _ _ hb7 hrec)
                  | (refine step_append_run (by rfl) _ _ _ _ (by rfl) _ _ (by rfl) (by rfl) _ _ hr8 ?_))
              all_goals
                clear hr8 hk7 hk8 hf8 hp7 hcl HREC
                go_wp2_with fail
                go_roundw
                case rel => exact ⟨a + 2 + N, rs ++ [b], by omega, by rw [show (a : Int) + (2 + (N : Int)) = ((a + 2 + N : Nat) : Int) by omega], HPN, HY8⟩
                case measure => simp [intOf]; omega
    · have HST : Hid (parse o.stream.length o.stream = rs ∧ o.stream.take a = enc rs) := HPA.out.stop (Or.inl (by rw [← HN.out]; omega))
      obtain ⟨ao, cap, p4x⟩ := HOP.out.size'.c4
      have p4 : wr.cell? ⟨p, 4, none⟩ = some (.slice ao n cap) := by rw [HN.out]; exact p4x
      clear HPA p4x
      go_wp2_with fail
      exact HQ.out a rs _ _ _ _ _ _ _ _ _ _ _ _ _ _ _ _ _ _ _ _ _ _ _ _ _ _ _ _ _ _ _ _ _ _ _ _ _ _ _ _ _ _ _ _ _ _ _ _ _ _ _ _ _ _ _ _ _ _ _ _ _ _ _ _ _ _ _ _ _ _ _ _ han HST HOP
end Go.Proofs.Ytldpflijgbcbhaa.lg
