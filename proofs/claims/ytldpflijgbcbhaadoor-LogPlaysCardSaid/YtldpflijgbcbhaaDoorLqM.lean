/- LogPlays: the records compared (block 7), a piece of its own. (Printed by a program of mine.) -/
import Derived.Test.YtldpflijgbcbhaaDoorLqC
import Derived.Test.YtldpflijgbcbhaaDoorPiece
import Derived.Deep.CutBlock
import Derived.Deep.DeepCutAuto
import Derived.StillTailTactics
import Derived.BigQuiet
import Derived.Deep.QuietTactic
import Derived.WalkSpells
namespace Go.Proofs.YtldpflijgbcbhaaDoor.lg
open Go.RowKit
/-- bytes as a text -/
theorem conv_in {w : World} {v : Value} {l : List UInt8} (h : BytesW w v l) (m : Nat) : (convert 22 9 v).run Tryd.prog (w.drewN m) = .ok (.string ⟨l.toArray⟩) (w.drewN m) := by
  obtain ⟨sp, cap, rfl, h⟩ := h
  rcases Nat.eq_zero_or_pos l.length with h0 | h0
  · obtain rfl := List.length_eq_zero_iff.1 h0
    cases sp with
    | none => exact run_convert_bytes_nil _ _ _ Tryd.underlying22 Tryd.underlying5 0 cap _ Tryd.underlying9
    | some a => exact run_convert_bytes_back (w.drewN m) _ _ _ a cap [] Tryd.underlying22 Tryd.underlying5 Tryd.underlying9 (fun j hj => by simp at hj)
  · obtain ⟨b, off, rfl, hlt, hx⟩ := h h0
    exact run_convert_bytes_back (w.drewN m) _ _ _ ⟨b, off, none⟩ cap l Tryd.underlying22 Tryd.underlying5 Tryd.underlying9 (fun j hj => by
      rw [addr_add]
      exact hx j (byteV l[j]) (by simp [hj]))
/-- records there and there are the same -/
def SameAt (W : World) (go ao : Option Addr) (rl : Nat) : Prop := ∀ j, j < rl → ∃ (gg ga n : Nat) (xo yo : Option Addr) (xc yc : Nat) (b : List UInt8), go = some ⟨gg, 0, none⟩ ∧ ao = some ⟨ga, 0, none⟩ ∧ W.cell? ⟨gg, j, none⟩ = some (.slice xo n xc) ∧ W.cell? ⟨ga, j, none⟩ = some (.slice yo n yc) ∧ BytesW W (.slice xo n xc) b ∧ BytesW W (.slice yo n yc) b
theorem SameAt.drew {W : World} {go ao : Option Addr} {rl : Nat} (h : SameAt W go ao rl) (n : Nat) : SameAt (W.drewN n) go ao rl := h
noncomputable def playsM : Code := (Tryd.f8.body).getD .skip
set_option maxRecDepth 100000 in
set_option maxHeartbeats 16000000 in
theorem cmp_block {u0 u1 u2 u3 u4 u5 u6 u7 u8 u9 u10 u11 u12 u14 u15 u16 u17 u18 u19 u20 u21 u22 u23 u24 u25 u26 u29 u30 u31 u32 u33 u34 u35 u36 u37 u38 u39 u40 u41 u42 u43 u44 u45 u46 u47 u48 u49 u50 u51 u52 u53 u54 u55 u56 u57 u58 u59 u60 u61 u62 u63 u64 u65 u66 u67 u68 u69 u70 u71 u72 u73 u74 u75 u76 u77 u78 u79 u80 u81 u82 u83 u84 u85 u86 u87 u88 u89 u90 u91 u92 u93 u94 u95 u96 u97 u98 u99 u100 u101 u102 u103 u104 u105 u106 u107 u108 u109 u110 u111 u112 u113 u114 u115 u116 u117 u118 u119 u120 u121 u122 u123 u124 u125 u126 u127 u128 u129 u130 u131 u132 u133 u134 u135 u136 u137 u138 u139 u140 u141 u142 u143 u144 u145 u146 u147 u148 u149 u150 u151 u152 u153 u154 u155 u156 u157 u158 u159 u160 u161 u162 u163 u164 u165 u166 u167 u168 u169 u170 u171 u172 u173 u174 u175 u176 u177 u178 u179 u180 u181 u182 u183 u184 u185 u186 u187 u188 u189 u190 u191 u192 u193 u194 u195 u196 u197 u198 u199 u200 u201 u202 u203 u204 u205 u206 u207 u208 u209 u210 u211 u212 u213 u214 u215 u216 u217 u218 u219 u220 u221 u222 u223 u224 u225 u226 u227 u228 u229 u230 u231 u232 u233 u234 u235 u236 u237 u238 u239 u240 u241 u242 u243 u244 u245 u246 u247 u248 : Value} {K : Act → World → Prop} {W : World} {go ao : Option Addr} {rl gc ac : Nat}
    (HS : Hid (SameAt W go ao rl)) (hrb : rl ≤ 100000) (hgc : rl ≤ gc) (hac : rl ≤ ac)
    (HK : Hid (∀  (y6 y28 y221 y222 y223 y224 y225 y226 y227 y228 y229 y230 y231 y232 y233 y234 y235 y236 y237 : Value) (wx : World), Hid (Below W.heap.size W wx) → K { tmps := #[u0, u1, u2, u3, u4, u5, y6, u7, u8, u9, u10, u11, u12, .slice ao rl ac, u14, u15, u16, u17, u18, u19, u20, u21, u22, u23, u24, u25, u26, .slice go rl gc, y28, u29, u30, u31, u32, u33, u34, u35, u36, u37, u38, u39, u40, u41, u42, u43, u44, u45, u46, u47, u48, u49, u50, u51, u52, u53, u54, u55, u56, u57, u58, u59, u60, u61, u62, u63, u64, u65, u66, u67, u68, u69, u70, u71, u72, u73, u74, u75, u76, u77, u78, u79, u80, u81, u82, u83, u84, u85, u86, u87, u88, u89, u90, u91, u92, u93, u94, u95, u96, u97, u98, u99, u100, u101, u102, u103, u104, u105, u106, u107, u108, u109, u110, u111, u112, u113, u114, u115, u116, u117, u118, u119, u120, u121, u122, u123, u124, u125, u126, u127, u128, u129, u130, u131, u132, u133, u134, u135, u136, u137, u138, u139, u140, u141, u142, u143, u144, u145, u146, u147, u148, u149, u150, u151, u152, u153, u154, u155, u156, u157, u158, u159, u160, u161, u162, u163, u164, u165, u166, u167, u168, u169, u170, u171, u172, u173, u174, u175, u176, u177, u178, u179, u180, u181, u182, u183, u184, u185, u186, u187, u188, u189, u190, u191, u192, u193, u194, u195, u196, u197, u198, u199, u200, u201, u202, u203, u204, u205, u206, u207, u208, u209, u210, u211, u212, u213, u214, u215, u216, u217, u218, u219, u220, y221, y222, y223, y224, y225, y226, y227, y228, y229, y230, y231, y232, y233, y234, y235, y236, y237, u238, u239, u240, u241, u242, u243, u244, u245, u246, u247, u248], defers := [] } wx)) :
    Code.wp Tryd.prog ((findB 7 playsM).getD .skip) (Exit.then K (fun _ _ _ => False)) { tmps := #[u0, u1, u2, u3, u4, u5, u6, u7, u8, u9, u10, u11, u12, .slice ao rl ac, u14, u15, u16, u17, u18, u19, u20, u21, u22, u23, u24, u25, u26, .slice go rl gc, .int .i64 0, u29, u30, u31, u32, u33, u34, u35, u36, u37, u38, u39, u40, u41, u42, u43, u44, u45, u46, u47, u48, u49, u50, u51, u52, u53, u54, u55, u56, u57, u58, u59, u60, u61, u62, u63, u64, u65, u66, u67, u68, u69, u70, u71, u72, u73, u74, u75, u76, u77, u78, u79, u80, u81, u82, u83, u84, u85, u86, u87, u88, u89, u90, u91, u92, u93, u94, u95, u96, u97, u98, u99, u100, u101, u102, u103, u104, u105, u106, u107, u108, u109, u110, u111, u112, u113, u114, u115, u116, u117, u118, u119, u120, u121, u122, u123, u124, u125, u126, u127, u128, u129, u130, u131, u132, u133, u134, u135, u136, u137, u138, u139, u140, u141, u142, u143, u144, u145, u146, u147, u148, u149, u150, u151, u152, u153, u154, u155, u156, u157, u158, u159, u160, u161, u162, u163, u164, u165, u166, u167, u168, u169, u170, u171, u172, u173, u174, u175, u176, u177, u178, u179, u180, u181, u182, u183, u184, u185, u186, u187, u188, u189, u190, u191, u192, u193, u194, u195, u196, u197, u198, u199, u200, u201, u202, u203, u204, u205, u206, u207, u208, u209, u210, u211, u212, u213, u214, u215, u216, u217, u218, u219, u220, u221, u222, u223, u224, u225, u226, u227, u228, u229, u230, u231, u232, u233, u234, u235, u236, u237, u238, u239, u240, u241, u242, u243, u244, u245, u246, u247, u248], defers := [] } W := by
  rw [show (findB 7 playsM).getD .skip = Code.block 7 _ from rfl]
  go_wp2_with fail
  go_loopw [28] (fun jv wr => ∃ j : Nat, jv = .int .i64 (j : Int) ∧ j ≤ rl ∧ Hid (SameAt wr go ao rl) ∧ Hid (Below W.heap.size W wr)) (fun jv _ => rl - (intOf jv).toNat)
  case atStart => exact ⟨0, rfl, Nat.zero_le _, HS.out, Below.refl _ _⟩
  case round =>
    clear HS
    obtain ⟨j, rfl, hj, HS, HB⟩ := hrel
    by_cases hjr : j < rl
    · obtain ⟨gg, ga, n, xo, yo, xc, yc, b, rfl, rfl, cx, cy, bx, bY⟩ := HS.out j hjr
      have hcv1 := fun n => conv_in bx n
      have hcv2 := fun n => conv_in bY n
      have HS2 := fun n => Lib.hid (HS.out.drew n)
      have HB2 := fun n => Lib.hid (below_drewN HB.out n)
      clear bx bY HS HB
      go_wp2_with fail
      go_quiet (fail)
      clear hcv1 hcv2
      go_wp2_with fail
      go_roundw
      case rel => exact ⟨j + 1, by go_num, by omega, HS2 _, HB2 _⟩
      case measure => simp [intOf]; omega
    · obtain rfl : j = rl := by omega
      go_wp2_with fail
      exact HK.out _ _ _ _ _ _ _ _ _ _ _ _ _ _ _ _ _ _ _ _ HB
end Go.Proofs.YtldpflijgbcbhaaDoor.lg
