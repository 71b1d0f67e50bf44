/- log.Open's look at three blocks (block 2), a piece of its own. (Printed by wip/tools/gen_in.py.) -/
import Derived.Test.YtldpflijgbcbhaaLgM2
import Derived.Test.YtldpflijgbcbhaaPiece
import Derived.Deep.CutBlock
import Derived.Deep.DeepCutAuto
namespace Go.Proofs.Ytldpflijgbcbhaa.lg
open Go.RowKit

set_option maxRecDepth 100000 in
set_option maxHeartbeats 16000000 in
theorem in_block {u0 u1 u2 u3 u4 u5 u6 u7 u8 u14 u15 u16 u17 u18 u19 u20 u21 u22 u23 u24 u25 u26 u27 u28 u29 u30 u31 u32 u33 u34 u35 u36 u37 u38 u39 u43 u44 u45 u46 u47 u48 u49 u50 u51 u52 u53 u54 u55 u56 u57 u58 u59 u60 u61 u62 u63 u64 u65 u66 u67 u68 u69 u70 u71 u72 u73 u74 u75 u76 u77 u78 u79 u80 u81 u82 u83 u84 u85 u86 u87 u88 u89 u90 u91 u92 u93 u94 u95 u96 u97 u98 u99 u100 u101 u102 u103 u104 u105 u106 u107 u108 u109 u110 u111 u112 u113 u114 u115 u116 u117 u118 u119 u120 u121 u122 u123 u124 u125 u126 u127 u128 u129 u130 u131 u132 u133 u134 u135 u136 u137 u138 u139 u140 u141 u142 u143 u144 u145 u146 u147 u148 u149 u150 u151 u152 u153 u154 u155 u156 u157 u158 u159 u160 u161 u162 u163 u164 u165 u166 u167 u168 u169 u170 u171 u172 u173 u174 u175 u176 u177 u178 u179 u180 u181 u182 u183 u184 u185 u186 u187 u188 u189 u190 u191 u192 u193 u194 u195 u196 u197 u198 u199 u200 u201 u202 u203 u204 u205 u206 u207 u208 u209 u210 u211 u212 u213 u214 u215 u216 u217 u218 u219 u220 u221 u222 u223 u224 u225 u226 u227 u228 u229 u230 u231 u232 u233 u234 u235 u236 u237 u238 u239 u240 u241 u242 u243 u244 u245 u246 u247 u248 u249 u250 u251 u252 u253 u254 u255 u256 u257 u258 u259 u260 u261 u262 u263 u264 u265 u266 : Value} {K : Act → World → Prop} {w W3 : World} {p d fr mn be k la : Nat} {blk : Nat → Option Chk} {o : OpS}
    (h2 : mn ≤ 200) (hkm : k ≤ mn) (hla : la ≤ 65535)
    (HEP : Hid (∀ i c, blk i = some c → c.epoch ≤ 65535 ∧ c.used ≤ 60 ∧ c.index ≤ 255 ∧ c.bytes.length ≤ 60))
    (HRD : Hid (∀ i wr, Below w.heap.size w wr → HeadL wr p d fr mn → i ≤ 1000 → Calls Try.prog 54 #[.pointer (some ⟨p, 0, none⟩), .int .i64 (i : Nat)] wr (ReadPostL wr (blk i))))
    (HI0 : Hid (InS w W3 p d fr mn be (be + 1) k la 0 o.epoch blk (mkL o []) (-1)))
    (HQ : Hid (∀ (a' : Int) (y15 y16 y17 y42 y43 y44 y45 y46 y47 y48 y49 y50 y51 y52 y53 y54 y55 y56 y57 y58 y59 y60 y61 y62 y63 y64 y65 y66 y67 y68 y69 y70 y71 y72 y73 y74 y75 y76 y77 y78 y79 y80 y81 y82 y83 y84 y85 y86 y87 y88 y89 y90 y91 y92 y93 y94 y95 y96 y97 y98 y99 y100 y101 y102 y103 y104 y105 y106 y107 : Value) (wx : World), Hid (InS w wx p d fr mn be (be + 1) k la 3 o.epoch blk (mkL o []) a') → K { tmps := #[u0, u1, u2, u3, u4, u5, u6, u7, u8, .pointer (some ⟨p, 0, none⟩), .int .i64 (la : Int), .int .i64 (k : Int), .pointer (some ⟨be, 0, none⟩), .int .i64 a', u14, y15, y16, y17, u18, u19, u20, u21, u22, u23, u24, u25, u26, u27, u28, u29, u30, u31, u32, u33, u34, u35, u36, u37, u38, u39, .slice (some ⟨be + 1, 0, none⟩) 3 3, .int .i64 3, y42, y43, y44, y45, y46, y47, y48, y49, y50, y51, y52, y53, y54, y55, y56, y57, y58, y59, y60, y61, y62, y63, y64, y65, y66, y67, y68, y69, y70, y71, y72, y73, y74, y75, y76, y77, y78, y79, y80, y81, y82, y83, y84, y85, y86, y87, y88, y89, y90, y91, y92, y93, y94, y95, y96, y97, y98, y99, y100, y101, y102, y103, y104, y105, y106, y107, u108, u109, u110, u111, u112, u113, u114, u115, u116, u117, u118, u119, u120, u121, u122, u123, u124, u125, u126, u127, u128, u129, u130, u131, u132, u133, u134, u135, u136, u137, u138, u139, u140, u141, u142, u143, u144, u145, u146, u147, u148, u149, u150, u151, u152, u153, u154, u155, u156, u157, u158, u159, u160, u161, u162, u163, u164, u165, u166, u167, u168, u169, u170, u171, u172, u173, u174, u175, u176, u177, u178, u179, u180, u181, u182, u183, u184, u185, u186, u187, u188, u189, u190, u191, u192, u193, u194, u195, u196, u197, u198, u199, u200, u201, u202, u203, u204, u205, u206, u207, u208, u209, u210, u211, u212, u213, u214, u215, u216, u217, u218, u219, u220, u221, u222, u223, u224, u225, u226, u227, u228, u229, u230, u231, u232, u233, u234, u235, u236, u237, u238, u239, u240, u241, u242, u243, u244, u245, u246, u247, u248, u249, u250, u251, u252, u253, u254, u255, u256, u257, u258, u259, u260, u261, u262, u263, u264, u265, u266], defers := [] } wx)) :
    Code.wp Try.prog ((findB 2 openC).getD .skip) (Exit.then K (fun _ _ _ => False)) { tmps := #[u0, u1, u2, u3, u4, u5, u6, u7, u8, .pointer (some ⟨p, 0, none⟩), .int .i64 (la : Int), .int .i64 (k : Int), .pointer (some ⟨be, 0, none⟩), .int .i64 (-1), u14, u15, u16, u17, u18, u19, u20, u21, u22, u23, u24, u25, u26, u27, u28, u29, u30, u31, u32, u33, u34, u35, u36, u37, u38, u39, .slice (some ⟨be + 1, 0, none⟩) 3 3, .int .i64 3, .int .i64 0, u43, u44, u45, u46, u47, u48, u49, u50, u51, u52, u53, u54, u55, u56, u57, u58, u59, u60, u61, u62, u63, u64, u65, u66, u67, u68, u69, u70, u71, u72, u73, u74, u75, u76, u77, u78, u79, u80, u81, u82, u83, u84, u85, u86, u87, u88, u89, u90, u91, u92, u93, u94, u95, u96, u97, u98, u99, u100, u101, u102, u103, u104, u105, u106, u107, u108, u109, u110, u111, u112, u113, u114, u115, u116, u117, u118, u119, u120, u121, u122, u123, u124, u125, u126, u127, u128, u129, u130, u131, u132, u133, u134, u135, u136, u137, u138, u139, u140, u141, u142, u143, u144, u145, u146, u147, u148, u149, u150, u151, u152, u153, u154, u155, u156, u157, u158, u159, u160, u161, u162, u163, u164, u165, u166, u167, u168, u169, u170, u171, u172, u173, u174, u175, u176, u177, u178, u179, u180, u181, u182, u183, u184, u185, u186, u187, u188, u189, u190, u191, u192, u193, u194, u195, u196, u197, u198, u199, u200, u201, u202, u203, u204, u205, u206, u207, u208, u209, u210, u211, u212, u213, u214, u215, u216, u217, u218, u219, u220, u221, u222, u223, u224, u225, u226, u227, u228, u229, u230, u231, u232, u233, u234, u235, u236, u237, u238, u239, u240, u241, u242, u243, u244, u245, u246, u247, u248, u249, u250, u251, u252, u253, u254, u255, u256, u257, u258, u259, u260, u261, u262, u263, u264, u265, u266], defers := [] } W3 := by
  rw [show (findB 2 openC).getD .skip = Code.block 2 _ from rfl]
  go_wp2_with fail
  go_loopw [13, 42] (fun a z wr => ∃ (j : Nat) (a' : Int), j ≤ 3 ∧ z = .int .i64 (j : Int) ∧ a = .int .i64 a' ∧ Hid (InS w wr p d fr mn be (be + 1) k la j o.epoch blk (mkL o []) a')) (fun _ z _ => 3 - (intOf z).toNat)
  case atStart => exact ⟨0, -1, by omega, rfl, rfl, HI0.out⟩
  case round =>
    obtain ⟨j, a', hj, rfl, rfl, HI⟩ := hrel
    clear HI0
    by_cases hj3 : j < 3
    · have hix := idx_cell HI.out.ix hj3
      obtain ⟨I, hI⟩ : ∃ I, I = idx k j := ⟨_, rfl⟩
      rw [← hI] at hix
      have hI2 : I ≤ 300 := by have := @idx_le k j; omega
      have hrd := HRD.out I wr HI.out.op.below HI.out.op.head (by omega)
      have HII := Lib.hid hI
      clear hI
      go_wp2_with fail
      refine hrd.mono ?_
      rintro e w9 hpost
      obtain ⟨hb9, u, x, ep, sp, len, cp, ok, rfl, hnum⟩ := read_num hpost
      clear hpost hrd
      obtain ⟨e1, he1⟩ : ∃ e1, e1 = epN blk k o.epoch j := ⟨_, rfl⟩
      obtain ⟨X, hX⟩ : ∃ X, X = epN blk k o.epoch (j + 1) := ⟨_, rfl⟩
      have hXm : X = max e1 ep := by rw [hX, he1, ← hnum.1, HII.out]; rfl
      have hmx : (if e1 < ep then (ep : Int) else (e1 : Int)) = (X : Int) := by split <;> omega
      obtain ⟨V, hV⟩ : ∃ V, V = ((w9.setCell ⟨p, 5, none⟩ (.int .i64 (X : Int))).alloc (.cells #[.int .i64 u, .int .i64 x, .int .i64 ep, .slice sp len cp] 99)).drew := ⟨_, rfl⟩
      have hR := HI.out.read hb9 hX hV
      have HR := Lib.hid hR
      have c5 : w9.cell? ⟨p, 5, none⟩ = some (.int .i64 e1) := by rw [he1]; exact (hb9.cell (p := ⟨p, 5, none⟩) hR.2.2.2.2.2.1).trans HI.out.op.cells.c5
      have hp9 : p < w9.heap.size := Nat.lt_of_lt_of_le hR.2.2.2.2.2.1 hb9.size
      have f5 : w9.frozen? ⟨p, 5, none⟩ = false := (HI.out.op.later hb9).cells.fz 5
      have HV := Lib.hid hV
      have HX := Lib.hid hX
      have HNUM := Lib.hid hnum
      have HB9 := Lib.hid hb9
      clear hR hV hX hXm he1 hnum hb9 hix
      go_wp2_with fail
      go_big_region
      rw [← HV.out]
      obtain ⟨hop, hcb, hkw, hk9, hs9, _, hbl, _⟩ := HR.out
      obtain ⟨bu, bx, bep, spb, lenb, cpb, hacc, hbb, hbby⟩ := HI.out.best
      obtain ⟨cb, hcbe⟩ : ∃ cb, cb = w9.heap.size := ⟨_, rfl⟩
      rw [← hcbe] at hcb ⊢
      have hVb := (hkw be hbl (by have := HI.out.lt; omega)).trans hbb
      have t0 : V.cell? ⟨cb, 0, none⟩ = some (.int .i64 u) := cell_of_heap hcb 0
      have t1 : V.cell? ⟨cb, 1, none⟩ = some (.int .i64 x) := cell_of_heap hcb 1
      have t2 : V.cell? ⟨cb, 2, none⟩ = some (.int .i64 ep) := cell_of_heap hcb 2
      have t3 : V.cell? ⟨cb, 3, none⟩ = some (.slice sp len cp) := cell_of_heap hcb 3
      have b0 : V.cell? ⟨be, 0, none⟩ = some (.int .i64 bu) := cell_of_heap hVb 0
      have b1 : V.cell? ⟨be, 1, none⟩ = some (.int .i64 bx) := cell_of_heap hVb 1
      have b2 : V.cell? ⟨be, 2, none⟩ = some (.int .i64 bep) := cell_of_heap hVb 2
      have b3 : V.cell? ⟨be, 3, none⟩ = some (.slice spb lenb cpb) := cell_of_heap hVb 3
      have bf0 : V.frozen? ⟨be, 0, none⟩ = false := free_of_heap hVb 0
      have bf1 : V.frozen? ⟨be, 1, none⟩ = false := free_of_heap hVb 1
      have bf2 : V.frozen? ⟨be, 2, none⟩ = false := free_of_heap hVb 2
      have bf3 : V.frozen? ⟨be, 3, none⟩ = false := free_of_heap hVb 3
      have hsz : wr.heap.size ≤ V.heap.size := by have := HB9.out.size; omega
      have HKEEP : Hid (lookN blk k la (j + 1) = lookN blk k la j → Hid (InS w V p d fr mn be (be + 1) k la (j + 1) o.epoch blk (mkL o []) a')) := fun he => HI.out.keep hop hkw hsz he
      have HTAKE : Hid (∀ c, lookN blk k la (j + 1) = some (c, I) → u = c.used → x = c.index → ep = c.epoch → BytesW w9 (.slice sp len cp) c.bytes → (∀ y, sp = some y → wr.heap.size ≤ y.block) → Hid (InS w (set4 V be (.int .i64 u) (.int .i64 x) (.int .i64 ep) (.slice sp len cp)) p d fr mn be (be + 1) k la (j + 1) o.epoch blk (mkL o []) (I : Int))) :=
        fun c he h1 h2 h3 h4 h5 => HI.out.take hop hkw hk9 hs9 HB9.out.size he h1 h2 h3 h4 h5
      have HACC := Lib.hid hacc
      have HLK : Hid (lookN blk k la (j + 1) = look blk k la (lookN blk k la j) I) := by show _ = _; rw [HII.out]; rfl
      have HOKN : Hid (blk I = none ∨ ∃ c, blk I = some c) := by
        show _ ∨ _
        cases blk I with
        | none => exact Or.inl rfl
        | some c => exact Or.inr ⟨c, rfl⟩
      clear hop hcb hkw hk9 hs9 hbl hbb hbby hcbe hVb hacc HI HR HV c5 f5 hp9 hmx hsz
      rcases HOKN.out with hno | ⟨c, hc⟩
      · have hok : ok = false := by have := HNUM.out.2; rw [hno] at this; exact this
        subst hok
        have HN := HKEEP.out (by rw [HLK.out]; exact look_no hno)
        clear HKEEP HTAKE HNUM hno HLK HOKN
        go_wp2_with fail
        go_roundw
        case rel => exact ⟨j + 1, a', by omega, by go_num, rfl, HN⟩
        case measure => simp [intOf]; omega
      · have hnum2 := HNUM.out.2
        have hep2 := HNUM.out.1
        rw [hc] at hnum2 hep2
        obtain ⟨hok, hu, hx, hby, hsp⟩ := hnum2
        subst hok
        have hcu := HEP.out I c hc
        have hce : c.epoch = ep := hep2
        rw [hce, ← hu, ← hx] at hcu
        have HBY := Lib.hid hby
        have HSP := Lib.hid hsp
        have HU := Lib.hid hu
        have HXX := Lib.hid hx
        have HCE := Lib.hid hce
        clear hby hsp hep2 HNUM HOKN hu hx hce
        go_upto_region 14 with (fail)
        go_cut [85] from 43 to 107 (fun v wx => wx = V ∧ v = .bool (decide (¬ (x = k % 256 ∧ la ≤ ep ∧ (I < 2 ∨ 60 ≤ u)))))
        case first =>
          by_cases g1 : x = k % 256
          · by_cases g2 : la ≤ ep
            · by_cases g3 : I < 2
              · skip
                go_wp2_with fail
                go_meet
                exact ⟨rfl, congrArg Value.bool (by first | (simp [*]; done) | (simp [*]; omega) | (simp; omega))⟩
              · by_cases g4 : 60 ≤ u
                · skip
                  go_wp2_with fail
                  go_meet
                  exact ⟨rfl, congrArg Value.bool (by first | (simp [*]; done) | (simp [*]; omega) | (simp; omega))⟩
                · skip
                  go_wp2_with fail
                  go_meet
                  exact ⟨rfl, congrArg Value.bool (by first | (simp [*]; done) | (simp [*]; omega) | (simp; omega))⟩
            · skip
              go_wp2_with fail
              go_meet
              exact ⟨rfl, congrArg Value.bool (by first | (simp [*]; done) | (simp [*]; omega) | (simp; omega))⟩
          · skip
            go_wp2_with fail
            go_meet
            exact ⟨rfl, congrArg Value.bool (by first | (simp [*]; done) | (simp [*]; omega) | (simp; omega))⟩
        case rest =>
          obtain ⟨hwc, hvv⟩ := hcut
          rw [hwc, hvv]
          clear hwc hvv
          by_cases hg : x = k % 256 ∧ la ≤ ep ∧ (I < 2 ∨ 60 ≤ u)
          · rw [show decide (¬ (x = k % 256 ∧ la ≤ ep ∧ (I < 2 ∨ 60 ≤ u))) = false from decide_eq_false (fun h => h hg)]
            by_cases b1 : bep < (ep : Int)
            · skip
              have HN := HTAKE.out c (by rw [HLK.out]; exact look_take hc (by rw [← HXX.out, HCE.out, ← HU.out]; omega) HACC.out (by rw [HCE.out, ← HU.out]; omega)) HU.out HXX.out HCE.out.symm HBY.out HSP.out
              clear HKEEP HTAKE HLK HACC HBY HSP hg
              go_wp2_with fail
              go_roundw
              case rel => exact ⟨j + 1, (I : Int), by omega, by go_num, rfl, HN⟩
              case measure => simp [intOf]; omega
            · by_cases b2 : bep = (ep : Int)
              · subst b2
                by_cases b3 : bu < (u : Int)
                · skip
                  have HN := HTAKE.out c (by rw [HLK.out]; exact look_take hc (by rw [← HXX.out, HCE.out, ← HU.out]; omega) HACC.out (by rw [HCE.out, ← HU.out]; omega)) HU.out HXX.out HCE.out.symm HBY.out HSP.out
                  clear HKEEP HTAKE HLK HACC HBY HSP hg
                  go_wp2_with fail
                  go_roundw
                  case rel => exact ⟨j + 1, (I : Int), by omega, by go_num, rfl, HN⟩
                  case measure => simp [intOf]; omega
                · skip
                  have HN := HKEEP.out (by rw [HLK.out]; exact look_less hc HACC.out (by rw [HCE.out, ← HU.out]; omega))
                  clear HKEEP HTAKE HLK HACC
                  go_wp2_with fail
                  go_roundw
                  case rel => exact ⟨j + 1, a', by omega, by go_num, rfl, HN⟩
                  case measure => simp [intOf]; omega
              · skip
                have HN := HKEEP.out (by rw [HLK.out]; exact look_less hc HACC.out (by rw [HCE.out, ← HU.out]; omega))
                clear HKEEP HTAKE HLK HACC
                go_wp2_with fail
                go_roundw
                case rel => exact ⟨j + 1, a', by omega, by go_num, rfl, HN⟩
                case measure => simp [intOf]; omega
          · rw [show decide (¬ (x = k % 256 ∧ la ≤ ep ∧ (I < 2 ∨ 60 ≤ u))) = true from decide_eq_true hg]
            have HN := HKEEP.out (by rw [HLK.out]; exact look_bad hc (by rw [← HXX.out, HCE.out, ← HU.out]; omega))
            clear HKEEP HTAKE HLK HACC
            go_wp2_with fail
            go_roundw
            case rel => exact ⟨j + 1, a', by omega, by go_num, rfl, HN⟩
            case measure => simp [intOf]; omega
    · obtain rfl : j = 3 := by omega
      go_wp2_with fail
      exact HQ.out a' _ _ _ _ _ _ _ _ _ _ _ _ _ _ _ _ _ _ _ _ _ _ _ _ _ _ _ _ _ _ _ _ _ _ _ _ _ _ _ _ _ _ _ _ _ _ _ _ _ _ _ _ _ _ _ _ _ _ _ _ _ _ _ _ _ _ _ _ _ _ HI
end Go.Proofs.Ytldpflijgbcbhaa.lg
