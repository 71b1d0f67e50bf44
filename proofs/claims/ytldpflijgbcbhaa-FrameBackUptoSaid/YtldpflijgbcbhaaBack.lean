/- FrameBack: the walk of the law. -/
import Derived.Test.YtldpflijgbcbhaaBackL
import Derived.Test.YtldpflijgbcbhaaErrV
import Derived.Test.YtldpflijgbcbhaaFbalw
import Derived.Deep.DeepCutAuto
import Derived.BigQuiet
namespace Go.Proofs.Ytldpflijgbcbhaa.back
open Go.RowKit

set_option maxRecDepth 100000 in
set_option maxHeartbeats 8000000 in
theorem walk (x : EntryM) (lao : Option Addr) (lc : Nat) (t : List BalM) (bao : Option Addr) (bc : Nat) (l : List UInt8) (sp : Option Addr) (cap : Nat) (w : World)
    (hlx : LinesAt w lao x.lines) (hxf : x.fair) (hbt : BalsAt w bao t) (htf : ∀ y ∈ t, y.fair) (htm : t.length ≤ 9223372036854775807) (hsrc : SrcW w sp l) (hcap : l.length ≤ cap) (hlm : l.length ≤ 1048576) :
    Calls Try.prog 4 #[entryV x lao lc, .slice bao t.length bc, .slice sp l.length cap] w fun e w' => e = .returned (.bool true) ∧ Below w.heap.size w w' := by
  obtain ⟨W0, hW0⟩ : ∃ W0, W0 = w.alloc (.cells #[.string x.ref, .int .i64 x.ent, .int .i64 x.per, .slice lao x.lines.length lc] 30) := ⟨_, rfl⟩
  have hb0 : Below w.heap.size w W0 := by rw [hW0]; exact (Below.refl _ _).alloc (Nat.le_refl _) _
  have hbox : W0.heap[w.heap.size]? = some (.cells #[.string x.ref, .int .i64 x.ent, .int .i64 x.per, .slice lao x.lines.length lc] 30 (0, 0)) := by rw [hW0]; exact heap_new_at rfl _
  have hs0 : w.heap.size < W0.heap.size := lt_of_heap hbox
  have HLX := Lib.hid (hlx.below hb0 (Nat.le_refl _))
  have HXF := Lib.hid hxf
  have HBT := Lib.hid (hbt.below hb0 (Nat.le_refl _))
  have HTF := Lib.hid htf
  have HSRC := Lib.hid (hsrc.below hb0 (Nat.le_refl _))
  have HB0 := Lib.hid hb0
  have HBOX := Lib.hid hbox
  have h1 := entry_any M1 none 0 W0 M1_fair (Or.inl rfl)
  rw [(entry_code M1).2 M1_ok] at h1
  have HW0 := Lib.hid hW0
  unfold entryV
  clear hlx hxf hbt htf hsrc hb0 hbox hW0
  obtain ⟨i0, hi, hz0, hz1, hz2⟩ := info_parts infoU8
  have HI := Lib.hid hi
  have HZ0 := Lib.hid hz0
  have HZ1 := Lib.hid hz1
  have HZ2 := Lib.hid hz2
  clear hi hz0 hz1 hz2
  go_enter Try.func4, Try.ntmps4
  go_wp2_with fail
  rw [← HW0.out]
  refine h1.mono ?_
  rintro e w2 ⟨v, rfl, hb2, hrow⟩
  have hrow := hrow rfl
  rw [if_pos rfl, errV_zero]
  obtain ⟨g0, cg0, rfl, _, hlt0, _⟩ := ownsRow_some hrow (by rw [M1_len]; omega)
  rw [M1_len]
  have HB2 := Lib.hid hb2
  have c0 : w2.cell? ⟨w.heap.size, 0, none⟩ = some (.string x.ref) := (hb2.cell (p := ⟨w.heap.size, 0, none⟩) hs0).trans (cell_of_heap HBOX.out 0)
  have c1 : w2.cell? ⟨w.heap.size, 1, none⟩ = some (.int .i64 x.ent) := (hb2.cell (p := ⟨w.heap.size, 1, none⟩) hs0).trans (cell_of_heap HBOX.out 1)
  have c2 : w2.cell? ⟨w.heap.size, 2, none⟩ = some (.int .i64 x.per) := (hb2.cell (p := ⟨w.heap.size, 2, none⟩) hs0).trans (cell_of_heap HBOX.out 2)
  have c3 : w2.cell? ⟨w.heap.size, 3, none⟩ = some (.slice lao x.lines.length lc) := (hb2.cell (p := ⟨w.heap.size, 3, none⟩) hs0).trans (cell_of_heap HBOX.out 3)
  have he := entry_any x lao lc w2 HXF.out (HLX.out.below hb2 (Nat.le_refl _))
  unfold entryV at he
  clear h1 hrow hlt0 hb2
  go_wp2_with fail
  refine he.mono ?_
  rintro e w3 ⟨v, rfl, hb3, hrow⟩
  generalize hV : (if x.code = 0 then v else .slice none 0 0) = V
  have HV := Lib.hid hV
  clear hV
  have HB3 := Lib.hid (HB2.out.trans (hb3.mono HB2.out.size))
  clear he hb3 c0 c1 c2 c3
  go_upto_if 48 with (fail)
  go_cut [9, 10] (fun _ _ wx => Hid (Below W0.heap.size W0 wx))
  case first =>
    by_cases hc : x.code = 0
    · have hrow := hrow hc
      have hVv : V = v := by have h := HV.out; rw [if_pos hc] at h; exact h.symm
      subst hVv
      have hxok := (entry_code x).1 hc
      have hlen1 := entry_len x
      have hlen2 := x.bytes_le HXF.out (EntryM.ok_few hxok)
      obtain ⟨g, cg, rfl, _, hlt, hcg⟩ := ownsRow_some hrow (by omega)
      obtain ⟨m, hm⟩ : ∃ m, x.bytes.length = m + 1 := ⟨x.bytes.length - 1, by omega⟩
      have hdl : x.bytes.dropLast.length = m := by rw [List.length_dropLast]; omega
      have hsd := src_take (l := x.bytes) hrow _ (dropLast_prefix x.bytes)
      have hr1 := readEntry_any w3 (some ⟨g, 0, none⟩) cg x.bytes.dropLast hsd (by omega) (by omega)
      rw [hdl] at hr1
      have HCUT : Hid (rdEntry x.bytes.dropLast = none) := entry_cut x hxok
      have d0 := zeroC_yes hc
      have d1 : decide ((m : Int) + 1 < 1) = false := decide_eq_false (by omega)
      have hmb : m ≤ 500000000 := by omega
      have hcg' : (m : Int) ≤ (cg : Int) := by omega
      have HROW := Lib.hid hrow
      have HM := Lib.hid hm
      have HOK := Lib.hid hxok
      have hBsz : w2.heap.size ≤ w3.heap.size := by
        have h := hrow.2
        rcases h with ⟨hv, _⟩ | ⟨g', c', cur, hv, hb, hh, _⟩
        · cases hv
        · have := lt_of_heap hh; omega
      rw [hm, d0]
      clear hc hrow hxok hlen1 hlen2 hsd hdl hm HV
      go_wp2_with fail
      refine hr1.mono ?_
      rintro e w4 ⟨hb4, hq⟩
      rw [HCUT.out] at hq
      subst hq
      have hent : entryV ⟨⟨#[]⟩, 0, 0, []⟩ none 0 = .agg #[.string ⟨#[]⟩, .int .i64 0, .int .i64 0, .slice none 0 0] := rfl
      rw [hent, errV_some (show (9 : Int) ≠ 0 by decide)]
      have hb04 : Below W0.heap.size W0 w4 := HB3.out.trans (hb4.mono HB3.out.size)
      have hrow4 : (w4.alloc (.cells #[.string ⟨#[]⟩, .int .i64 0, .int .i64 0, .slice none 0 0] 30)).ownsRow w2.heap.size 5 1 (.slice (some ⟨g, 0, none⟩) (m + 1) cg) (m + 1) (x.bytes.map byteV) := by
        have h := HROW.out
        rw [HM.out] at h
        exact (ownsRow_keep h (fun k hk => hb4.block k (by
          rcases h.2 with ⟨hv, _⟩ | ⟨g', c', cur, hv, _, hh, _⟩
          · rw [hv] at hk; simp [Value.ownBlock] at hk
          · rw [hv] at hk
            simp only [Value.ownBlock, Option.some.injEq] at hk
            subst hk
            exact lt_of_heap hh))).alloc _
      have HR4 := Lib.hid hrow4
      have HS4 := Lib.hid ((HSRC.out.below hb04 (Nat.le_refl _)).below ((Below.refl _ _).alloc (Nat.le_refl _) (.cells #[.string ⟨#[]⟩, .int .i64 0, .int .i64 0, .slice none 0 0] 30)) (Nat.le_refl _))
      have HB4 := Lib.hid (hb04.alloc hb04.size (.cells #[.string ⟨#[]⟩, .int .i64 0, .int .i64 0, .slice none 0 0] 30))
      have hB4 : w2.heap.size ≤ w4.heap.size := Nat.le_trans hBsz hb4.size
      have hgW : W0.heap.size ≤ w2.heap.size := HB2.out.size
      clear hr1 hb4 hent hb04 hrow4 HROW HCUT
      go_wp2_with (refine wpList_append_src (o := ⟨some 64, _, _, _, _, _⟩) _ rfl (.tmp 62) (.tmp 63) 23 rfl w2.heap.size i0 Try.underlying23 HI.out HZ0.out HZ1.out HZ2.out (.slice (some ⟨g, 0, none⟩) (m + 1) cg) (m + 1) (x.bytes.map byteV) rfl HR4.out sp l cap rfl HS4.out (by omega) (by simp; omega) ?_)
      intro v5 w5 hown5 hg5 _
      have HB5 : Hid (Below W0.heap.size W0 w5) := by
        show Below _ _ _
        refine HB4.out.grown hg5 (by simp; omega) (fun k hk => ?_)
        simp only [Value.ownBlock, Option.some.injEq] at hk
        subst hk
        rcases HR4.out.2 with ⟨hv, _⟩ | ⟨g', c', cur, hv, hb, _⟩
        · cases hv
        · injection hv with hv _ _
          injection hv with hv
          injection hv with hv _ _
          omega
      obtain ⟨g5, c5, rfl, _, _, hc5⟩ := ownsRow_some hown5 (by omega)
      have hl5 : (x.bytes ++ l).length = m + 1 + l.length := by rw [List.length_append, HM.out]
      have hsrc5 : SrcW w5 (some ⟨g5, 0, none⟩) (x.bytes ++ l) := src_take (c := c5) (l := x.bytes ++ l) (by rw [hl5, List.map_append]; exact hown5) _ (List.prefix_refl _)
      have hr5 := readEntry_any w5 (some ⟨g5, 0, none⟩) c5 (x.bytes ++ l) hsrc5 (by omega) (by omega)
      rw [hl5] at hr5
      have HRD : Hid (rdEntry (x.bytes ++ l) = some (x, l)) := entry_fwd x l HOK.out
      have HL5 := Lib.hid hl5
      clear hown5 hg5 hsrc5 hl5 HR4 HS4 HB4
      go_wp2_with fail
      refine hr5.mono ?_
      rintro e w6 ⟨hb6, hq⟩
      rw [HRD.out] at hq
      obtain ⟨lao6, lc6, rfl, hl6, _⟩ := hq
      rw [HL5.out, show m + 1 + l.length - l.length = m + 1 by omega]
      have hb06 : Below W0.heap.size W0 w6 := HB5.out.trans (hb6.mono HB5.out.size)
      obtain ⟨W7, hW7⟩ : ∃ W7, W7 = w6.alloc (.cells #[.string x.ref, .int .i64 x.ent, .int .i64 x.per, .slice lao6 x.lines.length lc6] 30) := ⟨_, rfl⟩
      have hb67 : Below w6.heap.size w6 W7 := by rw [hW7]; exact (Below.refl _ _).alloc (Nat.le_refl _) _
      have hb07 : Below W0.heap.size W0 W7 := hb06.trans (hb67.mono hb06.size)
      have hbox7 : W7.heap[w6.heap.size]? = some (.cells #[.string x.ref, .int .i64 x.ent, .int .i64 x.per, .slice lao6 x.lines.length lc6] 30 (0, 0)) := by rw [hW7]; exact heap_new_at rfl _
      have x0 : W7.cell? ⟨w6.heap.size, 0, none⟩ = some (.string x.ref) := cell_of_heap hbox7 0
      have x1 : W7.cell? ⟨w6.heap.size, 1, none⟩ = some (.int .i64 x.ent) := cell_of_heap hbox7 1
      have x2 : W7.cell? ⟨w6.heap.size, 2, none⟩ = some (.int .i64 x.per) := cell_of_heap hbox7 2
      have x3 : W7.cell? ⟨w6.heap.size, 3, none⟩ = some (.slice lao6 x.lines.length lc6) := cell_of_heap hbox7 3
      have c0 : W7.cell? ⟨w.heap.size, 0, none⟩ = some (.string x.ref) := (hb07.cell (p := ⟨w.heap.size, 0, none⟩) hs0).trans (cell_of_heap HBOX.out 0)
      have c1 : W7.cell? ⟨w.heap.size, 1, none⟩ = some (.int .i64 x.ent) := (hb07.cell (p := ⟨w.heap.size, 1, none⟩) hs0).trans (cell_of_heap HBOX.out 1)
      have c2 : W7.cell? ⟨w.heap.size, 2, none⟩ = some (.int .i64 x.per) := (hb07.cell (p := ⟨w.heap.size, 2, none⟩) hs0).trans (cell_of_heap HBOX.out 2)
      have c3 : W7.cell? ⟨w.heap.size, 3, none⟩ = some (.slice lao x.lines.length lc) := (hb07.cell (p := ⟨w.heap.size, 3, none⟩) hs0).trans (cell_of_heap HBOX.out 3)
      have hsame := entry_same x W7 lao6 lao lc6 lc (hl6.below hb67 (Nat.le_refl _)) (HLX.out.below hb07 (Nat.le_refl _)) (by have := EntryM.ok_few HOK.out; omega)
      unfold entryV at hsame
      have hent5 : entryV x lao6 lc6 = .agg #[.string x.ref, .int .i64 x.ent, .int .i64 x.per, .slice lao6 x.lines.length lc6] := rfl
      rw [hent5]
      have HB7 := Lib.hid hb07
      rw [hW7] at c0 c1 c2 c3 x0 x1 x2 x3 hsame
      have HW7 := Lib.hid hW7
      clear hr5 hbox7 hb06 hb07 hb6 hb67 hl6 hW7 hent5
      go_wp2_with fail
      refine hsame.mono ?_
      rintro e w8 ⟨rfl, hb8⟩
      have HB8 : Hid (Below W0.heap.size W0 w8) := by
        have h := HB7.out
        rw [HW7.out] at h
        exact h.trans (hb8.mono h.size)
      clear hsame hb8 c0 c1 c2 c3 x0 x1 x2 x3
      go_wp2_with fail
      go_meet
      exact HB8
    · have d0 := zeroC_no hc
      rw [d0]
      clear hc
      go_wp2_with fail
      go_meet
      exact HB3
  case rest =>
    clear HV HB3 HB2 hrow
    have hbs := bals_any t bao bc wc HTF.out htm (HBT.out.below hcut.out (Nat.le_refl _))
    go_wp2_with fail
    refine hbs.mono ?_
    rintro e w3 ⟨v, rfl, hb3, hrow⟩
    generalize hV : (if balsCode t = 0 then v else .slice none 0 0) = V
    have HV := Lib.hid hV
    have HB3 := Lib.hid (hcut.out.trans (hb3.mono hcut.out.size))
    have HWC := Lib.hid hcut.out.size
    clear hbs hb3 hV hcut
    go_upto_if 95 with (fail)
    go_cut [9, 10] (fun _ _ wx => Hid (Below W0.heap.size W0 wx))
    case first =>
      by_cases hc : balsCode t = 0
      · have hrow := hrow hc
        have hVv : V = v := by have h := HV.out; rw [if_pos hc] at h; exact h.symm
        subst hVv
        have htok := (bals_code t).1 hc
        have hlen1 := balsB_len t
        have hlen2 := balsB_le htok
        obtain ⟨g, cg, rfl, _, hlt, hcg⟩ := ownsRow_some hrow (by omega)
        obtain ⟨m, hm⟩ : ∃ m, (balsB t).length = m + 1 := ⟨(balsB t).length - 1, by omega⟩
        have hdl : (balsB t).dropLast.length = m := by rw [List.length_dropLast]; omega
        have hsd := src_take (l := balsB t) hrow _ (dropLast_prefix (balsB t))
        have hr1 := readBals_any w3 (some ⟨g, 0, none⟩) cg (balsB t).dropLast hsd (by omega) (by omega)
        rw [hdl] at hr1
        have HCUT : Hid (rdBals balCmp (balsB t).dropLast = none) := bals_cut t htok
        have d0 := zeroC_yes hc
        have d1 : decide ((m : Int) + 1 < 1) = false := decide_eq_false (by omega)
        have hmb : m ≤ 900000000 := by omega
        have hcg' : (m : Int) ≤ (cg : Int) := by omega
        have HROW := Lib.hid hrow
        have HM := Lib.hid hm
        have HOK := Lib.hid htok
        have hBsz : wc.heap.size ≤ w3.heap.size := by
          have h := hrow.2
          rcases h with ⟨hv, _⟩ | ⟨g', c', cur, hv, hb, hh, _⟩
          · cases hv
          · have := lt_of_heap hh; omega
        rw [hm, d0]
        clear hc hrow htok hlen1 hlen2 hsd hdl hm HV
        go_wp2_with fail
        refine hr1.mono ?_
        rintro e w4 ⟨hb4, hq⟩
        rw [HCUT.out] at hq
        subst hq
        rw [errV_some (show (9 : Int) ≠ 0 by decide)]
        have hb04 : Below W0.heap.size W0 w4 := HB3.out.trans (hb4.mono HB3.out.size)
        have hrow4 : w4.ownsRow wc.heap.size 5 1 (.slice (some ⟨g, 0, none⟩) (m + 1) cg) (m + 1) ((balsB t).map byteV) := by
          have h := HROW.out
          rw [HM.out] at h
          exact (ownsRow_keep h (fun k hk => hb4.block k (by
            rcases h.2 with ⟨hv, _⟩ | ⟨g', c', cur, hv, _, hh, _⟩
            · rw [hv] at hk; simp [Value.ownBlock] at hk
            · rw [hv] at hk
              simp only [Value.ownBlock, Option.some.injEq] at hk
              subst hk
              exact lt_of_heap hh)))
        have HR4 := Lib.hid hrow4
        have HS4 := Lib.hid (HSRC.out.below hb04 (Nat.le_refl _))
        have HB4 := Lib.hid hb04
        have hB4 : wc.heap.size ≤ w4.heap.size := Nat.le_trans hBsz hb4.size
        have hgW : W0.heap.size ≤ wc.heap.size := HWC.out
        clear hr1 hb4 hb04 hrow4 HROW HCUT
        go_wp2_with (refine wpList_append_src (o := ⟨some 111, _, _, _, _, _⟩) _ rfl (.tmp 109) (.tmp 110) 23 rfl wc.heap.size i0 Try.underlying23 HI.out HZ0.out HZ1.out HZ2.out (.slice (some ⟨g, 0, none⟩) (m + 1) cg) (m + 1) ((balsB t).map byteV) rfl HR4.out sp l cap rfl HS4.out (by omega) (by omega) ?_)
        intro v5 w5 hown5 hg5 _
        have HB5 : Hid (Below W0.heap.size W0 w5) := by
          show Below _ _ _
          refine HB4.out.grown hg5 (by omega) (fun k hk => ?_)
          simp only [Value.ownBlock, Option.some.injEq] at hk
          subst hk
          rcases HR4.out.2 with ⟨hv, _⟩ | ⟨g', c', cur, hv, hb, _⟩
          · cases hv
          · injection hv with hv _ _
            injection hv with hv
            injection hv with hv _ _
            omega
        obtain ⟨g5, c5, rfl, _, _, hc5⟩ := ownsRow_some hown5 (by omega)
        have hl5 : (balsB t ++ l).length = m + 1 + l.length := by rw [List.length_append, HM.out]
        have hsrc5 : SrcW w5 (some ⟨g5, 0, none⟩) (balsB t ++ l) := src_take (c := c5) (l := balsB t ++ l) (by rw [hl5, List.map_append]; exact hown5) _ (List.prefix_refl _)
        have hr5 := readBals_any w5 (some ⟨g5, 0, none⟩) c5 (balsB t ++ l) hsrc5 (by omega) (by omega)
        rw [hl5] at hr5
        have HRD : Hid (rdBals balCmp (balsB t ++ l) = some (t, l)) := bals_fwd t l HOK.out
        have HL5 := Lib.hid hl5
        clear hown5 hg5 hsrc5 hl5 HR4 HS4 HB4
        go_wp2_with fail
        refine hr5.mono ?_
        rintro e w6 ⟨hb6, hq⟩
        rw [HRD.out] at hq
        obtain ⟨lao6, lc6, rfl, hl6⟩ := hq
        rw [HL5.out, show m + 1 + l.length - l.length = m + 1 by omega]
        have hb06 : Below W0.heap.size W0 w6 := HB5.out.trans (hb6.mono HB5.out.size)
        have hsame := bals_same t w6 lao6 bao lc6 bc hl6 (HBT.out.below hb06 (Nat.le_refl _)) htm
        have HB6 := Lib.hid hb06
        clear hr5 hb06 hb6 hl6
        go_wp2_with fail
        refine hsame.mono ?_
        rintro e w8 ⟨rfl, n, rfl⟩
        have HB8 : Hid (Below W0.heap.size W0 (w6.drewN n)) := below_drewN HB6.out n
        clear hsame
        go_wp2_with fail
        go_meet
        exact HB8
      · have d0 := zeroC_no hc
        rw [d0]
        clear hc
        go_wp2_with fail
        go_meet
        exact HB3
    case rest =>
      clear HV HB3 hrow HWC HTF HBT HXF
      have hr9 := readEntry_any wc sp cap l (HSRC.out.below hcut.out (Nat.le_refl _)) hcap (by omega)
      have HBC := hcut
      clear hcut
      go_wp2_with fail
      refine hr9.mono ?_
      rintro e w3 ⟨hb3, hq⟩
      have hb03 : Below W0.heap.size W0 w3 := HBC.out.trans (hb3.mono HBC.out.size)
      clear hr9
      cases hrd : rdEntry l with
      | none =>
        rw [hrd] at hq
        subst hq
        have hent : entryV ⟨⟨#[]⟩, 0, 0, []⟩ none 0 = .agg #[.string ⟨#[]⟩, .int .i64 0, .int .i64 0, .slice none 0 0] := rfl
        rw [hent, errV_some (show (9 : Int) ≠ 0 by decide)]
        have HE := Lib.hid (HB0.out.trans ((hb03.alloc hb03.size (.cells #[.string ⟨#[]⟩, .int .i64 0, .int .i64 0, .slice none 0 0] 30)).mono HB0.out.size))
        clear hb03 hb3 hrd hent
        go_wp2_with fail
        go_ret
        exact ⟨rfl, HE.out⟩
      | some p =>
        obtain ⟨y, r⟩ := p
        rw [hrd] at hq
        obtain ⟨lao3, lc3, rfl, hl3, _⟩ := hq
        obtain ⟨hly, hyok⟩ := entry_bwd l y r hrd
        have hent : entryV y lao3 lc3 = .agg #[.string y.ref, .int .i64 y.ent, .int .i64 y.per, .slice lao3 y.lines.length lc3] := rfl
        rw [hent]
        have hbx : Below w3.heap.size w3 (w3.alloc (.cells #[.string y.ref, .int .i64 y.ent, .int .i64 y.per, .slice lao3 y.lines.length lc3] 30)) := (Below.refl _ _).alloc (Nat.le_refl _) _
        have he := entry_any y lao3 lc3 (w3.alloc (.cells #[.string y.ref, .int .i64 y.ent, .int .i64 y.per, .slice lao3 y.lines.length lc3] 30)) (fair_of_ok hyok) (hl3.below hbx (Nat.le_refl _))
        rw [(entry_code y).2 hyok] at he
        unfold entryV at he
        have hk : l.length - r.length = y.bytes.length := by rw [hly, List.length_append]; omega
        rw [hk]
        have hkl : y.bytes.length ≤ l.length := by rw [hly, List.length_append]; omega
        have HB9 := Lib.hid (hb03.trans (hbx.mono hb03.size))
        have HLY := Lib.hid hly
        have hy1 := entry_len y
        have hym := y.bytes_le (fair_of_ok hyok) (EntryM.ok_few hyok)
        clear hent hbx hb03 hb3 hrd hk hly hyok hl3
        go_wp2_with fail
        refine he.mono ?_
        rintro e w4 ⟨v, rfl, hb4, hrow⟩
        have hrow := hrow rfl
        rw [if_pos rfl, errV_zero]
        obtain ⟨g, cg, rfl, _, hlt, hcg⟩ := ownsRow_some hrow (by omega)
        have hb04 := HB9.out.trans (hb4.mono HB9.out.size)
        have k1 := conv_src (src_take (l := y.bytes) hrow _ (List.prefix_refl _)) cg
        have k2 := conv_src ((HSRC.out.below hb04 (Nat.le_refl _)).pre (k := y.bytes) (by rw [HLY.out]; exact List.prefix_append _ _)) cap
        have HE := Lib.hid (HB0.out.trans (hb04.mono HB0.out.size))
        have i0' : (0 : Int) ≤ (y.bytes.length : Int) := by omega
        have i1' : (y.bytes.length : Int) ≤ (cap : Int) := by omega
        generalize y.bytes.length = Y at *
        clear he hrow hb04 hb4
        go_wp2_with fail
        go_quiet (fail)
        go_wp2_with fail
        go_ret
        exact ⟨rfl, below_drewN HE.out _⟩
end Go.Proofs.Ytldpflijgbcbhaa.back
