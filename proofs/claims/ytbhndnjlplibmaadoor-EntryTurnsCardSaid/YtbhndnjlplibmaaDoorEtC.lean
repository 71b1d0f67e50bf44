/- EntryTurns walked. -/
import Derived.Test.YtbhndnjlplibmaaDoorEtB
namespace Go.Proofs.YtbhndnjlplibmaaDoor.lg
open Go.RowKit

set_option maxRecDepth 100000 in
set_option maxHeartbeats 4000000 in
theorem walk_turns (lo : Option Addr) (lc : Nat) (x : EntryM) (ref : ByteArray) (w : World) (hg : Door w) (hl : LinesAt w lo x.lines) (hnil : lo = none → lc = 0) (hn : x.lines.length ≤ 9223372036854775807) :
    Calls Tryd.prog 12 #[.agg #[.string x.ref, .int .i64 x.ent, .int .i64 x.per, .slice lo x.lines.length lc], .string ref] w fun e w' => e = .returned (.bool true) ∧ Below w.heap.size w w' := by
  obtain ⟨B, hB⟩ : ∃ B, B = w.heap.size := ⟨_, rfl⟩
  rw [← hB]
  obtain ⟨be, hbe⟩ : ∃ be, be = w.heap.size := ⟨_, rfl⟩
  obtain ⟨bt, hbt⟩ : ∃ bt, bt = w.heap.size + 1 := ⟨_, rfl⟩
  obtain ⟨bs, hbs⟩ : ∃ bs, bs = w.heap.size + 2 := ⟨_, rfl⟩
  obtain ⟨V, hV⟩ : ∃ V, V = w.alloc (.cells #[.string x.ref, .int .i64 x.ent, .int .i64 x.per, .slice lo x.lines.length lc] 81) := ⟨_, rfl⟩
  obtain ⟨W, hW⟩ : ∃ W, W = (V.alloc (.cells #[.string ⟨#[]⟩, .int .i64 0, .int .i64 0, .slice none 0 0] 81)).alloc (.cells #[.string ⟨#[]⟩, .int .i64 0, .int .i64 0, .slice none 0 0] 81) := ⟨_, rfl⟩
  have hbV : Below w.heap.size w V := by rw [hV]; exact (Below.refl _ _).alloc (Nat.le_refl _) _
  have hVs : V.heap.size = w.heap.size + 1 := by rw [hV]; simp
  have hbVW : Below V.heap.size V W := by rw [hW]; exact ((Below.refl _ _).alloc (Nat.le_refl _) _).alloc (by simp) _
  have hVbe : V.heap[be]? = some (.cells #[.string x.ref, .int .i64 x.ent, .int .i64 x.per, .slice lo x.lines.length lc] 81 (0, 0)) := by rw [hV, hbe]; exact heap_new_at rfl _
  have hWbt : W.heap[bt]? = some (.cells #[.string ⟨#[]⟩, .int .i64 0, .int .i64 0, .slice none 0 0] 81 (0, 0)) := by rw [hW, hbt, Below.heap_alloc _ _ _ (by simp; omega)]; exact heap_new_at (by omega) _
  have hWbs : W.heap[bs]? = some (.cells #[.string ⟨#[]⟩, .int .i64 0, .int .i64 0, .slice none 0 0] 81 (0, 0)) := by rw [hW, hbs]; exact heap_new_at (by simp; omega) _
  have HST0 : Hid (TurnSt B w W be bt bs x lo lc noneE noneE) := by
    refine ⟨?_, (hbVW.block be (lt_of_heap hVbe)).trans hVbe, ⟨none, 0, hWbt, Or.inl rfl, fun a h => by cases h⟩, ⟨none, 0, hWbs, Or.inl rfl, fun a h => by cases h⟩⟩
    rw [hB]; exact hbV.trans (hbVW.mono hbV.size)
  obtain ⟨Cb, hCb⟩ : ∃ Cb, Cb = fewC x.lines := ⟨_, rfl⟩
  obtain ⟨C, hC⟩ : ∃ C, C = revC x ref := ⟨_, rfl⟩
  have hf := few_any lo lc x.lines V (hl.below hbV) hn
  rw [← hCb] at hf
  have hrf := mt.rref_any ref W
  have hV3 : V.cell? ⟨be, 3, none⟩ = some (.slice lo x.lines.length lc) := cell_of_heap hVbe 3
  have hBe : B = be := by omega
  have hBt : bt = B + 1 := by omega
  have hBs : bs = B + 2 := by omega
  have HLW := Lib.hid hl
  have HNIL := Lib.hid hnil
  have HN := Lib.hid hn
  have HG := Lib.hid hg
  have HPOS := Lib.hid hg.pos
  have HB := Lib.hid hB
  have HV := Lib.hid hV
  have HW := Lib.hid hW
  have HBE := Lib.hid hbe
  have HBT := Lib.hid (show bt = V.heap.size by omega)
  have HBS := Lib.hid (show bs = V.heap.size + 1 by omega)
  have HCB := Lib.hid hCb
  have HC := Lib.hid hC
  have HBe := Lib.hid hBe
  have HBt := Lib.hid hBt
  have HBs := Lib.hid hBs
  clear hl hnil hn hg hB hV hW hbe hbt hbs hbV hbVW hVbe hWbt hWbs hVs hCb hC hBe hBt hBs
  go_enter Tryd.func12, Tryd.ntmps12
  go_wp2_with (rw [← HV.out, ← HBE.out])
  refine hf.mono ?_
  rintro e w' ⟨rfl, rfl⟩
  clear hf
  go_wp2_with fail
  rw [← HW.out, ← HBS.out, ← HBT.out]
  refine hrf.mono ?_
  rintro e w' ⟨rfl, rfl⟩
  clear hrf hV3 HV HW HBE HBT HBS
  obtain ⟨rb, hrb⟩ : ∃ rb, rb = refB ref := ⟨_, rfl⟩
  have HRB := Lib.hid hrb
  rw [← hrb]
  clear hrb
  go_upto_if 35 with (fail)
  go_cut [10] (fun f wx => f = .int .i64 C ∧ W = wx)
  case first =>
    cases rb with
    | true =>
      have hcc : Hid (Cb = C) := by show _ = _; rw [HCB.out, HC.out]; unfold revC; rw [if_pos HRB.out.symm]
      go_wp2_with fail
      go_meet
      exact ⟨by rw [hcc.out], rfl⟩
    | false =>
      have hcc : Hid ((2 : Int) = C) := by show _ = _; rw [HC.out]; unfold revC; rw [if_neg (by rw [← HRB.out]; simp)]
      go_wp2_with fail
      go_meet
      exact ⟨by rw [hcc.out], rfl⟩
  case rest =>
    obtain ⟨rfl, rfl⟩ := hcut
    go_upto_if 37 with (fail)
    go_cut [6] (fun s wx => ∃ S, Hid (TurnSt B w wx be bt bs x lo lc noneE S) ∧ Hid (ShortIs x S) ∧ Hid (SumsAt wx (bs + 1) s x.lines))
    case first =>
      have hsz0 : B ≤ W.heap.size := by have := HST0.out.below.size; have := HB.out; omega
      have hbsl : bs < W.heap.size := by obtain ⟨a, c, h, _⟩ := HST0.out.short.ex; exact lt_of_heap h
      by_cases h0 : Cb = 0
      · have hzz : fewC x.lines = 0 := by rw [← HCB.out]; exact h0
        subst h0
        have hl20 : x.lines.length ≤ 20 := (fewC_zero hzz).1
        have hLW : LinesAt W lo x.lines := HLW.out.below (by rw [← HB.out]; exact HST0.out.below)
        have hrs := rsums_any lo lc x W hLW (by omega)
        have HZZ := Lib.hid hzz
        have HLW1 := Lib.hid hLW
        have e0 : W.cell? ⟨be, 0, none⟩ = some (.string x.ref) := cell_of_heap HST0.out.ent 0
        have e1 : W.cell? ⟨be, 1, none⟩ = some (.int .i64 x.ent) := cell_of_heap HST0.out.ent 1
        have e2 : W.cell? ⟨be, 2, none⟩ = some (.int .i64 x.per) := cell_of_heap HST0.out.ent 2
        have e3 : W.cell? ⟨be, 3, none⟩ = some (.slice lo x.lines.length lc) := cell_of_heap HST0.out.ent 3
        clear hzz hLW
        go_wp2_with fail
        refine hrs.mono ?_
        rintro e w1 ⟨hb1, v, O, rfl, ho1, ho2⟩
        obtain ⟨sa, sc, rfl, hsl, _, _, hsb⟩ := lines_of_row_cap ho1 rfl
        have HB1 := Lib.hid hb1
        have e3' : w1.cell? ⟨be, 3, none⟩ = some (.slice lo x.lines.length lc) := cell_of_heap ((hb1.block be (lt_of_heap HST0.out.ent)).trans HST0.out.ent) 3
        have HSU1 : Hid (SumsAt w1 (bs + 1) (.slice sa O.length sc) x.lines) := ⟨sa, sc, O, rfl, hsl, by rw [if_pos HZZ.out]; exact ho2, fun ad ha => by have := hsb ad.block (by rw [ha]; rfl); omega⟩
        have hgr := grouped_ref lo lc x.lines w1 (HLW1.out.below hb1) (by omega)
        clear hrs hb1 ho1 ho2 hsl hsb e0 e1 e2 e3
        generalize O.length = sn at *
        go_wp2_with fail
        refine hgr.mono ?_
        rintro e w2 ⟨hb2, v2, N, rfl, hn1, hn2⟩
        have HB2 : Hid (Below W.heap.size W w2) := HB1.out.trans (hb2.mono HB1.out.size)
        have HSU2 : Hid (SumsAt w2 (bs + 1) (.slice sa sn sc) x.lines) := HSU1.out.later hb2
        obtain ⟨na, nc, rfl, hnl⟩ := lines_of_row hn1 rfl
        have hNl : N.length ≤ 20 := by have := fold_lenL hn2; omega
        have HN2 := Lib.hid hn2
        have HNL := Lib.hid hnl
        clear hgr hb2 hn1 hn2 hnl HB1 HSU1 e3'
        go_wp2_with fail
        go_loopw [7, 13] (fun v i wr => ∃ (k : Nat) (R : List LineM), k ≤ N.length ∧ i = .int .i64 (k : Int) ∧ Hid (R = (N.take k).filter notZ) ∧ Hid (wr.ownsRow w2.heap.size 87 3 v R.length (R.flatMap encL)) ∧ Hid (Below w2.heap.size w2 wr)) (fun _ i _ => N.length - (intOf i).toNat)
        case atStart => exact ⟨0, [], Nat.zero_le _, rfl, rfl, World.ownsRow_nil _ _ _ _, Below.refl _ _⟩
        case round =>
          obtain ⟨k, R, hk, rfl, HR, HRO, HBW⟩ := hrel
          have hi0 : (0 : Int) ≤ (k : Int) := by omega
          by_cases hlt : k < N.length
          · obtain ⟨y, hy⟩ := getElem?_ex hlt
            have hHL : LinesAt wr na N := HNL.out.below HBW.out
            obtain ⟨b9, off, rfl, hb9, hcc⟩ := hHL.resolve_left (fun e => by rw [e] at hlt; simp at hlt)
            obtain ⟨x0, x1, x2⟩ := hcc k y hy
            have hi1 : (k : Int) < (N.length : Int) := by omega
            have hd1 : decide ((k : Int) < (N.length : Int)) = true := decide_eq_true hi1
            have hfs := filter_snoc hy
            have hRl : R.length ≤ 20 := by have h1 := HR.out; have h2 := List.length_filter_le notZ (N.take k); rw [← h1, List.length_take] at h2; omega
            clear hcc hHL hy
            cases hz : notZ y with
            | true =>
              have hz2 : (y.amt != 0) = true := by unfold notZ isZ at hz; simpa [bne] using hz
              obtain ⟨ra, rc, rfl⟩ := lines_row_of HRO.out
              obtain ⟨V3, hV3⟩ : ∃ V3, V3 = wr.alloc (.cells #[.string y.acc, .string y.cur, .int .i64 y.amt] 87) := ⟨_, rfl⟩
              have hbV3 : Below wr.heap.size wr V3 := by rw [hV3]; exact (Below.refl _ _).alloc (Nat.le_refl _) _
              have hnew : V3.heap[wr.heap.size]? = some (.cells #[.string y.acc, .string y.cur, .int .i64 y.amt] 87 (0, 0)) := by rw [hV3]; exact heap_new_at rfl _
              obtain ⟨v3, w3, hr3, hown3, hgrow3, hblk3⟩ := run_append_lines (sc := 1) (row_keep HRO.out (fun k hk => hbV3.block k (row_lt HRO.out k hk).2)) (l := [y]) (so := some ⟨wr.heap.size, 0, none⟩) (lines_one hnew) (by simp; omega) (Nat.le_trans HBW.out.size hbV3.size) 79
              have HREL : Hid (w3.ownsRow w2.heap.size 87 3 v3 (R ++ [y]).length ((R ++ [y]).flatMap encL)) := ownsRow_cast hown3 (by simp) (by simp)
              have HBN : Hid (Below w2.heap.size w2 w3) := (HBW.out.trans (hbV3.mono HBW.out.size)).trans ((Only.of_grown hgrow3).below (Nat.le_trans HBW.out.size hbV3.size) (fun k hk => (row_lt HRO.out k hk).1))
              have HRN : Hid (R ++ [y] = (N.take (k + 1)).filter notZ) := by show _ = _; rw [hfs, hz, HR.out]; rfl
              have HV3 := Lib.hid hV3
              rw [List.length_singleton] at hr3
              clear hV3 hbV3 hnew hown3 hgrow3 hblk3 hfs hz HR HRO
              go_wp2_with (at_builtin; rw [← HV3.out]; refine Lib.wpList_append_run _ rfl _ _ _ _ rfl _ _ rfl rfl _ _ hr3 ?_)
              go_roundw
              case rel => exact ⟨k + 1, R ++ [y], by omega, by go_num, HRN, HREL, HBN⟩
              case measure => simp [intOf]; omega
            | false =>
              have hz2 : (y.amt != 0) = false := by unfold notZ isZ at hz; simpa [bne] using hz
              have HRN : Hid (R = (N.take (k + 1)).filter notZ) := by show _ = _; rw [hfs, hz, HR.out]; simp
              clear hfs hz HR
              go_wp2_with fail
              go_roundw
              case rel => exact ⟨k + 1, R, by omega, by go_num, HRN, HRO, HBW⟩
              case measure => simp [intOf]; omega
          · obtain rfl : k = N.length := by omega
            have hd1 : decide ((N.length : Int) < (N.length : Int)) = false := decide_eq_false (by omega)
            obtain ⟨ra, rc, rfl, hRL, _, _, hRB⟩ := lines_of_row_cap HRO.out rfl
            have HBW2 : Hid (Below W.heap.size W wr) := HB2.out.trans (HBW.out.mono HB2.out.size)
            have hst := HST0.out.later hsz0 HBW2.out
            have e0 : wr.cell? ⟨be, 0, none⟩ = some (.string x.ref) := cell_of_heap hst.ent 0
            have e1 : wr.cell? ⟨be, 1, none⟩ = some (.int .i64 x.ent) := cell_of_heap hst.ent 1
            have e2 : wr.cell? ⟨be, 2, none⟩ = some (.int .i64 x.per) := cell_of_heap hst.ent 2
            have e3 : wr.cell? ⟨be, 3, none⟩ = some (.slice lo x.lines.length lc) := cell_of_heap hst.ent 3
            obtain ⟨a0, c0, hs0, _, _⟩ := hst.short.ex
            have r0 : wr.cell? ⟨bs, 0, none⟩ = some (.string noneE.ref) := cell_of_heap hs0 0
            have r1 : wr.cell? ⟨bs, 1, none⟩ = some (.int .i64 noneE.ent) := cell_of_heap hs0 1
            have r2 : wr.cell? ⟨bs, 2, none⟩ = some (.int .i64 noneE.per) := cell_of_heap hs0 2
            have r3 : wr.cell? ⟨bs, 3, none⟩ = some (.slice a0 noneE.lines.length c0) := cell_of_heap hs0 3
            have g0 : wr.frozen? ⟨bs, 0, none⟩ = false := free_of_heap hs0 0
            have g1 : wr.frozen? ⟨bs, 1, none⟩ = false := free_of_heap hs0 1
            have g2 : wr.frozen? ⟨bs, 2, none⟩ = false := free_of_heap hs0 2
            have g3 : wr.frozen? ⟨bs, 3, none⟩ = false := free_of_heap hs0 3
            have hfin : ∃ S, TurnSt B w (((((wr.setCell ⟨bs, 0, none⟩ (.string x.ref)).setCell ⟨bs, 1, none⟩ (.int .i64 x.ent)).setCell ⟨bs, 2, none⟩ (.int .i64 x.per)).setCell ⟨bs, 3, none⟩ (.slice lo x.lines.length lc)).setCell ⟨bs, 3, none⟩ (.slice ra R.length rc)) be bt bs x lo lc noneE S ∧ ShortIs x S ∧
                SumsAt (((((wr.setCell ⟨bs, 0, none⟩ (.string x.ref)).setCell ⟨bs, 1, none⟩ (.int .i64 x.ent)).setCell ⟨bs, 2, none⟩ (.int .i64 x.per)).setCell ⟨bs, 3, none⟩ (.slice lo x.lines.length lc)).setCell ⟨bs, 3, none⟩ (.slice ra R.length rc)) (bs + 1) (.slice sa sn sc) x.lines := by
              have hBbs : B ≤ bs := by have := HBs.out; omega
              have hne1 : be ≠ bs := by have := HBs.out; have := HBe.out; omega
              have hne2 : bt ≠ bs := by have := HBs.out; have := HBt.out; omega
              have hbs1 : bs < bs + 1 := by omega
              have hsu := HSU2.out.later HBW.out
              have hrb : ∀ a, ra = some a → a.block ≠ bs ∧ bs + 1 ≤ a.block := fun a ha => by
                have h1 := hRB a.block (by rw [ha]; rfl)
                have h2 : W.heap.size ≤ w2.heap.size := HB2.out.size
                omega
              have k1 := fun a ha => (hrb a ha).1
              refine ⟨{ x with lines := R }, ⟨((((hst.below.setCell (p := ⟨bs, 0, none⟩) hBbs _).setCell (p := ⟨bs, 1, none⟩) hBbs _).setCell (p := ⟨bs, 2, none⟩) hBbs _).setCell (p := ⟨bs, 3, none⟩) hBbs _).setCell (p := ⟨bs, 3, none⟩) hBbs _, ?_, ?_, ra, rc, ?_, ?_, fun a ha => (hrb a ha).2⟩, Or.inr ⟨HZZ.out, N, HN2.out, by rw [HR.out, List.take_length]⟩, ?_⟩
              · exact (Below.heap_setCell _ _ _ _ hne1).trans ((Below.heap_setCell _ _ _ _ hne1).trans ((Below.heap_setCell _ _ _ _ hne1).trans ((Below.heap_setCell _ _ _ _ hne1).trans ((Below.heap_setCell _ _ _ _ hne1).trans hst.ent))))
              · exact ((((hst.turned.set hne2 hbs1 _ _).set hne2 hbs1 _ _).set hne2 hbs1 _ _).set hne2 hbs1 _ _).set hne2 hbs1 _ _
              · exact heap_setCell_same (heap_setCell_same (heap_setCell_same (heap_setCell_same (heap_setCell_same hs0 _) _) _) _) _
              · exact ((((hRL.set k1 _ _).set k1 _ _).set k1 _ _).set k1 _ _).set k1 _ _
              · exact ((((hsu.set hbs1 _ _).set hbs1 _ _).set hbs1 _ _).set hbs1 _ _).set hbs1 _ _
            have HFIN := Lib.hid hfin
            clear hfin hst hs0 hRL hRB HRO HR
            go_wp2_with fail
            go_meet
            obtain ⟨S, f1, f2, f3⟩ := HFIN.out
            exact ⟨S, f1, f2, f3⟩
      · have hzz : fewC x.lines ≠ 0 := by rw [← HCB.out]; exact h0
        have hcb : (Cb == 0) = false := by simp [h0]
        have HFIN : Hid (ShortIs x noneE ∧ SumsAt W (bs + 1) (.slice none 0 0) x.lines) := ⟨Or.inl ⟨hzz, rfl⟩, none, 0, [], rfl, Or.inl rfl, by rw [if_neg hzz]; rfl, fun ad ha => by cases ha⟩
        clear hzz h0
        go_wp2_with fail
        go_meet
        exact ⟨noneE, HST0, HFIN.out.1, HFIN.out.2⟩
    case rest =>
      obtain ⟨S, HST, HSH, HSU⟩ := hcut
      obtain ⟨w1, hw1⟩ : ∃ w1 : World, w1 = wc := ⟨_, rfl⟩
      subst hw1
      clear HST0
      go_upto_if 66 with (fail)
      go_cut [] (fun wx => Hid (TurnSt B w wx be bt bs x lo lc (revE x ref) S) ∧ Hid (SumsAt wx (bs + 1) u6 x.lines))
      case first =>
        have hsz0 : B ≤ w1.heap.size := by have := HST.out.below.size; have := HB.out; omega
        have hbsl : bs < w1.heap.size := by obtain ⟨a, c, h, _⟩ := HST.out.short.ex; exact lt_of_heap h
        by_cases h0 : C = 0
        · rw [show (C == 0) = true by simp [h0]]
          subst h0
          have hfz : refB ref = true ∧ fewC x.lines = 0 := by
            have h := HC.out
            unfold revC at h
            by_cases hr : refB ref = true
            · rw [if_pos hr] at h; exact ⟨hr, h.symm⟩
            · rw [if_neg hr] at h; cases h
          obtain ⟨hl20, ham⟩ := fewC_zero hfz.2
          have HAM := Lib.hid ham
          have HLW1 : Hid (LinesAt w1 lo x.lines) := HLW.out.below (by rw [← HB.out]; exact HST.out.below)
          have HRE : Hid (revE x ref = { x with ref := ref, lines := x.lines.map negL }) := by show _ = _; unfold revE; rw [if_pos HC.out.symm]
          have e0 : w1.cell? ⟨be, 0, none⟩ = some (.string x.ref) := cell_of_heap HST.out.ent 0
          have e1 : w1.cell? ⟨be, 1, none⟩ = some (.int .i64 x.ent) := cell_of_heap HST.out.ent 1
          have e2 : w1.cell? ⟨be, 2, none⟩ = some (.int .i64 x.per) := cell_of_heap HST.out.ent 2
          have e3 : w1.cell? ⟨be, 3, none⟩ = some (.slice lo x.lines.length lc) := cell_of_heap HST.out.ent 3
          obtain ⟨a0, c0, hs0, _, _⟩ := HST.out.turned.ex
          have r0 : w1.cell? ⟨bt, 0, none⟩ = some (.string noneE.ref) := cell_of_heap hs0 0
          have r1 : w1.cell? ⟨bt, 1, none⟩ = some (.int .i64 noneE.ent) := cell_of_heap hs0 1
          have r2 : w1.cell? ⟨bt, 2, none⟩ = some (.int .i64 noneE.per) := cell_of_heap hs0 2
          have r3 : w1.cell? ⟨bt, 3, none⟩ = some (.slice a0 noneE.lines.length c0) := cell_of_heap hs0 3
          have g0 : w1.frozen? ⟨bt, 0, none⟩ = false := free_of_heap hs0 0
          have g1 : w1.frozen? ⟨bt, 1, none⟩ = false := free_of_heap hs0 1
          have g2 : w1.frozen? ⟨bt, 2, none⟩ = false := free_of_heap hs0 2
          have g3 : w1.frozen? ⟨bt, 3, none⟩ = false := free_of_heap hs0 3
          obtain ⟨F, hF⟩ : ∃ F, F = (((((w1.setCell ⟨bt, 0, none⟩ (.string x.ref)).setCell ⟨bt, 1, none⟩ (.int .i64 x.ent)).setCell ⟨bt, 2, none⟩ (.int .i64 x.per)).setCell ⟨bt, 3, none⟩ (.slice lo x.lines.length lc)).setCell ⟨bt, 0, none⟩ (.string ref)).setCell ⟨bt, 3, none⟩ (.slice none 0 0) := ⟨_, rfl⟩
          have hBbt : B ≤ bt := by have := HBt.out; omega
          have hne1 : be ≠ bt := by have := HBt.out; have := HBe.out; omega
          have hne2 : bs ≠ bt := by have := HBs.out; have := HBt.out; omega
          have hbs1 : bt < bs + 1 := by have := HBs.out; have := HBt.out; omega
          -- what holds in the loop
          have HL0 : Hid (F.ownsRow w1.heap.size 87 3 (.slice none 0 0) 0 (((x.lines.take 0).map negL).flatMap encL) ∧ F.heap[bt]? = some (.cells #[.string ref, .int .i64 x.ent, .int .i64 x.per, .slice none 0 0] 81 (0, 0)) ∧ Below B w F ∧ But bt w1 F) := by
            refine ⟨World.ownsRow_nil _ _ _ _, ?_, ?_, ?_⟩
            · rw [hF]; exact heap_setCell_same (heap_setCell_same (heap_setCell_same (heap_setCell_same (heap_setCell_same (heap_setCell_same hs0 _) _) _) _) _) _
            · rw [hF]; exact (((((HST.out.below.setCell (p := ⟨bt, 0, none⟩) hBbt _).setCell (p := ⟨bt, 1, none⟩) hBbt _).setCell (p := ⟨bt, 2, none⟩) hBbt _).setCell (p := ⟨bt, 3, none⟩) hBbt _).setCell (p := ⟨bt, 0, none⟩) hBbt _).setCell (p := ⟨bt, 3, none⟩) hBbt _
            · rw [hF]; exact ((((((⟨Nat.le_refl _, fun _ _ _ => rfl⟩ : But bt w1 w1).set 0 _).set 1 _).set 2 _).set 3 _).set 0 _).set 3 _
          have HF := Lib.hid hF
          have HLB : Hid (x.lines ≠ [] → ∀ ad, lo = some ad → ad.block < B) := fun hne ad ha => by
            rcases HLW.out with h | ⟨b', off, e, hlt, _⟩
            · exact absurd h hne
            · rw [ha] at e; cases e; rw [HB.out]; exact hlt
          clear hfz ham hs0 hF
          go_wp2_with fail
          rw [← HF.out]
          go_loopw [14] (fun i wr => ∃ k : Nat, k ≤ x.lines.length ∧ i = .int .i64 (k : Int) ∧ Hid (∃ v, wr.ownsRow w1.heap.size 87 3 v k (((x.lines.take k).map negL).flatMap encL) ∧ wr.heap[bt]? = some (.cells #[.string ref, .int .i64 x.ent, .int .i64 x.per, v] 81 (0, 0)) ∧ Below B w wr ∧ But bt w1 wr)) (fun i _ => x.lines.length - (intOf i).toNat)
          case atStart => exact ⟨0, Nat.zero_le _, rfl, _, HL0.out⟩
          case round =>
            clear HL0 e0 e1 e2 e3 r0 r1 r2 r3 g0 g1 g2 g3
            obtain ⟨k, hk, rfl, HI⟩ := hrel
            obtain ⟨v, i1, i2, i3, i4⟩ := HI.out
            have hi0 : (0 : Int) ≤ (k : Int) := by omega
            have hbe := (i4.keep be (lt_of_heap HST.out.ent) hne1).trans HST.out.ent
            have e3 : wr.cell? ⟨be, 3, none⟩ = some (.slice lo x.lines.length lc) := cell_of_heap hbe 3
            by_cases hlt : k < x.lines.length
            · obtain ⟨y, hy⟩ := getElem?_ex hlt
              obtain ⟨ha1, ha2⟩ := HAM.out y (List.mem_of_getElem? hy)
              have hHL : LinesAt wr lo x.lines := HLW.out.below (by rw [← HB.out]; exact i3)
              obtain ⟨b9, off, rfl, hb9, hcc⟩ := hHL.resolve_left (fun e => by rw [e] at hlt; simp at hlt)
              obtain ⟨x0, x1, x2⟩ := hcc k y hy
              have hi1 : (k : Int) < (x.lines.length : Int) := by omega
              have hd1 : decide ((k : Int) < (x.lines.length : Int)) = true := decide_eq_true hi1
              have hkl : ((x.lines.take k).map negL).length = k := by simp; omega
              obtain ⟨ra, rc, rfl⟩ : ∃ ra rc, v = .slice ra k rc := by
                obtain ⟨ao, cap, h1, _⟩ := lines_of_row_cap i1 hkl.symm
                exact ⟨ao, cap, by rw [h1, hkl]⟩
              obtain ⟨V1, hV1⟩ : ∃ V1, V1 = wr.alloc (.cells #[.string y.acc, .string y.cur, .int .i64 (-y.amt)] 87) := ⟨_, rfl⟩
              obtain ⟨V2, hV2⟩ : ∃ V2, V2 = V1.alloc (.cells #[.string y.acc, .string y.cur, .int .i64 (-y.amt)] 87) := ⟨_, rfl⟩
              have hbV1 : Below wr.heap.size wr V1 := by rw [hV1]; exact (Below.refl _ _).alloc (Nat.le_refl _) _
              have hbV2 : Below wr.heap.size wr V2 := by rw [hV2]; exact hbV1.alloc hbV1.size _
              have hnew : V2.heap[wr.heap.size + 1]? = some (.cells #[.string y.acc, .string y.cur, .int .i64 (-y.amt)] 87 (0, 0)) := by rw [hV2, hV1]; exact heap_new_at (by simp) _
              obtain ⟨v3, w3, hr3, hown3, hgrow3, hblk3⟩ := run_append_lines (sc := 1) (row_keep i1 (fun k hk => hbV2.block k (row_lt i1 k hk).2)) (l := [negL y]) (so := some ⟨wr.heap.size + 1, 0, none⟩) (lines_one hnew) (by simp; omega) (Nat.le_trans i4.size hbV2.size) 79
              have hsn : (x.lines.take (k + 1)).map negL = (x.lines.take k).map negL ++ [negL y] := by
                obtain ⟨hk', rfl⟩ := List.getElem?_eq_some_iff.1 hy
                rw [List.take_succ_eq_append_getElem hk', List.map_append]; rfl
              have hon : Only (fun q => (Value.slice ra k rc).ownBlock = some q) wr w3 := (Only.of_below hbV2).trans (Only.of_grown hgrow3) (fun _ _ h => h)
              have hnb : ∀ q, q < w1.heap.size → w3.heap[q]? = wr.heap[q]? := fun q hq => hon.block q (Nat.lt_of_lt_of_le hq i4.size) (fun e => by have := (row_lt i1 q e).1; omega)
              have hbt3 := (hnb bt (by omega)).trans i2
              have c3 : w3.cell? ⟨bt, 3, none⟩ = some (.slice ra k rc) := cell_of_heap hbt3 3
              have f3 : w3.frozen? ⟨bt, 3, none⟩ = false := free_of_heap hbt3 3
              have hrow3 : w3.ownsRow w1.heap.size 87 3 v3 (k + 1) (((x.lines.take (k + 1)).map negL).flatMap encL) := ownsRow_cast hown3 (by simp) (by rw [hsn]; simp)
              obtain ⟨ra3, rc3, rfl⟩ : ∃ ra3 rc3, v3 = .slice ra3 (k + 1) rc3 := by
                have hkl3 : ((x.lines.take (k + 1)).map negL).length = k + 1 := by simp; omega
                obtain ⟨ao, cap, h1, _⟩ := lines_of_row_cap hrow3 hkl3.symm
                exact ⟨ao, cap, by rw [h1, hkl3]⟩
              have HNEW : Hid (∃ v, (w3.setCell ⟨bt, 3, none⟩ (.slice ra3 (k + 1) rc3)).ownsRow w1.heap.size 87 3 v (k + 1) (((x.lines.take (k + 1)).map negL).flatMap encL) ∧ (w3.setCell ⟨bt, 3, none⟩ (.slice ra3 (k + 1) rc3)).heap[bt]? = some (.cells #[.string ref, .int .i64 x.ent, .int .i64 x.per, v] 81 (0, 0)) ∧ Below B w (w3.setCell ⟨bt, 3, none⟩ (.slice ra3 (k + 1) rc3)) ∧ But bt w1 (w3.setCell ⟨bt, 3, none⟩ (.slice ra3 (k + 1) rc3))) :=
                ⟨_, row_keep hrow3 (fun q hq => Below.heap_setCell _ _ _ _ (fun e => by have h9 := (row_lt hrow3 q hq).1; have e9 : q = bt := e; omega)), heap_setCell_same hbt3 _, (i3.trans (hon.below (by have := i4.size; omega) (fun q hq => by have := (row_lt i1 q hq).1; omega))).setCell (p := ⟨bt, 3, none⟩) hBbt _,
                  (⟨Nat.le_trans i4.size hon.size, fun q hq hne => (hnb q hq).trans (i4.keep q hq hne)⟩ : But bt w1 w3).set 3 _⟩
              have t3 : wr.cell? ⟨bt, 3, none⟩ = some (.slice ra k rc) := cell_of_heap i2 3
              have hbtl : bt < wr.heap.size := lt_of_heap i2
              have HV1 := Lib.hid hV1
              have HV2 := Lib.hid hV2
              rw [List.length_singleton] at hr3
              clear hV1 hV2 hbV1 hbV2 hnew hown3 hgrow3 hblk3 hsn hon hnb hbt3 hrow3 i1 i2 i3 i4 hbe HI hcc hHL hy
              go_wp2_with (at_builtin; rw [← HV1.out, ← HV2.out]; refine Lib.wpList_append_run _ rfl _ _ _ _ rfl _ _ rfl rfl _ _ hr3 ?_)
              go_roundw
              case rel => exact ⟨k + 1, by omega, by go_num, HNEW⟩
              case measure => simp [intOf]; omega
            · obtain rfl : k = x.lines.length := by omega
              have hd1 : decide ((x.lines.length : Int) < (x.lines.length : Int)) = false := decide_eq_false (by omega)
              rw [List.take_length] at i1
              obtain ⟨ra, rc, hv, hRL, _, _, hRB⟩ := lines_of_row_cap i1 (by simp)
              rw [List.length_map] at hv
              have HFIN : Hid (TurnSt B w wr be bt bs x lo lc (revE x ref) S ∧ SumsAt wr (bs + 1) u6 x.lines) := by
                rw [HRE.out]
                refine ⟨⟨i3, hbe, ⟨ra, rc, ?_, hRL, fun a ha => ?_⟩, HST.out.short.but i4 hne2 hbs1⟩, HSU.out.but i4 hbs1⟩
                · rw [i2, hv]; simp
                · have := hRB a.block (by rw [hv, ha]; rfl); omega
              clear hRL hRB i1 i2 i3 i4 hbe HI
              go_wp2_with fail
              go_meet
              exact ⟨HFIN.out.1, HFIN.out.2⟩
        · have hcb : (C == 0) = false := by simp [h0]
          have HRE : Hid (revE x ref = noneE) := by show _ = _; unfold revE; rw [if_neg (by rw [← HC.out]; exact h0)]
          clear h0
          go_wp2_with fail
          go_meet
          exact ⟨by rw [HRE.out]; exact HST, HSU⟩
      case rest =>
        obtain ⟨HT, HU⟩ := hcut
        obtain ⟨w2, hw2⟩ : ∃ w2 : World, w2 = wc := ⟨_, rfl⟩
        subst hw2
        have hrev := fun W (h : LinesAt W lo x.lines) => rev_any lo lc x ref W h HNIL.out HN.out
        have hnet := fun W (h : LinesAt W lo x.lines) => net_any lo lc x W h HNIL.out HN.out
        have hsum := sums_lines lo lc x w2 (HLW.out.below (by rw [← HB.out]; exact HT.out.below)) HNIL.out HN.out
        have herr : ∀ c W, Below B w W → Calls Tryd.prog 13 #[errV c, .int .i64 c] W fun e w' => e = .returned (.bool true) ∧ Below W.heap.size W w' := fun c W hW => (error_any c c W (HG.out.below hW (by rw [HB.out]; exact HPOS.out))).mono fun _ _ ⟨h1, h2⟩ => ⟨by rw [h1]; simp, h2⟩
        obtain ⟨T, hT⟩ : ∃ T, T = revE x ref := ⟨_, rfl⟩
        have HTLN : Hid (T.lines.length ≤ 9223372036854775807) := by
          show _ ≤ _
          rw [hT]
          unfold revE
          split
          · simp only [List.length_map]; exact HN.out
          · exact Nat.zero_le _
        have HSLN : Hid (S.lines.length ≤ 9223372036854775807) := by
          show _ ≤ _
          rcases HSH.out with ⟨_, h⟩ | ⟨_, O, h1, h2⟩
          · rw [h]; exact Nat.zero_le _
          · rw [h2]
            have h3 := fold_lenL h1
            have h4 := List.length_filter_le notZ O
            exact Nat.le_trans h4 (Nat.le_trans h3 HN.out)
        rw [← hT] at HT hrev
        rw [← HC.out] at hrev
        have HREV := Lib.hid hrev
        have HNET := Lib.hid hnet
        have HERR := Lib.hid herr
        have e0 : w2.cell? ⟨be, 0, none⟩ = some (.string x.ref) := cell_of_heap HT.out.ent 0
        have e1 : w2.cell? ⟨be, 1, none⟩ = some (.int .i64 x.ent) := cell_of_heap HT.out.ent 1
        have e2 : w2.cell? ⟨be, 2, none⟩ = some (.int .i64 x.per) := cell_of_heap HT.out.ent 2
        have e3 : w2.cell? ⟨be, 3, none⟩ = some (.slice lo x.lines.length lc) := cell_of_heap HT.out.ent 3
        have HSZ : Hid (B ≤ w2.heap.size) := by have h1 := HT.out.below.size; have h2 := HB.out; show _ ≤ _; omega
        clear hT hrev hnet herr HST HSU HC HRB HNIL HG HPOS
        go_wp2_with fail
        refine hsum.mono ?_
        rintro e w3 ⟨hb3, v, O, rfl, ho1, ho2⟩
        rw [← HCB.out] at ho2 ⊢
        have HT3 := Lib.hid (HT.out.later HSZ.out hb3)
        have HU3 := Lib.hid (HU.out.later hb3)
        have HS3 : Hid (B ≤ w3.heap.size) := Nat.le_trans HSZ.out hb3.size
        obtain ⟨sa, sc, rfl, hsl⟩ := lines_of_row ho1 rfl
        obtain ⟨ua, uc, O', rfl, hul, huo, _⟩ := HU3.out
        obtain rfl : O' = O := mapB_inj (by rw [huo, ho2, ← HCB.out])
        have HSL := Lib.hid hsl
        have HUL := Lib.hid hul
        have HOL : Hid (O'.length ≤ 9223372036854775807) := by
          show _ ≤ _
          split at ho2
          · have h1 := fold_lenL (l := x.lines.map bare) ho2
            rw [List.length_map] at h1
            exact Nat.le_trans h1 HN.out
          · have h1 := congrArg List.length ho2
            simp only [List.length_map, List.length_nil] at h1
            omega
        have hcall := HERR.out Cb w3 HT3.out.below
        clear hsum hb3 ho1 ho2 hsl hul huo e0 e1 e2 e3 HT HU HSZ HU3
        go_wp2_with fail
        refine hcall.mono ?_
        rintro e w4 ⟨rfl, hb4⟩
        have HT4 := Lib.hid (HT3.out.later HS3.out hb4)
        have HS4 : Hid (B ≤ w4.heap.size) := Nat.le_trans HS3.out hb4.size
        have hcall2 := lines_same O' w4 sa ua sc uc (HSL.out.below hb4) (HUL.out.below hb4) HOL.out
        clear hcall hb4 HSL HUL HOL HT3 HS3
        generalize O'.length = on at *
        go_wp2_with fail
        refine hcall2.mono ?_
        rintro e w5 ⟨rfl, nd, hw5⟩
        have hb5 : Below w4.heap.size w4 w5 := by rw [hw5]; exact ⟨rfl, rfl, rfl, Nat.le_refl _, fun _ _ => rfl⟩
        have HT5 := Lib.hid (HT4.out.later HS4.out hb5)
        have HS5 : Hid (B ≤ w5.heap.size) := Nat.le_trans HS4.out hb5.size
        have e0 : w5.cell? ⟨be, 0, none⟩ = some (.string x.ref) := cell_of_heap HT5.out.ent 0
        have e1 : w5.cell? ⟨be, 1, none⟩ = some (.int .i64 x.ent) := cell_of_heap HT5.out.ent 1
        have e2 : w5.cell? ⟨be, 2, none⟩ = some (.int .i64 x.per) := cell_of_heap HT5.out.ent 2
        have e3 : w5.cell? ⟨be, 3, none⟩ = some (.slice lo x.lines.length lc) := cell_of_heap HT5.out.ent 3
        have hcall := HREV.out w5 (HLW.out.below (by rw [← HB.out]; exact HT5.out.below))
        clear hcall2 hw5 hb5 HT4 HS4 HREV
        go_wp2_with fail
        refine hcall.mono ?_
        rintro e w6 ⟨hb6, ta, tc, rfl, htl⟩
        have HT6 := Lib.hid (HT5.out.later HS5.out hb6)
        have HS6 : Hid (B ≤ w6.heap.size) := Nat.le_trans HS5.out hb6.size
        obtain ⟨tn, htn⟩ : ∃ tn, tn = T.lines.length := ⟨_, rfl⟩
        obtain ⟨br, hbr⟩ : ∃ br, br = w6.heap.size := ⟨_, rfl⟩
        obtain ⟨w7, hw7⟩ : ∃ w7, w7 = w6.alloc (.cells #[.string T.ref, .int .i64 T.ent, .int .i64 T.per, .slice ta tn tc] 81) := ⟨_, rfl⟩
        have hb7 : Below w6.heap.size w6 w7 := by rw [hw7]; exact (Below.refl _ _).alloc (Nat.le_refl _) _
        have HT7 := Lib.hid (HT6.out.later HS6.out hb7)
        have HS7 : Hid (B ≤ w7.heap.size) := Nat.le_trans HS6.out hb7.size
        have hr7 : w7.heap[br]? = some (.cells #[.string T.ref, .int .i64 T.ent, .int .i64 T.per, .slice ta tn tc] 81 (0, 0)) := by rw [hw7, hbr]; exact heap_new_at rfl _
        have HTL := Lib.hid (htl.below hb7)
        have HR7 := Lib.hid hr7
        have HW7 := Lib.hid hw7
        have HBR := Lib.hid hbr
        have HTN := Lib.hid htn
        have hce := HERR.out C w7 HT7.out.below
        unfold entryV
        rw [← htn]
        clear hcall hb6 hb7 htl hbr hw7 hr7 HT5 HT6 HS5 HS6 e0 e1 e2 e3 htn
        go_wp2_with fail
        rw [← HW7.out, ← HBR.out]
        refine hce.mono ?_
        rintro e w8 ⟨rfl, hb8⟩
        have HT8 := Lib.hid (HT7.out.later HS7.out hb8)
        have HS8 : Hid (B ≤ w8.heap.size) := Nat.le_trans HS7.out hb8.size
        have hr8 := (hb8.block br (lt_of_heap HR7.out)).trans HR7.out
        have hlr := HTL.out.below hb8
        obtain ⟨qa, qc, hq, hql, _⟩ := HT8.out.turned.ex
        rw [← HTN.out] at hq
        have a0 : w8.cell? ⟨br, 0, none⟩ = some (.string T.ref) := cell_of_heap hr8 0
        have a1 : w8.cell? ⟨br, 1, none⟩ = some (.int .i64 T.ent) := cell_of_heap hr8 1
        have a2 : w8.cell? ⟨br, 2, none⟩ = some (.int .i64 T.per) := cell_of_heap hr8 2
        have a3 : w8.cell? ⟨br, 3, none⟩ = some (.slice ta tn tc) := cell_of_heap hr8 3
        have b0 : w8.cell? ⟨bt, 0, none⟩ = some (.string T.ref) := cell_of_heap hq 0
        have b1 : w8.cell? ⟨bt, 1, none⟩ = some (.int .i64 T.ent) := cell_of_heap hq 1
        have b2 : w8.cell? ⟨bt, 2, none⟩ = some (.int .i64 T.per) := cell_of_heap hq 2
        have b3 : w8.cell? ⟨bt, 3, none⟩ = some (.slice qa tn qc) := cell_of_heap hq 3
        have hen := entry_same T w8 ta qa tc qc hlr hql HTLN.out
        unfold entryV at hen
        rw [← HTN.out] at hen
        clear hce hb8 hr8 hlr hq hql HT7 HS7 HR7 HTL HW7 HBR
        go_wp2_with fail
        refine hen.mono ?_
        rintro e w9 ⟨rfl, hb9⟩
        have HT9 := Lib.hid (HT8.out.later HS8.out hb9)
        have HS9 : Hid (B ≤ w9.heap.size) := Nat.le_trans HS8.out hb9.size
        have e0 : w9.cell? ⟨be, 0, none⟩ = some (.string x.ref) := cell_of_heap HT9.out.ent 0
        have e1 : w9.cell? ⟨be, 1, none⟩ = some (.int .i64 x.ent) := cell_of_heap HT9.out.ent 1
        have e2 : w9.cell? ⟨be, 2, none⟩ = some (.int .i64 x.per) := cell_of_heap HT9.out.ent 2
        have e3 : w9.cell? ⟨be, 3, none⟩ = some (.slice lo x.lines.length lc) := cell_of_heap HT9.out.ent 3
        have hcall := HNET.out w9 (HLW.out.below (by rw [← HB.out]; exact HT9.out.below))
        clear hen hb9 HT8 HS8 HNET a0 a1 a2 a3 b0 b1 b2 b3
        go_wp2_with fail
        refine hcall.mono ?_
        rintro e w10 ⟨S', ⟨hb10, pa, pc, rfl, hpl⟩, hsh⟩
        obtain rfl : S' = S := short_one hsh HSH.out
        have HT10 := Lib.hid (HT9.out.later HS9.out hb10)
        have HS10 : Hid (B ≤ w10.heap.size) := Nat.le_trans HS9.out hb10.size
        obtain ⟨sn, hsn⟩ : ∃ sn, sn = S'.lines.length := ⟨_, rfl⟩
        obtain ⟨bn, hbn⟩ : ∃ bn, bn = w10.heap.size := ⟨_, rfl⟩
        obtain ⟨w11, hw11⟩ : ∃ w11, w11 = w10.alloc (.cells #[.string S'.ref, .int .i64 S'.ent, .int .i64 S'.per, .slice pa sn pc] 81) := ⟨_, rfl⟩
        have hb11 : Below w10.heap.size w10 w11 := by rw [hw11]; exact (Below.refl _ _).alloc (Nat.le_refl _) _
        have HT11 := Lib.hid (HT10.out.later HS10.out hb11)
        have HS11 : Hid (B ≤ w11.heap.size) := Nat.le_trans HS10.out hb11.size
        have hr11 : w11.heap[bn]? = some (.cells #[.string S'.ref, .int .i64 S'.ent, .int .i64 S'.per, .slice pa sn pc] 81 (0, 0)) := by rw [hw11, hbn]; exact heap_new_at rfl _
        have HPL := Lib.hid (hpl.below hb11)
        have HR11 := Lib.hid hr11
        have HW11 := Lib.hid hw11
        have HBN := Lib.hid hbn
        have HSN := Lib.hid hsn
        have hce := HERR.out Cb w11 HT11.out.below
        rw [← HCB.out]
        unfold entryV
        rw [← hsn]
        clear hcall hb10 hb11 hpl hbn hw11 hr11 HT9 HT10 HS9 HS10 e0 e1 e2 e3 hsn hsh HSH
        go_wp2_with fail
        rw [← HW11.out, ← HBN.out]
        refine hce.mono ?_
        rintro e w12 ⟨rfl, hb12⟩
        have HT12 := Lib.hid (HT11.out.later HS11.out hb12)
        have HS12 : Hid (B ≤ w12.heap.size) := Nat.le_trans HS11.out hb12.size
        have hr12 := (hb12.block bn (lt_of_heap HR11.out)).trans HR11.out
        have hlr := HPL.out.below hb12
        obtain ⟨qa, qc, hq, hql, _⟩ := HT12.out.short.ex
        rw [← HSN.out] at hq
        have a0 : w12.cell? ⟨bn, 0, none⟩ = some (.string S'.ref) := cell_of_heap hr12 0
        have a1 : w12.cell? ⟨bn, 1, none⟩ = some (.int .i64 S'.ent) := cell_of_heap hr12 1
        have a2 : w12.cell? ⟨bn, 2, none⟩ = some (.int .i64 S'.per) := cell_of_heap hr12 2
        have a3 : w12.cell? ⟨bn, 3, none⟩ = some (.slice pa sn pc) := cell_of_heap hr12 3
        have b0 : w12.cell? ⟨bs, 0, none⟩ = some (.string S'.ref) := cell_of_heap hq 0
        have b1 : w12.cell? ⟨bs, 1, none⟩ = some (.int .i64 S'.ent) := cell_of_heap hq 1
        have b2 : w12.cell? ⟨bs, 2, none⟩ = some (.int .i64 S'.per) := cell_of_heap hq 2
        have b3 : w12.cell? ⟨bs, 3, none⟩ = some (.slice qa sn qc) := cell_of_heap hq 3
        have hen := entry_same S' w12 pa qa pc qc hlr hql HSLN.out
        unfold entryV at hen
        rw [← HSN.out] at hen
        clear hce hb12 hr12 hlr hq hql HT11 HS11 HR11 HPL HW11 HBN
        go_wp2_with fail
        refine hen.mono ?_
        rintro e w13 ⟨rfl, hb13⟩
        have HZ : Hid (Below B w w13) := HT12.out.below.trans (hb13.mono HS12.out)
        clear hen hb13 HT12 HS12 a0 a1 a2 a3 b0 b1 b2 b3
        go_wp2_with fail
        go_ret
        exact ⟨rfl, HZ.out⟩
end Go.Proofs.YtbhndnjlplibmaaDoor.lg
