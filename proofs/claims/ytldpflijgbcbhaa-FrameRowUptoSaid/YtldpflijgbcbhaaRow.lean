/- FrameRow: the walk of the law. -/
import Derived.Test.YtldpflijgbcbhaaRowL
import Derived.Deep.RegionLaw
namespace Go.Proofs.Ytldpflijgbcbhaa.row
open Go.RowKit

set_option maxRecDepth 100000 in
set_option maxHeartbeats 8000000 in
theorem walk (ao : Option Addr) (cap : Nat) (es : List EntryM) (w : World) (hz : EntsAt w ao es) (hf : ∀ x ∈ es, x.fair) (hm : es.length ≤ 9223372036854775807) :
    Calls Try.prog 3 #[.slice ao es.length cap] w fun e w' => e = .returned (.bool true) ∧ Below w.heap.size w w' := by
  have h2 := two_any ⟨#[97]⟩ ⟨#[49, 48]⟩ ⟨#[50, 48]⟩ 1 1 5 w (by decide) (by decide)
  have HZ := Lib.hid hz
  have HF := Lib.hid hf
  clear hz hf
  go_enter Try.func3, Try.ntmps3
  go_wp2_with fail
  refine h2.mono ?_
  rintro e w1 ⟨lao, rfl, hl1, hb1⟩
  have he := entry_any M0 lao 2 w1 M0_fair hl1
  rw [(entry_code M0).2 M0_ok] at he
  have HB1 := Lib.hid hb1
  clear h2 hl1 hb1
  go_wp2_with fail
  refine he.mono ?_
  rintro e w2 ⟨v, rfl, hb2, hrow⟩
  have hrow := hrow rfl
  rw [if_pos rfl, errV_zero]
  obtain ⟨L, hL⟩ : ∃ L, L = M0.bytes.length := ⟨_, rfl⟩
  have hL1 : 1 ≤ L := by rw [hL]; exact entry_len M0
  have hLe : L ≤ 500000000 := by rw [hL]; exact M0.bytes_le M0_fair (EntryM.ok_few M0_ok)
  obtain ⟨g0, cg0, rfl, _, hlt0, _⟩ := ownsRow_some hrow (by omega)
  have hsrc : SrcW w2 (some ⟨g0, 0, none⟩) M0.bytes := by
    intro _
    exact ⟨g0, 0, rfl, hlt0, fun j x hj => by
      have := hrow.cells (g := g0) rfl j (byteV x) (by rw [List.getElem?_map, hj]; rfl)
      rwa [addr_add] at this⟩
  have hr := readEntry_any w2 (some ⟨g0, 0, none⟩) cg0 M0.bytes hsrc (row_len hrow) (by omega)
  have hread : rdEntry M0.bytes = some (M0, []) := by have := entry_fwd M0 [] M0_ok; rw [List.append_nil] at this; exact this
  have HREAD := Lib.hid hread
  rw [← hL] at hr
  have HL := Lib.hid hL
  have HB2 := Lib.hid (HB1.out.trans (hb2.mono HB1.out.size))
  clear he hrow hsrc hread hL hb2
  rw [← HL.out]
  go_wp2_with fail
  refine hr.mono ?_
  rintro e w3 ⟨hb3, hq⟩
  rw [HREAD.out] at hq
  obtain ⟨lao3, lc3, rfl, _, _⟩ := hq
  rw [← HL.out]
  have HB3 := Lib.hid (HB2.out.trans (hb3.mono HB2.out.size))
  have hent : entryV M0 lao3 lc3 = .agg #[.string ⟨#[97]⟩, .int .i64 1, .int .i64 1, .slice lao3 2 lc3] := rfl
  rw [hent]
  clear hr hb3 hent
  go_wp2_with fail
  obtain ⟨W0, hW0⟩ : ∃ W0, W0 = w3.alloc (.cells #[.string ⟨#[97]⟩, .int .i64 1, .int .i64 1, .slice lao3 2 lc3] 30) := ⟨_, rfl⟩
  have HBW : Hid (Below w.heap.size w W0) := by
    show Below _ _ _
    rw [hW0]; exact HB3.out.alloc HB3.out.size _
  rw [← hW0]
  have HW0 := Lib.hid hW0
  obtain ⟨i0, hi, hz0, hz1, hz2⟩ := info_parts infoU8
  have HI := Lib.hid hi
  have HZ0 := Lib.hid hz0
  have HZ1 := Lib.hid hz1
  have HZ2 := Lib.hid hz2
  clear hi hz0 hz1 hz2 hW0
  go_loopw [8, 9] (fun b i wr => ∃ k : Nat, k ≤ es.length ∧ k ≤ 30 ∧ i = .int .i64 (k : Int) ∧ Hid (Below w.heap.size w wr) ∧ Hid (wr.ownsRow w.heap.size 5 1 b (rowB es k).length ((rowB es k).map byteV)) ∧ Hid (∀ x ∈ es.take k, x.ok)) (fun _ i _ => es.length - (intOf i).toNat)
  case atStart => exact ⟨0, Nat.zero_le _, Nat.zero_le _, rfl, HBW, World.ownsRow_nil _ _ _ _, fun x hx => by simp at hx⟩
  case round =>
    obtain ⟨k, hk, hk30, rfl, hbw, hrow, hok⟩ := hrel
    clear HBW HW0 HB3 HB2 HB1
    by_cases hlt : k < es.length ∧ k < 30
    · obtain ⟨hlt, hlt30⟩ := hlt
      have d1 : decide ((k : Int) < 30) = true := decide_eq_true (by omega)
      have d2 : decide (k < 30) = true := decide_eq_true hlt30
      obtain ⟨b, off, rfl, hbl, hcell⟩ : ∃ b off, ao = some ⟨b, off, none⟩ ∧ b < w.heap.size ∧ ∀ (i : Nat) (x : EntryM), es[i]? = some x → ∃ lao lc,
          w.cell? ⟨b, off + i * 4, none⟩ = some (.string x.ref) ∧ w.cell? ⟨b, off + i * 4 + 1, none⟩ = some (.int .i64 x.ent) ∧ w.cell? ⟨b, off + i * 4 + 2, none⟩ = some (.int .i64 x.per) ∧ w.cell? ⟨b, off + i * 4 + 3, none⟩ = some (.slice lao x.lines.length lc) ∧ LinesAt w lao x.lines := by
        rcases HZ.out with h | h
        · rw [h] at hlt; simp at hlt
        · exact h
      obtain ⟨y, hy⟩ : ∃ y, es[k]? = some y := ⟨es[k], List.getElem?_eq_getElem hlt⟩
      obtain ⟨yao, yc, g1, g2, g3, g4, g5⟩ := hcell k y hy
      have hbe : Below w.heap.size w wr := hbw.out
      have c0 : wr.cell? ⟨b, off + k * 4, none⟩ = some (.string y.ref) := (hbe.cell (p := ⟨b, off + k * 4, none⟩) hbl).trans g1
      have c1 : wr.cell? ⟨b, off + k * 4 + 1, none⟩ = some (.int .i64 y.ent) := (hbe.cell (p := ⟨b, off + k * 4 + 1, none⟩) hbl).trans g2
      have c2 : wr.cell? ⟨b, off + k * 4 + 2, none⟩ = some (.int .i64 y.per) := (hbe.cell (p := ⟨b, off + k * 4 + 2, none⟩) hbl).trans g3
      have c3 : wr.cell? ⟨b, off + k * 4 + 3, none⟩ = some (.slice yao y.lines.length yc) := (hbe.cell (p := ⟨b, off + k * 4 + 3, none⟩) hbl).trans g4
      have hyf : y.fair := HF.out y (List.mem_of_getElem? hy)
      have he := entry_any y yao yc wr hyf (g5.below hbe (Nat.le_refl _))
      have HY := Lib.hid hy
      have HYF := Lib.hid hyf
      unfold entryV at he
      clear g1 g2 g3 g4 g5 hcell hy hyf hbe
      go_wp2_with fail
      refine he.mono ?_
      rintro e w4 ⟨v, rfl, hb4, hvrow⟩
      have HB4 := Lib.hid (hbw.out.trans (hb4.mono hbw.out.size))
      clear he
      by_cases hcode : y.code = 0
      · have hvrow := hvrow hcode
        rw [hcode, if_pos rfl, errV_zero]
        have hyok := (entry_code y).1 hcode
        have hlen1 := entry_len y
        have hlen2 := y.bytes_le HYF.out (EntryM.ok_few hyok)
        obtain ⟨gv, cv, rfl, _, hgv, _⟩ := ownsRow_some hvrow (by omega)
        have hrlen := rowB_le hk30 (fun x hx => ⟨fair_of_ok (hok.out x hx), EntryM.ok_few (hok.out x hx)⟩)
        have hrow4 : w4.ownsRow w.heap.size 5 1 u8 (rowB es k).length ((rowB es k).map byteV) := ownsRow_keep hrow.out (fun g hg => hb4.block g (by
          rcases hrow.out.2 with ⟨hv, _⟩ | ⟨g', c', cur, hv, _, hh, _⟩
          · rw [hv] at hg; simp [Value.ownBlock] at hg
          · rw [hv] at hg
            simp only [Value.ownBlock, Option.some.injEq] at hg
            subst hg
            exact lt_of_heap hh))
        have HR4 := Lib.hid hrow4
        have hnews : ∀ j u, (y.bytes.map byteV)[j]? = some u → w4.cell? (Addr.add ⟨gv, 0, none⟩ j) = some u := hvrow.cells (g := gv) rfl
        have HNEWS := Lib.hid hnews
        have hB4 : w.heap.size ≤ w4.heap.size := HB4.out.size
        have hSucc := rowB_succ HY.out
        have HOK := Lib.hid hyok
        have HLEN : Hid ((y.bytes.map byteV).length = y.bytes.length * 1) := by show _ = _; simp
        have HONE := Lib.hid (byteV_one y.bytes)
        clear hvrow hb4 hrow4 hnews hyok hrow hgv
        go_wp2_with (refine wpList_append_own_at (o := ⟨some 68, _, _, _, _, _⟩) _ rfl (.tmp 66) (.tmp 67) 23 rfl w.heap.size 5 i0 (.int .u8 0) 1 1 Try.underlying23 HI.out HZ0.out HZ1.out HZ2.out rfl (by decide) u8 (rowB es k).length ((rowB es k).map byteV) rfl HR4.out ⟨gv, 0, none⟩ y.bytes.length cv (y.bytes.map byteV) rfl HLEN.out HNEWS.out HONE.out (by unfold maxLen; omega) (by omega) hB4 ?_)
        intro v5 w5 hown5 hg5 _ hat5
        have HR5 : Hid (w5.ownsRow w.heap.size 5 1 v5 (rowB es (k + 1)).length ((rowB es (k + 1)).map byteV)) := by
          show World.ownsRow _ _ _ _ _ _ _
          rw [hSucc]
          exact ownsRow_cast hown5 (by simp) (by simp)
        have HB5 : Hid (Below w.heap.size w w5) := by
          show Below _ _ _
          refine HB4.out.grown hg5 hB4 (fun g hg => ?_)
          rcases HR4.out.2 with ⟨hv, _⟩ | ⟨g', c', cur, hv, hb, _⟩
          · rw [hv] at hg; simp [Value.ownBlock] at hg
          · rw [hv] at hg
            simp only [Value.ownBlock, Option.some.injEq] at hg
            omega
        have HOK5 : Hid (∀ x ∈ es.take (k + 1), x.ok) := by
          intro x hx
          obtain ⟨hlt', he'⟩ := List.getElem?_eq_some_iff.1 HY.out
          rw [List.take_succ_eq_append_getElem hlt', he'] at hx
          rcases List.mem_append.1 hx with hx | hx
          · exact hok.out x hx
          · rw [List.mem_singleton.1 hx]; exact HOK.out
        clear hown5 hg5 hat5 hSucc
        go_wp2_with fail
        go_roundw
        case rel => exact ⟨k + 1, by omega, by omega, by go_num, HB5, HR5, HOK5⟩
        case measure => simp [intOf]; omega
      · rw [errV_some hcode, if_neg hcode]
        clear hvrow hcode hrow
        go_wp2_with fail
        go_ret
        exact ⟨rfl, HB4.out⟩
    · have hrlen := rowB_le hk30 (fun x hx => ⟨fair_of_ok (hok.out x hx), EntryM.ok_few (hok.out x hx)⟩)
      have hfin : (¬ k < es.length) ∨ (k < es.length ∧ k = 30) := by omega
      obtain ⟨K, hK⟩ : ∃ K, K = k := ⟨_, rfl⟩
      have hKl : K ≤ es.length := by omega
      have hK30 : K ≤ 30 := by omega
      rw [← hK] at hok hrow hrlen
      have HKk := Lib.hid hK
      obtain ⟨BL, hBL⟩ : ∃ BL, BL = (rowB es K).length := ⟨_, rfl⟩
      obtain ⟨bao, bcap, rfl⟩ : ∃ bao bcap, u8 = .slice bao BL bcap := by
        rcases hrow.out.2 with ⟨hv, hx⟩ | ⟨g', c', cur, hv, _⟩
        · exact ⟨none, 0, by rw [hv, hBL, hx]⟩
        · exact ⟨_, _, by rw [hv, hBL]⟩
      have HBL := Lib.hid hBL
      have hBLle : BL ≤ 15000000000 := by rw [hBL]; exact Nat.le_trans hrlen (by omega)
      clear hlt hK hBL
      have hcase : (decide ((k : Int) < (es.length : Int)) = false ∧ decide (k < es.length) = false) ∨ (decide ((k : Int) < (es.length : Int)) = true ∧ decide (k < es.length) = true ∧ decide ((k : Int) < 30) = false ∧ decide (k < 30) = false) := by
        rcases hfin with h | ⟨h1, h2⟩
        · exact Or.inl ⟨decide_eq_false (by omega), decide_eq_false h⟩
        · exact Or.inr ⟨decide_eq_true (by omega), decide_eq_true (by omega), decide_eq_false (by omega), decide_eq_false (by omega)⟩
      clear hfin
      obtain ⟨wo, rfl⟩ : ∃ wo : World, wo = wr := ⟨_, rfl⟩
      rcases hcase with ⟨d0, d0n⟩ | ⟨d0, d0n, d1, d1n⟩
      all_goals
        go_wp2_with fail
        go_loopw [12, 13] (fun a i wr => ∃ j P : Nat, j ≤ K ∧ a = .int .i64 (P : Int) ∧ i = .int .i64 (j : Int) ∧ Hid (P = (rowB es j).length) ∧ Hid (Below wo.heap.size wo wr)) (fun _ i _ => K - (intOf i).toNat)
        case atStart => exact ⟨0, 0, Nat.zero_le _, rfl, rfl, rfl, Below.refl _ _⟩
        case round =>
          obtain ⟨j, P, hj, rfl, rfl, hP, hbj⟩ := hrel
          by_cases hlt : j < K
          · have e1 : decide ((j : Int) < 30) = true := decide_eq_true (by omega)
            have e2 : decide (j < 30) = true := decide_eq_true (by omega)
            have e3 : decide ((j : Int) < (es.length : Int)) = true := decide_eq_true (by omega)
            have e4 : decide (j < es.length) = true := decide_eq_true (by omega)
            obtain ⟨b, off, rfl, hbl, hcell⟩ : ∃ b off, ao = some ⟨b, off, none⟩ ∧ b < w.heap.size ∧ ∀ (i : Nat) (x : EntryM), es[i]? = some x → ∃ lao lc,
                w.cell? ⟨b, off + i * 4, none⟩ = some (.string x.ref) ∧ w.cell? ⟨b, off + i * 4 + 1, none⟩ = some (.int .i64 x.ent) ∧ w.cell? ⟨b, off + i * 4 + 2, none⟩ = some (.int .i64 x.per) ∧ w.cell? ⟨b, off + i * 4 + 3, none⟩ = some (.slice lao x.lines.length lc) ∧ LinesAt w lao x.lines := by
              rcases HZ.out with h | h
              · rw [h] at e4; simp at e4
              · exact h
            obtain ⟨y, hy⟩ : ∃ y, es[j]? = some y := ⟨es[j]'(by omega), List.getElem?_eq_getElem (by omega)⟩
            have hyok : y.ok := hok.out y (List.mem_of_getElem? (by rw [List.getElem?_take, if_pos hlt]; exact hy))
            obtain ⟨yao, yc, g1, g2, g3, g4, g5⟩ := hcell j y hy
            obtain ⟨r, hrd, hn, hle, hdl⟩ := rowB_read hlt hy hyok
            rw [← HBL.out, ← hP.out] at hn hle
            rw [← hP.out] at hrd hdl
            rw [← HBL.out] at hdl
            have hy1 := entry_len y
            obtain ⟨gb, hgb⟩ : ∃ gb, bao = some ⟨gb, 0, none⟩ := by
              rcases hrow.out.2 with ⟨hv, hx⟩ | ⟨g', c', cur, hv, _⟩
              · have := HBL.out; omega
              · injection hv with hv _ _; exact ⟨g', hv⟩
            subst hgb
            have hrowr : wr.ownsRow w.heap.size 5 1 (.slice (some ⟨gb, 0, none⟩) (rowB es K).length bcap) (rowB es K).length ((rowB es K).map byteV) := by
              rw [← HBL.out]
              have h0 := hrow.out
              rw [← HBL.out] at h0
              exact ownsRow_keep h0 (fun g hg => hbj.out.block g (by
                rcases h0.2 with ⟨hv, _⟩ | ⟨g', c', cur, hv, _, hh, _⟩
                · cases hv
                · injection hv with hv _ _
                  injection hv with hv
                  injection hv with hv _ _
                  simp only [Value.ownBlock, Option.some.injEq] at hg
                  rw [← hg, hv]
                  exact lt_of_heap hh))
            have hcapr : BL ≤ bcap := by have := row_len hrowr; have := HBL.out; omega
            have hsrc := src_of_row hrowr P (by have := HBL.out; omega)
            rw [Nat.zero_add] at hsrc
            have hr := readEntry_any wr _ (bcap - P) ((rowB es K).drop P) hsrc (by rw [hdl]; omega) (by rw [hdl]; omega)
            rw [hdl] at hr
            generalize hA : (if bcap = P then some (⟨gb, 0, none⟩ : Addr) else some ⟨gb, P, none⟩) = A at hr
            have HRD := Lib.hid hrd
            have HN := Lib.hid hn
            have HDL := Lib.hid hdl
            have HOKY := Lib.hid hyok
            have HY := Lib.hid hy
            have G1 := Lib.hid g1
            have G2 := Lib.hid g2
            have G3 := Lib.hid g3
            have G4 := Lib.hid g4
            have G5 := Lib.hid g5
            clear hrd hn hdl hyok hy g1 g2 g3 g4 g5 hcell hsrc hrowr
            go_wp2_with fail
            refine hr.mono ?_
            rintro e w6 ⟨hb6, hq⟩
            rw [HRD.out] at hq
            obtain ⟨lao5, lc5, rfl, hl5, _⟩ := hq
            rw [HDL.out, HN.out]
            have hbw6 : Below w.heap.size w w6 := (hbw.out.trans (hbj.out.mono hbw.out.size)).trans (hb6.mono (Nat.le_trans hbw.out.size hbj.out.size))
            obtain ⟨W7, hW7⟩ : ∃ W7, W7 = w6.alloc (.cells #[.string y.ref, .int .i64 y.ent, .int .i64 y.per, .slice lao5 y.lines.length lc5] 30) := ⟨_, rfl⟩
            have hb67 : Below w6.heap.size w6 W7 := by rw [hW7]; exact (Below.refl _ _).alloc (Nat.le_refl _) _
            have hbw7 : Below w.heap.size w W7 := hbw6.trans (hb67.mono hbw6.size)
            have hbox : W7.heap[w6.heap.size]? = some (.cells #[.string y.ref, .int .i64 y.ent, .int .i64 y.per, .slice lao5 y.lines.length lc5] 30 (0, 0)) := by rw [hW7]; exact heap_new_at rfl _
            have x0 : W7.cell? ⟨w6.heap.size, 0, none⟩ = some (.string y.ref) := cell_of_heap hbox 0
            have x1 : W7.cell? ⟨w6.heap.size, 1, none⟩ = some (.int .i64 y.ent) := cell_of_heap hbox 1
            have x2 : W7.cell? ⟨w6.heap.size, 2, none⟩ = some (.int .i64 y.per) := cell_of_heap hbox 2
            have x3 : W7.cell? ⟨w6.heap.size, 3, none⟩ = some (.slice lao5 y.lines.length lc5) := cell_of_heap hbox 3
            have c0 : W7.cell? ⟨b, off + j * 4, none⟩ = some (.string y.ref) := (hbw7.cell (p := ⟨b, off + j * 4, none⟩) hbl).trans G1.out
            have c1 : W7.cell? ⟨b, off + j * 4 + 1, none⟩ = some (.int .i64 y.ent) := (hbw7.cell (p := ⟨b, off + j * 4 + 1, none⟩) hbl).trans G2.out
            have c2 : W7.cell? ⟨b, off + j * 4 + 2, none⟩ = some (.int .i64 y.per) := (hbw7.cell (p := ⟨b, off + j * 4 + 2, none⟩) hbl).trans G3.out
            have c3 : W7.cell? ⟨b, off + j * 4 + 3, none⟩ = some (.slice yao y.lines.length yc) := (hbw7.cell (p := ⟨b, off + j * 4 + 3, none⟩) hbl).trans G4.out
            have hsame := entry_same y W7.drew lao5 yao lc5 yc ((hl5.below hb67 (Nat.le_refl _)).below below_of_still (Nat.le_refl _)) ((G5.out.below hbw7 (Nat.le_refl _)).below below_of_still (Nat.le_refl _)) (by have := EntryM.ok_few HOKY.out; omega)
            have HBO : Hid (Below wo.heap.size wo W7) := (hbj.out.trans (hb6.mono hbj.out.size)).trans (hb67.mono (Nat.le_trans hbj.out.size hb6.size))
            have hP1 : Hid (P + y.bytes.length = (rowB es (j + 1)).length) := by
              show _ = _
              rw [rowB_succ HY.out, List.length_append, ← hP.out]
            have HW7 := Lib.hid hW7
            unfold entryV at hsame
            have hent5 : entryV y lao5 lc5 = .agg #[.string y.ref, .int .i64 y.ent, .int .i64 y.per, .slice lao5 y.lines.length lc5] := rfl
            rw [hent5]
            clear hent5
            have hyl : y.bytes.length ≤ 500000000 := y.bytes_le (fair_of_ok HOKY.out) (EntryM.ok_few HOKY.out)
            clear hr hbox hbw6 hbw7 hb6 hb67 hl5 hW7
            go_wp2_with fail
            rw [← HW7.out]
            generalize hLL : y.bytes.length = LL at *
            have HBD : Hid (Below wo.heap.size wo W7.drew) := HBO.out.drew
            have hi1 : (j : Int) < (es.length : Int) := by omega
            have hi0 : (0 : Int) ≤ (j : Int) := by omega
            go_still_tail 5, (by kernel_rfl)
            change wpList _ _ _ _ _ W7.drew
            go_wp2_with fail
            refine hsame.mono ?_
            rintro e w8 ⟨rfl, hb8⟩
            have HB8 : Hid (Below wo.heap.size wo w8) := HBD.out.trans (hb8.mono HBD.out.size)
            have d9 : decide ((LL : Int) < 1) = false := decide_eq_false (by omega)
            clear hsame hb8 x0 x1 x2 x3 c0 c1 c2 c3 hP
            go_wp2_with fail
            go_roundw
            case rel => exact ⟨j + 1, P + LL, by omega, by go_num, by go_num, hP1, HB8⟩
            case measure => simp [intOf]; omega
          · obtain rfl : j = K := by omega
            have hPB : P = BL := by rw [hP.out, HBL.out]
            subst hPB
            have hkj := HKk.out
            subst hkj
            have HEND := Lib.hid (hbw.out.trans (hbj.out.mono hbw.out.size))
            clear hP hbj
            go_wp2_with fail
            go_ret
            exact ⟨ret_bool (by simp), HEND.out⟩
end Go.Proofs.Ytldpflijgbcbhaa.row
