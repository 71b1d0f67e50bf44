/- entry.Reverse. -/
import Derived.Test.YtbhndnjlplibmaaDoorEt8
import Derived.Test.YtbhndnjlplibmaaDoorIt2
import Derived.BigRegion
namespace Go.Proofs.YtbhndnjlplibmaaDoor.lg
open Go.RowKit

def negL (x : LineM) : LineM := { x with amt := -x.amt }
theorem neg_take {l : List LineM} {k : Nat} {x : LineM} (h : l[k]? = some x) : ((l.take k).map negL ++ l.drop k).set k (negL x) = (l.take (k + 1)).map negL ++ l.drop (k + 1) := by
  obtain ⟨hk, rfl⟩ := List.getElem?_eq_some_iff.1 h
  rw [List.set_append_right _ _ (by simp; omega), show k - ((l.take k).map negL).length = 0 by simp; omega, List.drop_eq_getElem_cons hk, List.set_cons_zero, List.take_succ_eq_append_getElem hk, List.map_append, List.append_assoc]
  rfl
theorem neg_at {l : List LineM} {k : Nat} {x : LineM} (h : l[k]? = some x) : ((l.take k).map negL ++ l.drop k)[k]? = some x := by
  obtain ⟨hk, rfl⟩ := List.getElem?_eq_some_iff.1 h
  rw [List.getElem?_append_right (by simp; omega), show k - ((l.take k).map negL).length = 0 by simp; omega, List.drop_eq_getElem_cons hk]
  rfl
def revC (x : EntryM) (ref : ByteArray) : Int := if refB ref = true then fewC x.lines else 2
def revE (x : EntryM) (ref : ByteArray) : EntryM := if revC x ref = 0 then { x with ref := ref, lines := x.lines.map negL } else noneE
set_option maxRecDepth 100000 in
set_option maxHeartbeats 2000000 in
theorem rev_any (lo : Option Addr) (lc : Nat) (x : EntryM) (ref : ByteArray) (w : World) (hl : LinesAt w lo x.lines) (hnil : lo = none → lc = 0) (hn : x.lines.length ≤ 9223372036854775807) :
    Calls Tryd.prog 40 #[.agg #[.string x.ref, .int .i64 x.ent, .int .i64 x.per, .slice lo x.lines.length lc], .string ref] w (EntPost w.heap.size w (revE x ref) (revC x ref)) := by
  obtain ⟨B, hB⟩ : ∃ B, B = w.heap.size := ⟨_, rfl⟩
  rw [← hB]
  obtain ⟨C, hC⟩ : ∃ C, C = revC x ref := ⟨_, rfl⟩
  obtain ⟨E, hE⟩ : ∃ E, E = revE x ref := ⟨_, rfl⟩
  rw [← hC, ← hE]
  obtain ⟨l, hle⟩ : ∃ l, l = x.lines := ⟨_, rfl⟩
  have HLE := Lib.hid hle
  rw [← hle] at hl hn ⊢
  obtain ⟨be, hbe⟩ : ∃ be, be = w.heap.size := ⟨_, rfl⟩
  obtain ⟨br, hbr⟩ : ∃ br, br = w.heap.size + 1 := ⟨_, rfl⟩
  obtain ⟨W, hW⟩ : ∃ W, W = (w.alloc (.cells #[.string x.ref, .int .i64 x.ent, .int .i64 x.per, .slice lo l.length lc] 81)).alloc (.cells #[.string ⟨#[]⟩, .int .i64 0, .int .i64 0, .slice none 0 0] 81) := ⟨_, rfl⟩
  have hb0 : Below w.heap.size w W := by rw [hW]; exact ((Below.refl _ _).alloc (Nat.le_refl _) _).alloc (by simp) _
  have hbx : W.heap[be]? = some (.cells #[.string x.ref, .int .i64 x.ent, .int .i64 x.per, .slice lo l.length lc] 81 (0, 0)) := by rw [hW, hbe, Below.heap_alloc _ _ _ (by simp)]; exact heap_new_at rfl _
  have hby : W.heap[br]? = some (.cells #[.string ⟨#[]⟩, .int .i64 0, .int .i64 0, .slice none 0 0] 81 (0, 0)) := by rw [hW, hbr]; exact heap_new_at (by simp) _
  have hbl : be < W.heap.size := lt_of_heap hbx
  have hrl : br < W.heap.size := lt_of_heap hby
  have hne : be ≠ br := by omega
  have hrf := mt.ref_any ref W
  have hsm := fun w2 (h : Below W.heap.size W w2) => small_any lo lc l w2 ((hl.below hb0).below h) hn
  have hBbe : B ≤ be := by omega
  have hBbr : B ≤ br := by omega
  have HSM := Lib.hid hsm
  have HW := Lib.hid hW
  have HBE := Lib.hid hbe
  have HBR := Lib.hid hbr
  have HB0 := Lib.hid hb0
  have HBX := Lib.hid hbx
  have HBY := Lib.hid hby
  have HLW := Lib.hid hl
  have HN := Lib.hid hnil
  have HZ0 := Lib.hid (@fewC_zero l)
  have HB := Lib.hid hB
  have HC : Hid (C = if refB ref = true then fewC l else 2) := by show _ = _; rw [hC, hle]; rfl
  have HE : Hid (E = if C = 0 then { x with ref := ref, lines := l.map negL } else noneE) := by show _ = _; rw [hE, hC, hle]; rfl
  -- the failing end
  have hfail : ∀ w3, Below W.heap.size W w3 → C ≠ 0 → w3.cell? ⟨br, 0, none⟩ = some (.string ⟨#[]⟩) ∧ w3.cell? ⟨br, 1, none⟩ = some (.int .i64 0) ∧ w3.cell? ⟨br, 2, none⟩ = some (.int .i64 0) ∧ w3.cell? ⟨br, 3, none⟩ = some (.slice none 0 0) ∧
      w3.frozen? ⟨br, 0, none⟩ = false ∧ w3.frozen? ⟨br, 1, none⟩ = false ∧ w3.frozen? ⟨br, 2, none⟩ = false ∧ w3.frozen? ⟨br, 3, none⟩ = false ∧
      ∃ F, F = ((((w3.setCell ⟨br, 0, none⟩ (.string ⟨#[]⟩)).setCell ⟨br, 1, none⟩ (.int .i64 0)).setCell ⟨br, 2, none⟩ (.int .i64 0)).setCell ⟨br, 3, none⟩ (.slice none 0 0)) ∧
        F.cell? ⟨br, 0, none⟩ = some (.string ⟨#[]⟩) ∧ F.cell? ⟨br, 1, none⟩ = some (.int .i64 0) ∧ F.cell? ⟨br, 2, none⟩ = some (.int .i64 0) ∧ F.cell? ⟨br, 3, none⟩ = some (.slice none 0 0) ∧
        EntPost B w E C (.returned (.tuple #[.agg #[.string ⟨#[]⟩, .int .i64 0, .int .i64 0, .slice none 0 0], .iface 96 (.int .i64 C)])) F := fun w3 hb3 hc => by
    have hby3 := (hb3.block br hrl).trans HBY.out
    have hbF : (((((w3.setCell ⟨br, 0, none⟩ (.string ⟨#[]⟩)).setCell ⟨br, 1, none⟩ (.int .i64 0)).setCell ⟨br, 2, none⟩ (.int .i64 0)).setCell ⟨br, 3, none⟩ (.slice none 0 0)).heap[br]?) = some (.cells #[.string ⟨#[]⟩, .int .i64 0, .int .i64 0, .slice none 0 0] 81 (0, 0)) :=
      heap_setCell_same (heap_setCell_same (heap_setCell_same (heap_setCell_same hby3 _) _) _) _
    refine ⟨cell_of_heap hby3 0, cell_of_heap hby3 1, cell_of_heap hby3 2, cell_of_heap hby3 3, free_of_heap hby3 0, free_of_heap hby3 1, free_of_heap hby3 2, free_of_heap hby3 3, _, rfl, cell_of_heap hbF 0, cell_of_heap hbF 1, cell_of_heap hbF 2, cell_of_heap hbF 3, ?_, none, 0, ?_, ?_⟩
    · have hB2 : B ≤ br := by rw [HB.out, HBR.out]; exact Nat.le_succ _
      have hall : Below B w w3 := by rw [HB.out]; exact HB0.out.trans (hb3.mono HB0.out.size)
      exact (((hall.setCell (p := ⟨br, 0, none⟩) hB2 _).setCell (p := ⟨br, 1, none⟩) hB2 _).setCell (p := ⟨br, 2, none⟩) hB2 _).setCell (p := ⟨br, 3, none⟩) hB2 _
    · rw [HE.out, if_neg hc, errV_some hc]; rfl
    · rw [HE.out, if_neg hc]; exact Or.inl rfl
  have HFAIL := Lib.hid hfail
  clear hW hbe hbr hb0 hl hle hbx hby hnil hn hsm hfail hB hC hE
  cases hrb : refB ref with
  | false =>
    rw [hrb] at hrf
    have hC2 : C = 2 := by have := HC.out; rw [hrb] at this; exact this
    subst hC2
    clear hrb
    go_enter Tryd.func40, Tryd.ntmps40
    go_wp2_with fail
    rw [← HW.out, ← HBR.out, ← HBE.out]
    go_wp2_with fail
    refine hrf.mono ?_
    rintro e w3 ⟨rfl, hb3⟩
    obtain ⟨r0, r1, r2, r3, g0, g1, g2, g3, F, hF, q0, q1, q2, q3, hout⟩ := HFAIL.out w3 hb3 (by omega)
    have HOUT := Lib.hid hout
    have HF := Lib.hid hF
    clear hrf hb3 hF hout
    go_wp2_with fail
    rw [← HF.out]
    exact bodyPost_ret (v := .tuple #[.agg #[.string ⟨#[]⟩, .int .i64 0, .int .i64 0, .slice none 0 0], .iface 96 (.int .i64 2)]) (by simp [results, Tryd.results40, go_sem, q0, q1, q2, q3]) rfl HOUT.out
  | true =>
    rw [hrb] at hrf
    have hCf : C = fewC l := by have := HC.out; rw [hrb] at this; exact this
    clear hrb
    by_cases h0 : fewC l = 0
    · obtain ⟨hl20, ham⟩ := HZ0.out h0
      have HAM := Lib.hid ham
      have hC0 : C = 0 := by rw [hCf]; exact h0
      have HE2 : Hid (E = { x with ref := ref, lines := l.map negL }) := by show _ = _; rw [HE.out, if_pos hC0]
      subst hC0
      have HCF : Hid (errV (fewC l) = .nilIface) := by show _ = _; rw [h0]; rfl
      clear h0 hCf ham HZ0 HE HC
      go_enter Tryd.func40, Tryd.ntmps40
      go_wp2_with fail
      rw [← HW.out, ← HBR.out, ← HBE.out]
      go_wp2_with fail
      refine hrf.mono ?_
      rintro e w2 ⟨rfl, hb2⟩
      have q3 : w2.cell? ⟨be, 3, none⟩ = some (.slice lo l.length lc) := cell_of_heap ((hb2.block be hbl).trans HBX.out) 3
      have hsm := HSM.out w2 hb2
      rw [HCF.out] at hsm
      have HB2 := Lib.hid hb2
      clear hrf hb2
      go_wp2_with fail
      refine hsm.mono ?_
      rintro e w3 ⟨rfl, hb3⟩
      have HB3 := Lib.hid (HB2.out.trans (hb3.mono HB2.out.size))
      have hbx3 := (HB3.out.block be hbl).trans HBX.out
      have q0 : w3.cell? ⟨be, 0, none⟩ = some (.string x.ref) := cell_of_heap hbx3 0
      have f0 : w3.frozen? ⟨be, 0, none⟩ = false := free_of_heap hbx3 0
      have q33 : w3.cell? ⟨be, 3, none⟩ = some (.slice lo l.length lc) := cell_of_heap hbx3 3
      obtain ⟨w4, hw4⟩ : ∃ w4, w4 = w3.setCell ⟨be, 0, none⟩ (.string ref) := ⟨_, rfl⟩
      have hb4 : w4.heap[be]? = some (.cells #[.string ref, .int .i64 x.ent, .int .i64 x.per, .slice lo l.length lc] 81 (0, 0)) := by rw [hw4]; exact heap_setCell_same hbx3 _
      have hr4 : w4.heap[br]? = some (.cells #[.string ⟨#[]⟩, .int .i64 0, .int .i64 0, .slice none 0 0] 81 (0, 0)) := by rw [hw4]; exact (Below.heap_setCell _ _ _ _ (Ne.symm hne)).trans ((HB3.out.block br hrl).trans HBY.out)
      have hB1 : B ≤ be := by rw [HB.out, HBE.out]; exact Nat.le_refl _
      have hbel4 : Below B w w4 := by rw [hw4]; exact (show Below B w w3 by rw [HB.out]; exact HB0.out.trans (HB3.out.mono HB0.out.size)).setCell (p := ⟨be, 0, none⟩) hB1 _
      have hHL4 : LinesAt w4 lo l := HLW.out.below (by rw [← HB.out]; exact hbel4)
      have hcl := clone_lines lo lc l w4 hHL4 HN.out (by omega)
      have HW4 := Lib.hid hw4
      have HB4 := Lib.hid hb4
      have HR4 := Lib.hid hr4
      have HBEL4 := Lib.hid hbel4
      have hbl4 : be < w4.heap.size := lt_of_heap hb4
      have hrl4 : br < w4.heap.size := lt_of_heap hr4
      clear hsm hb3 hbx3 hw4 hb4 hr4 hbel4 hHL4 HB3 HB2 HSM HFAIL q3
      go_wp2_with fail
      rw [← HW4.out]
      clear q0 f0 HW4 q33
      refine hcl.mono ?_
      rintro e w5 ⟨hb5, v, rfl, hown⟩
      obtain ⟨ao, cap, rfl⟩ := lines_row_of hown
      have hb5x := (hb5.block be hbl4).trans HB4.out
      have hr5x := (hb5.block br hrl4).trans HR4.out
      obtain ⟨w6, hw6⟩ : ∃ w6, w6 = w5.setCell ⟨be, 3, none⟩ (.slice ao l.length cap) := ⟨_, rfl⟩
      have hone : Only (fun k => k = be) w5 w6 := by rw [hw6]; exact (Only.refl (fun k => k = be) w5).setCell (p := ⟨be, 3, none⟩) rfl _
      have hown6 : w6.ownsRow w4.heap.size 87 3 (.slice ao l.length cap) l.length (l.flatMap encL) := row_keep hown (fun k hk => hone.block k (row_lt hown k hk).2 (fun e => by have := (row_lt hown k hk).1; omega))
      have hb6 : w6.heap[be]? = some (.cells #[.string ref, .int .i64 x.ent, .int .i64 x.per, .slice ao l.length cap] 81 (0, 0)) := by rw [hw6]; exact heap_setCell_same hb5x _
      have hr6 : w6.heap[br]? = some (.cells #[.string ⟨#[]⟩, .int .i64 0, .int .i64 0, .slice none 0 0] 81 (0, 0)) := by rw [hw6]; exact (Below.heap_setCell _ _ _ _ (Ne.symm hne)).trans hr5x
      have hBw4 : B ≤ w4.heap.size := by have := HBEL4.out.size; omega
      have hbel6 : Below B w w6 := HBEL4.out.trans (hone.below (by have := hb5.size; omega) (fun k hk => by omega) |> (hb5.mono hBw4).trans)
      have q5 : w5.cell? ⟨be, 3, none⟩ = some (.slice lo l.length lc) := cell_of_heap hb5x 3
      have f5 : w5.frozen? ⟨be, 3, none⟩ = false := free_of_heap hb5x 3
      have HW6 := Lib.hid hw6
      have HST : Hid (w6.ownsRow w4.heap.size 87 3 (.slice ao l.length cap) l.length (((l.take 0).map negL ++ l.drop 0).flatMap encL) ∧ w6.heap[be]? = some (.cells #[.string ref, .int .i64 x.ent, .int .i64 x.per, .slice ao l.length cap] 81 (0, 0)) ∧ w6.heap[br]? = some (.cells #[.string ⟨#[]⟩, .int .i64 0, .int .i64 0, .slice none 0 0] 81 (0, 0)) ∧ Below B w w6) := ⟨hown6, hb6, hr6, hbel6⟩
      clear hcl hb5 hown hb5x hr5x hw6 hone hown6 hb6 hr6 hbel6 HB4 HR4 HBEL4 HN HLW
      go_wp2_with fail
      rw [← HW6.out]
      have q3 : w6.cell? ⟨be, 3, none⟩ = some (.slice ao l.length cap) := cell_of_heap HST.out.2.1 3
      clear q5 f5 HW6
      go_wp2_with fail
      go_loopw [29] (fun i wr => ∃ k : Nat, k ≤ l.length ∧ i = .int .i64 (k : Int) ∧ Hid (wr.ownsRow w4.heap.size 87 3 (.slice ao l.length cap) l.length (((l.take k).map negL ++ l.drop k).flatMap encL) ∧ wr.heap[be]? = some (.cells #[.string ref, .int .i64 x.ent, .int .i64 x.per, .slice ao l.length cap] 81 (0, 0)) ∧ wr.heap[br]? = some (.cells #[.string ⟨#[]⟩, .int .i64 0, .int .i64 0, .slice none 0 0] 81 (0, 0)) ∧ Below B w wr)) (fun i _ => l.length - (intOf i).toNat)
      case atStart => exact ⟨0, Nat.zero_le _, rfl, HST⟩
      case round =>
        clear HST q3
        obtain ⟨k, hk, rfl, HI⟩ := hrel
        obtain ⟨hrow, hbe, hbr, hbel⟩ := HI.out
        have hi0 : (0 : Int) ≤ (k : Int) := by omega
        by_cases hlt : k < l.length
        · obtain ⟨y, hy⟩ := getElem?_ex hlt
          have hi1 : (k : Int) < (l.length : Int) := by omega
          obtain ⟨ha1, ha2⟩ := HAM.out y (List.mem_of_getElem? hy)
          rcases hrow.2 with ⟨_, h0⟩ | ⟨g, c, cur, e9, hg, _⟩
          · omega
          · simp only [Value.slice.injEq] at e9
            obtain ⟨rfl, _, rfl⟩ := e9
            have hlen : (((l.take k).map negL ++ l.drop k).flatMap encL).length = l.length * 3 := by rw [flatL_len]; simp; omega
            have hcell : wr.cell? ⟨g, k * 3 + 2, none⟩ = some (.int .i64 y.amt) := by
              rw [hrow.cellAt (k * 3 + 2) (by omega), flat3 _ k 2 y (neg_at hy) (by omega)]; rfl
            have hfz : wr.frozen? ⟨g, k * 3 + 2, none⟩ = false := hrow.frozenAt _
            have hst := (World.ownsRow.drew hrow).stored (k * 3 + 2) (.int .i64 (-y.amt))
            have hfs : (((l.take k).map negL ++ l.drop k).flatMap encL).set (k * 3 + 2) (.int .i64 (-y.amt)) = (((l.take k).map negL ++ l.drop k).set k (negL y)).flatMap encL := flatL_set 2 negL (fun z => .int .i64 (-z.amt)) (by omega) (fun z => rfl) _ k y (neg_at hy)
            rw [hfs, neg_take hy] at hst
            have hgbe : be ≠ g := by omega
            have hgbr : br ≠ g := by omega
            have HNEW : Hid ((wr.drew.setCell ⟨g, k * 3 + 2, none⟩ (.int .i64 (-y.amt))).ownsRow w4.heap.size 87 3 (.slice (some ⟨g, 0, none⟩) l.length cap) l.length (((l.take (k + 1)).map negL ++ l.drop (k + 1)).flatMap encL) ∧ (wr.drew.setCell ⟨g, k * 3 + 2, none⟩ (.int .i64 (-y.amt))).heap[be]? = some (.cells #[.string ref, .int .i64 x.ent, .int .i64 x.per, .slice (some ⟨g, 0, none⟩) l.length cap] 81 (0, 0)) ∧ (wr.drew.setCell ⟨g, k * 3 + 2, none⟩ (.int .i64 (-y.amt))).heap[br]? = some (.cells #[.string ⟨#[]⟩, .int .i64 0, .int .i64 0, .slice none 0 0] 81 (0, 0)) ∧ Below B w (wr.drew.setCell ⟨g, k * 3 + 2, none⟩ (.int .i64 (-y.amt)))) :=
              ⟨hst.1, (Below.heap_setCell _ _ _ _ hgbe).trans hbe, (Below.heap_setCell _ _ _ _ hgbr).trans hbr, hbel.drew.setCell (p := ⟨g, k * 3 + 2, none⟩) (show B ≤ g by omega) _⟩
            have c3 : wr.cell? ⟨be, 3, none⟩ = some (.slice (some ⟨g, 0, none⟩) l.length cap) := cell_of_heap hbe 3
            clear hrow hbe hbr hbel hlen hst hfs HI hy
            go_wp2_with fail
            go_big_region
            all_goals go_wp2_with fail
            all_goals go_roundw
            case rel => exact ⟨k + 1, by omega, by go_num, HNEW⟩
            case measure => simp [intOf]; omega
        · obtain rfl : k = l.length := by omega
          rw [List.take_length, List.drop_of_length_le (Nat.le_refl _), List.append_nil] at hrow
          obtain ⟨ao', cap', h1, h2, h3, h4, h5⟩ := lines_of_row_cap hrow (by simp)
          rw [List.length_map] at h1
          simp only [Value.slice.injEq, true_and] at h1
          obtain ⟨rfl, rfl⟩ := h1
          have y0 : wr.cell? ⟨be, 0, none⟩ = some (.string ref) := cell_of_heap hbe 0
          have y1 : wr.cell? ⟨be, 1, none⟩ = some (.int .i64 x.ent) := cell_of_heap hbe 1
          have y2 : wr.cell? ⟨be, 2, none⟩ = some (.int .i64 x.per) := cell_of_heap hbe 2
          have y3 : wr.cell? ⟨be, 3, none⟩ = some (.slice ao l.length cap) := cell_of_heap hbe 3
          have r0 : wr.cell? ⟨br, 0, none⟩ = some (.string ⟨#[]⟩) := cell_of_heap hbr 0
          have r1 : wr.cell? ⟨br, 1, none⟩ = some (.int .i64 0) := cell_of_heap hbr 1
          have r2 : wr.cell? ⟨br, 2, none⟩ = some (.int .i64 0) := cell_of_heap hbr 2
          have r3 : wr.cell? ⟨br, 3, none⟩ = some (.slice none 0 0) := cell_of_heap hbr 3
          have g0 : wr.frozen? ⟨br, 0, none⟩ = false := free_of_heap hbr 0
          have g1 : wr.frozen? ⟨br, 1, none⟩ = false := free_of_heap hbr 1
          have g2 : wr.frozen? ⟨br, 2, none⟩ = false := free_of_heap hbr 2
          have g3 : wr.frozen? ⟨br, 3, none⟩ = false := free_of_heap hbr 3
          obtain ⟨F, hF⟩ : ∃ F, F = ((((wr.setCell ⟨br, 0, none⟩ (.string ref)).setCell ⟨br, 1, none⟩ (.int .i64 x.ent)).setCell ⟨br, 2, none⟩ (.int .i64 x.per)).setCell ⟨br, 3, none⟩ (.slice ao l.length cap)) := ⟨_, rfl⟩
          have hbF : F.heap[br]? = some (.cells #[.string ref, .int .i64 x.ent, .int .i64 x.per, .slice ao l.length cap] 81 (0, 0)) := by
            rw [hF]
            exact heap_setCell_same (heap_setCell_same (heap_setCell_same (heap_setCell_same hbr _) _) _) _
          have q0 : F.cell? ⟨br, 0, none⟩ = some (.string ref) := cell_of_heap hbF 0
          have q1 : F.cell? ⟨br, 1, none⟩ = some (.int .i64 x.ent) := cell_of_heap hbF 1
          have q2 : F.cell? ⟨br, 2, none⟩ = some (.int .i64 x.per) := cell_of_heap hbF 2
          have q3 : F.cell? ⟨br, 3, none⟩ = some (.slice ao l.length cap) := cell_of_heap hbF 3
          have HOUT : Hid (EntPost B w E 0 (.returned (.tuple #[.agg #[.string ref, .int .i64 x.ent, .int .i64 x.per, .slice ao l.length cap], .nilIface])) F) := by
            refine ⟨?_, ao, cap, ?_, ?_⟩
            · rw [hF]
              have hB2 : B ≤ br := by omega
              exact (((hbel.setCell (p := ⟨br, 0, none⟩) hB2 _).setCell (p := ⟨br, 1, none⟩) hB2 _).setCell (p := ⟨br, 2, none⟩) hB2 _).setCell (p := ⟨br, 3, none⟩) hB2 _
            · rw [HE2.out]; unfold entryV; simp [errV_zero]
            · rw [HE2.out, hF]
              have k2 : ∀ a, ao = some a → a.block ≠ br := fun a ha => by have := h5 a.block (by rw [ha]; rfl); omega
              exact (((h2.set k2 _ _).set k2 _ _).set k2 _ _).set k2 _ _
          have HF := Lib.hid hF
          clear hF hbF hbe hbr hbel hrow h2 h3 h4 h5 HI
          go_wp2_with fail
          rw [← HF.out]
          exact bodyPost_ret (v := .tuple #[.agg #[.string ref, .int .i64 x.ent, .int .i64 x.per, .slice ao l.length cap], .nilIface]) (by simp [results, Tryd.results40, go_sem, q0, q1, q2, q3]) rfl HOUT.out
    · have hc : C ≠ 0 := by rw [hCf]; exact h0
      have HCF : Hid (errV (fewC l) = .iface 96 (.int .i64 C)) := by show _ = _; rw [← hCf]; exact errV_some hc
      have HCC := Lib.hid hc
      clear h0 hCf hc
      go_enter Tryd.func40, Tryd.ntmps40
      go_wp2_with fail
      rw [← HW.out, ← HBR.out, ← HBE.out]
      go_wp2_with fail
      refine hrf.mono ?_
      rintro e w2 ⟨rfl, hb2⟩
      have q3 : w2.cell? ⟨be, 3, none⟩ = some (.slice lo l.length lc) := cell_of_heap ((hb2.block be hbl).trans HBX.out) 3
      have hsm := HSM.out w2 hb2
      rw [HCF.out] at hsm
      have HB2 := Lib.hid hb2
      clear hrf hb2
      go_wp2_with fail
      refine hsm.mono ?_
      rintro e w3 ⟨rfl, hb3⟩
      obtain ⟨r0, r1, r2, r3, g0, g1, g2, g3, F, hF, q0', q1', q2', q3', hout⟩ := HFAIL.out w3 (HB2.out.trans (hb3.mono HB2.out.size)) HCC.out
      have HOUT := Lib.hid hout
      have HF := Lib.hid hF
      clear hsm hb3 hF hout q3
      go_wp2_with fail
      rw [← HF.out]
      exact bodyPost_ret (v := .tuple #[.agg #[.string ⟨#[]⟩, .int .i64 0, .int .i64 0, .slice none 0 0], .iface 96 (.int .i64 C)]) (by simp [results, Tryd.results40, go_sem, q0', q1', q2', q3']) rfl HOUT.out
end Go.Proofs.YtbhndnjlplibmaaDoor.lg
