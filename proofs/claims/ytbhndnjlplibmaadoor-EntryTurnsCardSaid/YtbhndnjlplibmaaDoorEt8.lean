/- entry.Net. -/
import Derived.Test.YtbhndnjlplibmaaDoorEt7
import Derived.Test.YtbhndnjlplibmaaDoorEt9
namespace Go.Proofs.YtbhndnjlplibmaaDoor.lg
open Go.RowKit

theorem LinesAt.set {w : World} {ao : Option Addr} {t : List LineM} {b : Nat} (h : LinesAt w ao t) (hb : ∀ a, ao = some a → a.block ≠ b) (j : Nat) (u : Value) : LinesAt (w.setCell ⟨b, j, none⟩ u) ao t := by
  rcases h with h | ⟨b', off, e, hlt, hc⟩
  · exact Or.inl h
  · have hne : b' ≠ b := hb _ e
    have hk : (w.setCell ⟨b, j, none⟩ u).heap[b']? = w.heap[b']? := Below.heap_setCell _ _ _ _ hne
    refine Or.inr ⟨b', off, e, by simpa using hlt, fun i x hx => ?_⟩
    obtain ⟨h1, h2, h3⟩ := hc i x hx
    exact ⟨(World.cell?_of_block (w := w) (a := ⟨b', off + i * 3, none⟩) hk).trans h1, (World.cell?_of_block (w := w) (a := ⟨b', off + i * 3 + 1, none⟩) hk).trans h2, (World.cell?_of_block (w := w) (a := ⟨b', off + i * 3 + 2, none⟩) hk).trans h3⟩
def noneE : EntryM := ⟨⟨#[]⟩, 0, 0, []⟩
/-- an entry and an error -/
def EntPost (B : Nat) (w : World) (E : EntryM) (c : Int) (e : Ending) (w' : World) : Prop := Below B w w' ∧ ∃ ao cap, e = .returned (.tuple #[entryV E ao cap, errV c]) ∧ LinesAt w' ao E.lines
def NetPost (B : Nat) (w : World) (x : EntryM) (e : Ending) (w' : World) : Prop := ∃ E, EntPost B w E (fewC x.lines) e w' ∧ ((fewC x.lines ≠ 0 ∧ E = noneE) ∨ (fewC x.lines = 0 ∧ ∃ O : List LineM, O.map toB = (x.lines.map toB).foldl putB [] ∧ E = { x with lines := O.filter notZ }))
set_option maxRecDepth 100000 in
set_option maxHeartbeats 2000000 in
theorem net_any (lo : Option Addr) (lc : Nat) (x : EntryM) (w : World) (hl : LinesAt w lo x.lines) (hnil : lo = none → lc = 0) (hn : x.lines.length ≤ 9223372036854775807) :
    Calls Tryd.prog 42 #[.agg #[.string x.ref, .int .i64 x.ent, .int .i64 x.per, .slice lo x.lines.length lc]] w (NetPost w.heap.size w x) := by
  obtain ⟨B, hB⟩ : ∃ B, B = w.heap.size := ⟨_, rfl⟩
  rw [← hB]
  have HB := Lib.hid hB
  clear hB
  obtain ⟨l, hle⟩ : ∃ l, l = x.lines := ⟨_, rfl⟩
  have HLE := Lib.hid hle
  rw [← hle] at hl hn ⊢
  obtain ⟨be, hbe⟩ : ∃ be, be = w.heap.size := ⟨_, rfl⟩
  obtain ⟨br, hbr⟩ : ∃ br, br = w.heap.size + 1 := ⟨_, rfl⟩
  obtain ⟨W, hW⟩ : ∃ W, W = (w.alloc (.cells #[.string x.ref, .int .i64 x.ent, .int .i64 x.per, .slice lo l.length lc] 81)).alloc (.cells #[.string ⟨#[]⟩, .int .i64 0, .int .i64 0, .slice none 0 0] 81) := ⟨_, rfl⟩
  have hb0 : Below w.heap.size w W := by rw [hW]; exact ((Below.refl _ _).alloc (Nat.le_refl _) _).alloc (by simp) _
  have hbx : W.heap[be]? = some (.cells #[.string x.ref, .int .i64 x.ent, .int .i64 x.per, .slice lo l.length lc] 81 (0, 0)) := by rw [hW, hbe, Below.heap_alloc _ _ _ (by simp)]; exact heap_new_at rfl _
  have hby : W.heap[br]? = some (.cells #[.string ⟨#[]⟩, .int .i64 0, .int .i64 0, .slice none 0 0] 81 (0, 0)) := by rw [hW, hbr]; exact heap_new_at (by simp) _
  have hbl : be < W.heap.size := lt_of_heap hbx
  have hrl : br < W.heap.size := lt_of_heap hby
  have hne : be ≠ br := by omega
  have z3 : W.cell? ⟨be, 3, none⟩ = some (.slice lo l.length lc) := cell_of_heap hbx 3
  have hsm := small_any lo lc l W (hl.below hb0) hn
  have HW := Lib.hid hW
  have HBE := Lib.hid hbe
  have HBR := Lib.hid hbr
  have HB0 := Lib.hid hb0
  have HBX := Lib.hid hbx
  have HBY := Lib.hid hby
  have HL := Lib.hid (hl.below hb0)
  have HN := Lib.hid hnil
  have HZ0 := Lib.hid (@fewC_zero l)
  clear hW hbe hbr hb0 hl hle hbx hby hnil hn
  by_cases h0 : fewC l = 0
  · obtain ⟨hl20, ham⟩ := HZ0.out h0
    have HAM := Lib.hid ham
    have HC0 := Lib.hid h0
    rw [h0, errV_zero] at hsm
    clear h0 ham HZ0
    go_enter Tryd.func42, Tryd.ntmps42
    go_wp2_with fail
    rw [← HW.out, ← HBR.out, ← HBE.out]
    go_wp2_with fail
    refine hsm.mono ?_
    rintro e w1 ⟨rfl, hb1⟩
    have q3 : w1.cell? ⟨be, 3, none⟩ = some (.slice lo l.length lc) := (hb1.cell (p := ⟨be, 3, none⟩) hbl).trans z3
    have hcl := grouped_any lo lc l w1 (HL.out.below hb1) HN.out hl20 HAM.out
    have HB1 := Lib.hid hb1
    clear hsm hb1 z3
    go_wp2_with fail
    refine hcl.mono ?_
    rintro e w2 ⟨hb2, v, O, rfl, hown, hO⟩
    have HB2 : Hid (Below W.heap.size W w2) := HB1.out.trans (hb2.mono HB1.out.size)
    have hOl : O.length ≤ 1000 := by have := fold_lenL hO; omega
    have hcd := del_any w1.heap.size v O w2 hown hOl hb2.size
    have HO := Lib.hid hO
    have HSZ := Lib.hid HB1.out.size
    have HB1S : Hid (W.heap.size ≤ w1.heap.size) := HB1.out.size
    clear hcl hb2 hown q3 HB1 HL HN
    go_wp2_with fail
    refine hcd.mono ?_
    rintro e w3 ⟨hb3, ao, cap, rfl, hR, hblk⟩
    have HB3 : Hid (Below W.heap.size W w3) := HB2.out.trans (hb3.mono HSZ.out)
    have hbx3 := (HB3.out.block be hbl).trans HBX.out
    have hby3 := (HB3.out.block br hrl).trans HBY.out
    have y0 : w3.cell? ⟨be, 0, none⟩ = some (.string x.ref) := cell_of_heap hbx3 0
    have y1 : w3.cell? ⟨be, 1, none⟩ = some (.int .i64 x.ent) := cell_of_heap hbx3 1
    have y2 : w3.cell? ⟨be, 2, none⟩ = some (.int .i64 x.per) := cell_of_heap hbx3 2
    have y3 : w3.cell? ⟨be, 3, none⟩ = some (.slice lo l.length lc) := cell_of_heap hbx3 3
    have f3 : w3.frozen? ⟨be, 3, none⟩ = false := free_of_heap hbx3 3
    have r0 : w3.cell? ⟨br, 0, none⟩ = some (.string ⟨#[]⟩) := cell_of_heap hby3 0
    have r1 : w3.cell? ⟨br, 1, none⟩ = some (.int .i64 0) := cell_of_heap hby3 1
    have r2 : w3.cell? ⟨br, 2, none⟩ = some (.int .i64 0) := cell_of_heap hby3 2
    have r3 : w3.cell? ⟨br, 3, none⟩ = some (.slice none 0 0) := cell_of_heap hby3 3
    have g0 : w3.frozen? ⟨br, 0, none⟩ = false := free_of_heap hby3 0
    have g1 : w3.frozen? ⟨br, 1, none⟩ = false := free_of_heap hby3 1
    have g2 : w3.frozen? ⟨br, 2, none⟩ = false := free_of_heap hby3 2
    have g3 : w3.frozen? ⟨br, 3, none⟩ = false := free_of_heap hby3 3
    have HRL := Lib.hid hR
    clear hcd hb3 hR
    have HBLK : Hid (∀ a, ao = some a → a.block ≠ be ∧ a.block ≠ br) := fun a ha => by
      have h1 := hblk a ha
      have h2 : W.heap.size ≤ w1.heap.size := HB1S.out
      exact ⟨fun e => by omega, fun e => by omega⟩
    obtain ⟨rn, hrn⟩ : ∃ rn, rn = (O.filter notZ).length := ⟨_, rfl⟩
    have HRN := Lib.hid hrn
    rw [← hrn]
    obtain ⟨F, hF⟩ : ∃ F, F = (((((w3.setCell ⟨be, 3, none⟩ (.slice ao rn cap)).setCell ⟨br, 0, none⟩ (.string x.ref)).setCell ⟨br, 1, none⟩ (.int .i64 x.ent)).setCell ⟨br, 2, none⟩ (.int .i64 x.per)).setCell ⟨br, 3, none⟩ (.slice ao rn cap)) := ⟨_, rfl⟩
    have hbF : F.heap[br]? = some (.cells #[.string x.ref, .int .i64 x.ent, .int .i64 x.per, .slice ao rn cap] 81 (0, 0)) := by
      rw [hF]
      exact heap_setCell_same (heap_setCell_same (heap_setCell_same (heap_setCell_same ((Below.heap_setCell _ _ _ _ (Ne.symm hne)).trans hby3) _) _) _) _
    have q0 : F.cell? ⟨br, 0, none⟩ = some (.string x.ref) := cell_of_heap hbF 0
    have q1 : F.cell? ⟨br, 1, none⟩ = some (.int .i64 x.ent) := cell_of_heap hbF 1
    have q2 : F.cell? ⟨br, 2, none⟩ = some (.int .i64 x.per) := cell_of_heap hbF 2
    have q3' : F.cell? ⟨br, 3, none⟩ = some (.slice ao rn cap) := cell_of_heap hbF 3
    have HOUT : Hid (NetPost B w x (.returned (.tuple #[.agg #[.string x.ref, .int .i64 x.ent, .int .i64 x.per, .slice ao rn cap], .nilIface])) F) := by
      refine ⟨{ x with lines := O.filter notZ }, ⟨?_, ao, cap, by rw [← HLE.out, HC0.out, HRN.out]; rfl, ?_⟩, Or.inr ⟨by rw [← HLE.out]; exact HC0.out, O, by rw [← HLE.out]; exact HO.out, rfl⟩⟩
      · rw [hF]
        have hB1 : B ≤ be := by rw [HB.out, HBE.out]; exact Nat.le_refl _
        have hB2 : B ≤ br := by rw [HB.out, HBR.out]; exact Nat.le_succ _
        have hall : Below B w w3 := by rw [HB.out]; exact HB0.out.trans (HB3.out.mono HB0.out.size)
        exact ((((hall.setCell (p := ⟨be, 3, none⟩) hB1 _).setCell (p := ⟨br, 0, none⟩) hB2 _).setCell (p := ⟨br, 1, none⟩) hB2 _).setCell (p := ⟨br, 2, none⟩) hB2 _).setCell (p := ⟨br, 3, none⟩) hB2 _
      · rw [hF]
        have k1 := fun a ha => (HBLK.out a ha).1
        have k2 := fun a ha => (HBLK.out a ha).2
        exact ((((HRL.out.set k1 _ _).set k2 _ _).set k2 _ _).set k2 _ _).set k2 _ _
    have HF := Lib.hid hF
    clear hF hbF hby3 hbx3 hrn hblk
    go_wp2_with fail
    rw [← HF.out]
    exact bodyPost_ret (v := .tuple #[.agg #[.string x.ref, .int .i64 x.ent, .int .i64 x.per, .slice ao rn cap], .nilIface]) (by simp [results, Tryd.results42, go_sem, q0, q1, q2, q3']) rfl HOUT.out
  · rw [errV_some h0] at hsm
    have HC0 := Lib.hid h0
    clear h0 HZ0
    go_enter Tryd.func42, Tryd.ntmps42
    go_wp2_with fail
    rw [← HW.out, ← HBR.out, ← HBE.out]
    go_wp2_with fail
    refine hsm.mono ?_
    rintro e w3 ⟨rfl, hb3⟩
    have hby3 := (hb3.block br hrl).trans HBY.out
    have r0 : w3.cell? ⟨br, 0, none⟩ = some (.string ⟨#[]⟩) := cell_of_heap hby3 0
    have r1 : w3.cell? ⟨br, 1, none⟩ = some (.int .i64 0) := cell_of_heap hby3 1
    have r2 : w3.cell? ⟨br, 2, none⟩ = some (.int .i64 0) := cell_of_heap hby3 2
    have r3 : w3.cell? ⟨br, 3, none⟩ = some (.slice none 0 0) := cell_of_heap hby3 3
    have g0 : w3.frozen? ⟨br, 0, none⟩ = false := free_of_heap hby3 0
    have g1 : w3.frozen? ⟨br, 1, none⟩ = false := free_of_heap hby3 1
    have g2 : w3.frozen? ⟨br, 2, none⟩ = false := free_of_heap hby3 2
    have g3 : w3.frozen? ⟨br, 3, none⟩ = false := free_of_heap hby3 3
    obtain ⟨F, hF⟩ : ∃ F, F = ((((w3.setCell ⟨br, 0, none⟩ (.string ⟨#[]⟩)).setCell ⟨br, 1, none⟩ (.int .i64 0)).setCell ⟨br, 2, none⟩ (.int .i64 0)).setCell ⟨br, 3, none⟩ (.slice none 0 0)) := ⟨_, rfl⟩
    have hbF : F.heap[br]? = some (.cells #[.string ⟨#[]⟩, .int .i64 0, .int .i64 0, .slice none 0 0] 81 (0, 0)) := by
      rw [hF]
      exact heap_setCell_same (heap_setCell_same (heap_setCell_same (heap_setCell_same hby3 _) _) _) _
    have q0 : F.cell? ⟨br, 0, none⟩ = some (.string ⟨#[]⟩) := cell_of_heap hbF 0
    have q1 : F.cell? ⟨br, 1, none⟩ = some (.int .i64 0) := cell_of_heap hbF 1
    have q2 : F.cell? ⟨br, 2, none⟩ = some (.int .i64 0) := cell_of_heap hbF 2
    have q3' : F.cell? ⟨br, 3, none⟩ = some (.slice none 0 0) := cell_of_heap hbF 3
    have HOUT : Hid (NetPost B w x (.returned (.tuple #[.agg #[.string ⟨#[]⟩, .int .i64 0, .int .i64 0, .slice none 0 0], .iface 96 (.int .i64 (fewC l))])) F) := by
      refine ⟨noneE, ⟨?_, none, 0, by rw [← HLE.out, errV_some HC0.out]; rfl, Or.inl rfl⟩, Or.inl ⟨by rw [← HLE.out]; exact HC0.out, rfl⟩⟩
      rw [hF]
      have hB2 : B ≤ br := by rw [HB.out, HBR.out]; exact Nat.le_succ _
      have hall : Below B w w3 := by rw [HB.out]; exact HB0.out.trans (hb3.mono HB0.out.size)
      exact (((hall.setCell (p := ⟨br, 0, none⟩) hB2 _).setCell (p := ⟨br, 1, none⟩) hB2 _).setCell (p := ⟨br, 2, none⟩) hB2 _).setCell (p := ⟨br, 3, none⟩) hB2 _
    have HF := Lib.hid hF
    clear hsm hb3 hF hbF hby3
    go_wp2_with fail
    rw [← HF.out]
    exact bodyPost_ret (v := .tuple #[.agg #[.string ⟨#[]⟩, .int .i64 0, .int .i64 0, .slice none 0 0], .iface 96 (.int .i64 (fewC l))]) (by simp [results, Tryd.results42, go_sem, q0, q1, q2, q3']) rfl HOUT.out
end Go.Proofs.YtbhndnjlplibmaaDoor.lg
