/- entry.Sums: an entry's sums by currency. -/
import Derived.Test.YtbhndnjlplibmaaDoorEt5
namespace Go.Proofs.YtbhndnjlplibmaaDoor.lg
open Go.RowKit

theorem bare_take {l : List LineM} {k : Nat} {x : LineM} (h : l[k]? = some x) : ((l.take k).map bare ++ l.drop k).set k (bare x) = (l.take (k + 1)).map bare ++ l.drop (k + 1) := by
  obtain ⟨hk, rfl⟩ := List.getElem?_eq_some_iff.1 h
  rw [List.set_append_right _ _ (by simp; omega), show k - ((l.take k).map bare).length = 0 by simp; omega, List.drop_eq_getElem_cons hk, List.set_cons_zero, List.take_succ_eq_append_getElem hk, List.map_append, List.append_assoc]
  rfl
theorem bare_at {l : List LineM} {k : Nat} {x : LineM} (h : l[k]? = some x) : ((l.take k).map bare ++ l.drop k)[k]? = some x := by
  obtain ⟨hk, rfl⟩ := List.getElem?_eq_some_iff.1 h
  rw [List.getElem?_append_right (by simp; omega), show k - ((l.take k).map bare).length = 0 by simp; omega, List.drop_eq_getElem_cons hk]
  rfl
/-- entry.Sums's answer -/
def SumsPost (B : Nat) (w : World) (l : List LineM) (e : Ending) (w' : World) : Prop := Below B w w' ∧ ∃ v, ∃ O : List LineM, e = .returned (.tuple #[v, errV (fewC l)]) ∧ w'.ownsRow B 87 3 v O.length (O.flatMap encL) ∧ O.map toB = if fewC l = 0 then sumsB l else []
set_option maxRecDepth 100000 in
set_option maxHeartbeats 2000000 in
theorem sums_lines (lo : Option Addr) (lc : Nat) (x : EntryM) (w : World) (hl : LinesAt w lo x.lines) (hnil : lo = none → lc = 0) (hn : x.lines.length ≤ 9223372036854775807) :
    Calls Tryd.prog 38 #[.agg #[.string x.ref, .int .i64 x.ent, .int .i64 x.per, .slice lo x.lines.length lc]] w (SumsPost w.heap.size w x.lines) := by
  obtain ⟨l, hle⟩ : ∃ l, l = x.lines := ⟨_, rfl⟩
  rw [← hle] at hl hn ⊢
  obtain ⟨be, hbe⟩ : ∃ be, be = w.heap.size := ⟨_, rfl⟩
  obtain ⟨W, hW⟩ : ∃ W, W = w.alloc (.cells #[.string x.ref, .int .i64 x.ent, .int .i64 x.per, .slice lo l.length lc] 81) := ⟨_, rfl⟩
  have hb0 : Below w.heap.size w W := by rw [hW]; exact (Below.refl _ _).alloc (Nat.le_refl _) _
  have hbx : W.heap[be]? = some (.cells #[.string x.ref, .int .i64 x.ent, .int .i64 x.per, .slice lo l.length lc] 81 (0, 0)) := by rw [hW, hbe]; exact heap_new_at rfl _
  have hbl : be < W.heap.size := lt_of_heap hbx
  have z3 : W.cell? ⟨be, 3, none⟩ = some (.slice lo l.length lc) := cell_of_heap hbx 3
  have hsm := small_any lo lc l W (hl.below hb0) hn
  have HW := Lib.hid hW
  have HBE := Lib.hid hbe
  have HB0 := Lib.hid hb0
  have HL := Lib.hid (hl.below hb0)
  have HN := Lib.hid hnil
  have HZ0 := Lib.hid (@fewC_zero l)
  clear hW hbe hb0 hl hle hbx hnil hn
  by_cases h0 : fewC l = 0
  · obtain ⟨hl20, ham⟩ := HZ0.out h0
    have HAM := Lib.hid ham
    have HC0 := Lib.hid h0
    rw [h0, errV_zero] at hsm
    clear h0 ham HZ0
    go_enter Tryd.func38, Tryd.ntmps38
    go_wp2_with fail
    rw [← HW.out, ← HBE.out]
    go_wp2_with fail
    refine hsm.mono ?_
    rintro e w1 ⟨rfl, hb1⟩
    have q3 : w1.cell? ⟨be, 3, none⟩ = some (.slice lo l.length lc) := (hb1.cell (p := ⟨be, 3, none⟩) hbl).trans z3
    have hcl := clone_lines lo lc l w1 (HL.out.below hb1) HN.out (by omega)
    have HB1 := Lib.hid (HB0.out.trans (hb1.mono HB0.out.size))
    clear hsm hb1 z3 HB0
    go_wp2_with fail
    refine hcl.mono ?_
    rintro e w2 ⟨hb2, v, rfl, hown⟩
    obtain ⟨ao, cap, rfl⟩ := lines_row_of hown
    have HOWN := Lib.hid hown
    have HB2 := Lib.hid (HB1.out.trans (hb2.mono HB1.out.size))
    have HSZ := Lib.hid HB1.out.size
    clear hcl hb2 hown q3 HB1 HL HN
    go_wp2_with fail
    go_loopw [18] (fun i wr => ∃ k : Nat, k ≤ l.length ∧ i = .int .i64 (k : Int) ∧ Hid (wr.ownsRow w1.heap.size 87 3 (.slice ao l.length cap) l.length (((l.take k).map bare ++ l.drop k).flatMap encL)) ∧ Hid (Below w.heap.size w wr)) (fun i _ => l.length - (intOf i).toNat)
    case atStart => exact ⟨0, Nat.zero_le _, rfl, HOWN, HB2⟩
    case round =>
      clear HOWN HB2
      obtain ⟨k, hk, rfl, HI, HBW⟩ := hrel
      have hi0 : (0 : Int) ≤ (k : Int) := by omega
      by_cases hlt : k < l.length
      · obtain ⟨y, hy⟩ := getElem?_ex hlt
        have hi1 : (k : Int) < (l.length : Int) := by omega
        rcases HI.out.2 with ⟨_, h0⟩ | ⟨g, c, cur, e9, hg, _⟩
        · omega
        · simp only [Value.slice.injEq] at e9
          obtain ⟨rfl, _, rfl⟩ := e9
          have hlen : (((l.take k).map bare ++ l.drop k).flatMap encL).length = l.length * 3 := by rw [flatL_len]; simp; omega
          have hfa := flat3 _ k 0 y (bare_at hy) (by omega)
          rw [Nat.add_zero] at hfa
          have hcell : wr.cell? ⟨g, k * 3, none⟩ = some (.string y.acc) := by
            rw [HI.out.cellAt (k * 3) (by omega), hfa]; rfl
          have hfz : wr.frozen? ⟨g, k * 3, none⟩ = false := HI.out.frozenAt _
          have hst := HI.out.stored (k * 3) (.string ⟨#[]⟩)
          have hfs : (((l.take k).map bare ++ l.drop k).flatMap encL).set (k * 3 + 0) (.string ⟨#[]⟩) = (((l.take k).map bare ++ l.drop k).set k (bare y)).flatMap encL := flatL_set 0 bare (fun _ => .string ⟨#[]⟩) (by omega) (fun z => rfl) _ k y (bare_at hy)
          rw [Nat.add_zero] at hfs
          rw [hfs, bare_take hy] at hst
          have HREL := Lib.hid hst.1
          have HBN : Hid (Below w.heap.size w (wr.setCell ⟨g, k * 3, none⟩ (.string ⟨#[]⟩))) := HBW.out.setCell (p := ⟨g, k * 3, none⟩) (Nat.le_trans HSZ.out hg) _
          clear hlen hfa hst hfs HI
          go_wp2_with fail
          go_roundw
          case rel => exact ⟨k + 1, by omega, by go_num, HREL, HBN⟩
          case measure => simp [intOf]; omega
      · obtain rfl : k = l.length := by omega
        have hrow := HI.out
        rw [List.take_length, List.drop_of_length_le (Nat.le_refl _), List.append_nil] at hrow
        obtain ⟨ao', cap', h1, h2, h3, h4, h5⟩ := lines_of_row_cap hrow (by simp)
        rw [List.length_map] at h1
        simp only [Value.slice.injEq, true_and] at h1
        obtain ⟨rfl, rfl⟩ := h1
        have hcall := grouped_any ao cap (l.map bare) wr h2 h4 (by simpa using hl20) (fun z hz => by obtain ⟨y, hy, rfl⟩ := List.mem_map.1 hz; exact HAM.out y hy)
        rw [List.length_map] at hcall
        clear hrow h2 h3 h4 h5 HI
        go_wp2_with fail
        refine hcall.mono ?_
        rintro e w3 ⟨hb3, v, O, rfl, ho1, ho2⟩
        have HR : Hid (SumsPost w.heap.size w l (.returned (.tuple #[v, .nilIface])) w3) := ⟨HBW.out.trans (hb3.mono HBW.out.size), v, O, by rw [HC0.out]; rfl, row_base ho1 HBW.out.size, by rw [if_pos HC0.out]; exact ho2⟩
        clear hcall hb3 ho1 ho2
        go_wp2_with fail
        go_ret2
        exact HR.out
  · rw [errV_some h0] at hsm
    have HC0 := Lib.hid h0
    clear h0 HZ0
    go_enter Tryd.func38, Tryd.ntmps38
    go_wp2_with fail
    rw [← HW.out, ← HBE.out]
    go_wp2_with fail
    refine hsm.mono ?_
    rintro e w1 ⟨rfl, hb1⟩
    have HR : Hid (SumsPost w.heap.size w l (.returned (.tuple #[.slice none 0 0, .iface 96 (.int .i64 (fewC l))])) w1) := ⟨HB0.out.trans (hb1.mono HB0.out.size), _, [], by rw [errV_some HC0.out], World.ownsRow_nil _ _ _ _, by rw [if_neg HC0.out]; rfl⟩
    clear hsm hb1
    go_wp2_with fail
    go_ret2
    exact HR.out
end Go.Proofs.YtbhndnjlplibmaaDoor.lg
