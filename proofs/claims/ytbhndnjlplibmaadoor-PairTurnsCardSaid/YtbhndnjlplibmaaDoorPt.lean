/- PairTurns: a pair is a pair either way. -/
import Derived.Test.YtbhndnjlplibmaaDoorPl1
import Derived.Test.YtbhndnjlplibmaaDoorIntsSame
namespace Go.Proofs.YtbhndnjlplibmaaDoor.lg
open Go.RowKit

theorem infoPair : (Tryd.prog.info? 74).map (fun i => (i.zero, i.size, i.bytes)) = some (some (.agg #[.int .i64 0, .int .i64 0, .string ⟨#[]⟩, .string ⟨#[]⟩, .string ⟨#[]⟩]), 5, 64) := by kernel_rfl
def turnP (p : PairM) : PairM := ⟨p.b, p.a, p.other, p.one, p.diff⟩
def pairCells (p : PairM) : List Value := [.int .i64 p.a, .int .i64 p.b, .string p.one, .string p.other, .string p.diff]
def turnL (l : List PairM) : List PairM := l.map turnP
theorem turnL_len (l : List PairM) : (turnL l).length = l.length := by simp [turnL]
theorem turn_leftC (t : List BalM) (c : ByteArray) (l : List PairM) : leftC t c (turnL l) = leftC t c l := by unfold leftC; rw [turnL_len]
theorem turn_leftM (t : List BalM) (c : ByteArray) (l : List PairM) : leftM t c (turnL l) = leftM t c l := by
  unfold leftM turnL
  rw [List.map_map]
  refine List.map_congr_left fun p _ => ?_
  show getB t p.b p.other c + getB t p.a p.one c = _
  omega
theorem turn_leftX (t : List BalM) (c : ByteArray) (l : List PairM) : leftX t c (turnL l) = leftX t c l := by unfold leftX; rw [turn_leftC, turn_leftM]
theorem leftX_len (t : List BalM) (c : ByteArray) (l : List PairM) : (leftX t c l).length ≤ 20 := by
  unfold leftX
  split
  · rename_i h
    unfold leftC at h
    split at h
    · cases h
    · simp [leftM]; omega
  · simp
theorem turn_snoc (l : List PairM) {k : Nat} {p : PairM} (h : l[k]? = some p) : turnL (l.take (k + 1)) = turnL (l.take k) ++ [turnP p] := by
  obtain ⟨hk, rfl⟩ := List.getElem?_eq_some_iff.1 h
  unfold turnL
  rw [List.take_succ_eq_append_getElem hk, List.map_append]
  rfl
/-- a row of pairs -/
theorem pairs_of_row {w : World} {base : Nat} {e : TypeId} {v : Value} {l : List PairM} (h : w.ownsRow base e 5 v l.length (l.flatMap pairCells)) : ∃ ao cap, v = .slice ao l.length cap ∧ PairsAt w ao l := by
  obtain ⟨h1, h2⟩ := h
  rcases h2 with ⟨rfl, hn⟩ | ⟨g, cap, cur, rfl, hg, hh, hc, hm, hsz, htk⟩
  · exact ⟨none, 0, by rw [hn], Or.inl (List.length_eq_zero_iff.1 hn)⟩
  · refine ⟨some ⟨g, 0, none⟩, cap, rfl, Or.inr ⟨g, 0, rfl, lt_of_heap hh, fun i x hx => ?_⟩⟩
    have hi : i < l.length := (List.getElem?_eq_some_iff.1 hx).1
    have hcell : ∀ j, j < 5 → w.cell? ⟨g, 0 + i * 5 + j, none⟩ = (pairCells x)[j]? := fun j hj => by
      have h3 : (cur.toList.take (l.length * 5))[i * 5 + j]? = (l.flatMap pairCells)[i * 5 + j]? := by rw [htk]
      rw [List.getElem?_take, if_pos (by omega)] at h3
      have h4 : (l.flatMap pairCells)[i * 5 + j]? = (pairCells x)[j]? := flat_get l i j x hx hj
      rw [h4] at h3
      simp only [Array.getElem?_toList] at h3
      simp only [World.cell?, hh, Nat.zero_add]
      simpa using h3
    exact ⟨hcell 0 (by omega), hcell 1 (by omega), hcell 2 (by omega), hcell 3 (by omega), hcell 4 (by omega)⟩
where
  flat_get : ∀ (l : List PairM) (i j : Nat) (x : PairM), l[i]? = some x → j < 5 → (l.flatMap pairCells)[i * 5 + j]? = (pairCells x)[j]?
  | [], i, _, _, h, _ => by simp at h
  | y :: r, 0, j, x, h, hj => by
    simp only [List.getElem?_cons_zero, Option.some.injEq] at h
    subst h
    rw [List.flatMap_cons, List.getElem?_append_left (by simp [pairCells]; omega)]
    simp
  | y :: r, i + 1, j, x, h, hj => by
    rw [List.flatMap_cons, List.getElem?_append_right (by simp [pairCells]; omega)]
    have := flat_get r i j x (by simpa using h) hj
    rw [← this]
    congr 1
    simp [pairCells]
    omega

theorem cell_lt {w : World} {a : Addr} {v : Value} (h : w.cell? a = some v) : a.block < w.heap.size := by
  rcases Nat.lt_or_ge a.block w.heap.size with h1 | h1
  · exact h1
  · simp [World.cell?, Array.getElem?_eq_none h1] at h
theorem ints_keep {u u' : World} {xo : Option Addr} {xs : List Int} (h : IntsAt u xo xs) (hb : Below u.heap.size u u') : IntsAt u' xo xs := by
  rcases h with h | ⟨b, off, e, hc⟩
  · exact Or.inl h
  · exact Or.inr ⟨b, off, e, fun i hi => (hb.cell (p := ⟨b, off + i, none⟩) (cell_lt (hc i hi))).trans (hc i hi)⟩

def ptP : List PairM := [⟨1, 2, ⟨#[49, 48]⟩, ⟨#[50, 48]⟩, ⟨#[52, 48]⟩⟩]
def ptB : List BalM := [⟨1, ⟨#[49, 48]⟩, ⟨#[69, 85, 82]⟩, 8⟩]
theorem pt_fact : leftC ptB ⟨#[69, 85, 82]⟩ ptP = 0 ∧ leftX ptB ⟨#[69, 85, 82]⟩ ptP = [8] := by decide +kernel

set_option maxRecDepth 100000 in
set_option maxHeartbeats 8000000 in
theorem walk_pairs (lo : Option Addr) (lc : Nat) (l : List PairM) (ao : Option Addr) (cap : Nat) (t : List BalM) (cu : ByteArray) (w : World) (hl : PairsAt w lo l) (hh : BalsAt w ao t) (hm : t.length ≤ 9223372036854775807) (hml : l.length ≤ 2199023255488) :
    Calls Tryd.prog 11 #[.slice lo l.length lc, .slice ao t.length cap, .string cu] w fun e w' => e = .returned (.bool true) ∧ Below w.heap.size w w' := by
  obtain ⟨wa, hwa⟩ : ∃ wa, wa = (w.alloc (.cells #[.int .i64 1, .int .i64 2, .string ⟨#[49, 48]⟩, .string ⟨#[50, 48]⟩, .string ⟨#[52, 48]⟩] 74)).alloc (.cells #[.int .i64 1, .string ⟨#[49, 48]⟩, .string ⟨#[69, 85, 82]⟩, .int .i64 8] 77) := ⟨_, rfl⟩
  have hba : Below w.heap.size w wa := by rw [hwa]; exact ((Below.refl _ _).alloc (Nat.le_refl _) _).alloc (by simp) _
  have b1 : wa.heap[w.heap.size]? = some (.cells #[.int .i64 1, .int .i64 2, .string ⟨#[49, 48]⟩, .string ⟨#[50, 48]⟩, .string ⟨#[52, 48]⟩] 74 (0, 0)) := by
    rw [hwa, Below.heap_alloc _ _ _ (by simp)]; exact heap_new_at rfl _
  have b2 : wa.heap[w.heap.size + 1]? = some (.cells #[.int .i64 1, .string ⟨#[49, 48]⟩, .string ⟨#[69, 85, 82]⟩, .int .i64 8] 77 (0, 0)) := by
    rw [hwa]; exact heap_new_at (by simp) _
  have hp1 : PairsAt wa (some ⟨w.heap.size, 0, none⟩) ptP := Or.inr ⟨w.heap.size, 0, rfl, lt_of_heap b1, fun i x hx => by
    match i, hx with
    | 0, hx => simp only [ptP, List.getElem?_cons_zero, Option.some.injEq] at hx; subst hx; exact ⟨cell_of_heap b1 0, cell_of_heap b1 1, cell_of_heap b1 2, cell_of_heap b1 3, cell_of_heap b1 4⟩
    | n + 1, hx => simp [ptP] at hx⟩
  have hp2 : BalsAt wa (some ⟨w.heap.size + 1, 0, none⟩) ptB := Or.inr ⟨w.heap.size + 1, 0, rfl, lt_of_heap b2, fun i x hx => by
    match i, hx with
    | 0, hx => simp only [ptB, List.getElem?_cons_zero, Option.some.injEq] at hx; subst hx; exact ⟨cell_of_heap b2 0, cell_of_heap b2 1, cell_of_heap b2 2, cell_of_heap b2 3⟩
    | n + 1, hx => simp [ptB] at hx⟩
  have hc1 := left_any (some ⟨w.heap.size, 0, none⟩) 1 ptP (some ⟨w.heap.size + 1, 0, none⟩) 1 ptB ⟨#[69, 85, 82]⟩ wa hp1 hp2 (by decide) (by decide)
  rw [pt_fact.1, pt_fact.2] at hc1
  have HL := Lib.hid hl
  have HH := Lib.hid hh
  have HA := Lib.hid hba
  have HWA := Lib.hid hwa
  clear hl hh hba hwa b1 b2 hp1 hp2
  go_enter Tryd.func11, Tryd.ntmps11
  go_wp2_with fail
  rw [← HWA.out]
  refine hc1.mono ?_
  intro e w1 hp
  obtain ⟨hb1, fo, fc, rfl, hfi⟩ := hp
  obtain ⟨g, off, rfl, hfc⟩ := hfi.resolve_left (by simp)
  have c1 := hfc 0 (by decide)
  rw [errV_zero]
  have HB1 := Lib.hid (HA.out.trans (hb1.mono HA.out.size))
  have S0 : Hid (RowSt w [] 74 5 (.slice none 0 0) (turnL (l.take 0)).length ((turnL (l.take 0)).flatMap pairCells) w1) := RowSt.start ⟨HB1.out, fun p hp => by cases hp⟩
  have hl1 : [(8 : Int)].length = 1 := rfl
  have c1' : w1.cell? ⟨g, off + 0, none⟩ = some (.int .i64 8) := c1
  have c1'' : w1.cell? ⟨g, off, none⟩ = some (.int .i64 8) := c1
  clear hc1 hb1 hfi hfc HA c1
  go_wp2_with fail
  clear c1' c1''
  obtain ⟨i0, hi0, hz0, hz1, hz2⟩ := info_parts infoPair
  have HI0 := Lib.hid hi0
  have HZ0 := Lib.hid hz0
  have HZ1 := Lib.hid hz1
  have HZ2 := Lib.hid hz2
  clear hi0 hz0 hz1 hz2
  go_loopw [10, 11] (fun v i wr => ∃ k : Nat, k ≤ l.length ∧ i = .int .i64 (k : Int) ∧ Hid (RowSt w [] 74 5 v (turnL (l.take k)).length ((turnL (l.take k)).flatMap pairCells) wr)) (fun _ i _ => l.length - (intOf i).toNat)
  case atStart => exact ⟨0, Nat.zero_le _, rfl, S0⟩
  case round =>
    clear S0
    obtain ⟨k, hk, rfl, HS⟩ := hrel
    by_cases hlt : k < l.length
    · obtain ⟨p, hp⟩ := getElem?_ex hlt
      obtain ⟨b, off2, rfl, hb, hcc⟩ := HL.out.resolve_left (fun e => by rw [e] at hlt; simp at hlt)
      obtain ⟨y0, y1, y2, y3, y4⟩ := hcc k p hp
      have x0 := (HS.out.fr.old hb _).trans y0
      have x1 := (HS.out.fr.old hb _).trans y1
      have x2 := (HS.out.fr.old hb _).trans y2
      have x3 := (HS.out.fr.old hb _).trans y3
      have x4 := (HS.out.fr.old hb _).trans y4
      have HSN := Lib.hid (turn_snoc l hp)
      have hi1 : (k : Int) < (l.length : Int) := by omega
      have hi0' : (0 : Int) ≤ (k : Int) := by omega
      obtain ⟨uo, um, uc, rfl⟩ := ownsRow_form HS.out.row
      have hag : (Value.slice uo um uc).ownBlock ≠ some b := fun e => by have := (row_lt HS.out.row b e).1; omega
      have hln : (turnL (l.take k)).length = k := by rw [turnL_len, List.length_take]; omega
      have HLN := Lib.hid hln
      have hsz := HS.out.fr.below.size
      have hbr : b < wr.heap.size := by omega
      obtain ⟨pa, pb, p1, p2, p3⟩ := p
      dsimp only at x0 x1 x2 x3 x4
      clear hcc y0 y1 y2 y3 y4 hp hln
      go_wp2_with fail
      go_region_held3 (fun w' => w'.cell? ⟨b, off2 + k * 5, none⟩ = some (.int .i64 pa) ∧ w'.cell? ⟨b, off2 + k * 5 + 1, none⟩ = some (.int .i64 pb) ∧ w'.cell? ⟨b, off2 + k * 5 + 2, none⟩ = some (.string p1) ∧ w'.cell? ⟨b, off2 + k * 5 + 3, none⟩ = some (.string p2) ∧ w'.cell? ⟨b, off2 + k * 5 + 4, none⟩ = some (.string p3))
        (first
          | go_keep
          | (go_split_ands
             refine ⟨?_, ?_, ?_, ?_, ?_⟩ <;> (rw [hgrow.cell_far _ (by simp; omega) (Ne.symm hag)]; assumption)))
        ((refine step_append_lies _ (by rfl) _ _ _ (by rfl) w.heap.size 74 i0 _ 5 64 Tryd.underlying72 HI0.out HZ0.out HZ1.out HZ2.out rfl (by omega) (.slice uo um uc) (turnL (l.take k)).length ((turnL (l.take k)).flatMap pairCells) (by rfl) ((HS.out.row.alloc _).drew) ⟨wr.heap.size, 0, none⟩ 1 1 [.int .i64 pb, .int .i64 pa, .string p2, .string p1, .string p3] (by rfl) (by rfl) (World.news_of_block (cs := #[.int .i64 pb, .int .i64 pa, .string p2, .string p1, .string p3]) (t := 74) (fr := (0, 0)) (heap_alloc_new wr _)) (by simp [Value.oneCell']) (by omega) (by rw [HLN.out]; unfold maxLen; omega) (by rw [HLN.out]; omega) (by simp; omega) (wr.heap.size + 1) (by simp) ?_; intro gg gcap wn hown1 hgrow hat hltg))
      have hgr : (wr.alloc (.cells #[.int .i64 pb, .int .i64 pa, .string p2, .string p1, .string p3] 74)).grownBy wn (Value.slice uo um uc).ownBlock := ⟨hgrow.os, hgrow.tape, hgrow.output, hgrow.size, hgrow.block⟩
      have HS5 : Hid (RowSt w [] 74 5 (.slice (some ⟨gg, 0, none⟩) ((turnL (l.take k)).length + 1) gcap) (turnL (l.take (k + 1))).length ((turnL (l.take (k + 1))).flatMap pairCells) wn) :=
        HS.out.moved (ownsRow_cast hown1 (by rw [HSN.out]; simp) (by rw [HSN.out]; simp [pairCells, turnP])) (Moved.append hgr (hat.elim (fun h => Or.inl (by rw [h]; rfl)) (fun h => Or.inr (by rw [h]; rfl))))
      clear hown1 hgrow hat hltg hgr HS hsz x0 x1 x2 x3 x4 hag hbr
      go_wp2_with fail
      go_roundw
      case rel => exact ⟨k + 1, by omega, by go_num, HS5⟩
      case measure => simp [intOf]; omega
    · obtain rfl : k = l.length := by omega
      have hS2 := HS.out
      rw [List.take_of_length_le (Nat.le_refl _)] at hS2
      obtain ⟨to, tc, rfl, hti⟩ := pairs_of_row hS2.row
      have HBR := Lib.hid hS2.fr.below
      have HTI := Lib.hid hti
      have hc2 := left_any lo lc l ao cap t cu wr (HL.out.below HBR.out) (HH.out.below HBR.out) hm (by omega)
      rw [turnL_len]
      clear hS2 HS hti hlt
      go_wp2_with fail
      refine hc2.mono ?_
      intro e w3 hp
      obtain ⟨hb3, xo, xc, rfl, hxi⟩ := hp
      have HB3 := Lib.hid (HBR.out.trans (hb3.mono HBR.out.size))
      have hc3 := left_any to tc (turnL l) ao cap t cu w3 (HTI.out.below hb3) (HH.out.below HB3.out) hm (by rw [turnL_len]; omega)
      rw [turnL_len, turn_leftC, turn_leftX] at hc3
      have HXI := Lib.hid hxi
      clear hc2 hb3 hxi HBR HTI
      go_wp2_with fail
      refine hc3.mono ?_
      intro e w4 hp
      obtain ⟨hb4, yo, yc, rfl, hyi⟩ := hp
      have HB4 := Lib.hid (HB3.out.trans (hb4.mono HB3.out.size))
      have hxi4 := HXI.out
      have hc4 := mt.ints_same (leftX t cu l) w4 xo yo xc yc (ints_keep HXI.out hb4) hyi (by have := leftX_len t cu l; omega)
      clear hc3 hb4 hyi hxi4 HB3 HXI
      generalize leftX t cu l = X at *
      go_wp2_with fail
      refine hc4.mono ?_
      rintro e w5 ⟨rfl, n5, rfl⟩
      have HB5 := fun n => Lib.hid (show Below w.heap.size w ((w4.drewN n5).drewN n) from (HB4.out.trans (big.belowN _ _ _)).trans (big.belowN _ _ _))
      have HB6 := fun n => Lib.hid (show Below w.heap.size w (w4.drewN n) from HB4.out.trans (big.belowN _ _ _))
      clear hc4
      have hcase : errV (leftC t cu l) = .nilIface ∨ ∃ u v, errV (leftC t cu l) = .iface u v := by
        by_cases h : leftC t cu l = 0
        · exact Or.inl (by rw [h]; rfl)
        · exact Or.inr ⟨_, _, errV_some h⟩
      rcases hcase with he | ⟨u, v, he⟩
      all_goals
        rw [he]
        clear he
        go_wp2_with fail
        go_quiet (fail)
        go_wp2_with fail
        go_ret
        first | exact ⟨rfl, (HB6 _).out⟩ | exact ⟨rfl, (HB5 _).out⟩
end Go.Proofs.YtbhndnjlplibmaaDoor.lg
