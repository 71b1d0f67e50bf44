/- dayref3.Fifo where the items are right: what is set off, what is open. -/
import Derived.Test.YtbhndnjlplibmaaDoorIt6
import Derived.Test.YtbhndnjlplibmaaDoorMfL
import Derived.OneCell
namespace Go.Proofs.YtbhndnjlplibmaaDoor.mt
open Go.RowKit

/-- what dayref3.Fifo holds: three rows of its own -/
structure RSt (w : World) (L : List Int) (lv : Value) (S : List (Nat × Nat × Int)) (sv : Value) (O : List ItemM) (ov : Value) (wr : World) : Prop where
  bel : Below w.heap.size w wr
  left : wr.ownsRow w.heap.size 3 1 lv L.length (L.map (Value.int .i64))
  sets : wr.ownsRow w.heap.size 41 3 sv S.length (S.flatMap fifo.setCells)
  opn : wr.ownsRow w.heap.size 40 3 ov O.length (O.flatMap itemCells)
section
variable {w wr wr' w1 : World} {L L' : List Int} {S S' : List (Nat × Nat × Int)} {O O' : List ItemM} {lv sv ov v1 : Value} {new : List Value}
theorem RSt.start (w : World) : RSt w [] (.slice none 0 0) [] (.slice none 0 0) [] (.slice none 0 0) w := ⟨Below.refl _ _, World.ownsRow_nil _ _ _ _, World.ownsRow_nil _ _ _ _, World.ownsRow_nil _ _ _ _⟩
theorem RSt.later (h : RSt w L lv S sv O ov wr) (hb : Below wr.heap.size wr wr') : RSt w L lv S sv O ov wr' :=
  ⟨h.bel.trans (hb.mono h.bel.size), row_keep h.left (fun k hk => hb.block k (row_lt h.left k hk).2), row_keep h.sets (fun k hk => hb.block k (row_lt h.sets k hk).2), row_keep h.opn (fun k hk => hb.block k (row_lt h.opn k hk).2)⟩
theorem RSt.pushL (h : RSt w L lv S sv O ov wr) (hm : Moved wr w1 lv v1) (hown : w1.ownsRow w.heap.size 3 1 v1 (L.length + 1) (L.map (Value.int .i64) ++ new)) (hl : L'.length = L.length + 1) (hc : L'.map (Value.int .i64) = L.map (Value.int .i64) ++ new) : RSt w L' v1 S sv O ov w1 :=
  ⟨h.bel.trans (hm.only.below h.bel.size (fun k hk => (row_lt h.left k hk).1)), ownsRow_cast hown hl.symm hc.symm,
    row_keep h.sets (fun k hk => hm.only.block k (row_lt h.sets k hk).2 (rows_ne h.sets h.left (by decide) k hk)), row_keep h.opn (fun k hk => hm.only.block k (row_lt h.opn k hk).2 (rows_ne h.opn h.left (by decide) k hk))⟩
theorem RSt.pushS (h : RSt w L lv S sv O ov wr) (hm : Moved wr w1 sv v1) (hown : w1.ownsRow w.heap.size 41 3 v1 (S.length + 1) (S.flatMap fifo.setCells ++ new)) (hl : S'.length = S.length + 1) (hc : S'.flatMap fifo.setCells = S.flatMap fifo.setCells ++ new) : RSt w L lv S' v1 O ov w1 :=
  ⟨h.bel.trans (hm.only.below h.bel.size (fun k hk => (row_lt h.sets k hk).1)), row_keep h.left (fun k hk => hm.only.block k (row_lt h.left k hk).2 (rows_ne h.left h.sets (by decide) k hk)),
    ownsRow_cast hown hl.symm hc.symm, row_keep h.opn (fun k hk => hm.only.block k (row_lt h.opn k hk).2 (rows_ne h.opn h.sets (by decide) k hk))⟩
theorem RSt.pushO (h : RSt w L lv S sv O ov wr) (hm : Moved wr w1 ov v1) (hown : w1.ownsRow w.heap.size 40 3 v1 (O.length + 1) (O.flatMap itemCells ++ new)) (hl : O'.length = O.length + 1) (hc : O'.flatMap itemCells = O.flatMap itemCells ++ new) : RSt w L lv S sv O' v1 w1 :=
  ⟨h.bel.trans (hm.only.below h.bel.size (fun k hk => (row_lt h.opn k hk).1)), row_keep h.left (fun k hk => hm.only.block k (row_lt h.left k hk).2 (rows_ne h.left h.opn (by decide) k hk)),
    row_keep h.sets (fun k hk => hm.only.block k (row_lt h.sets k hk).2 (rows_ne h.sets h.opn (by decide) k hk)), ownsRow_cast hown hl.symm hc.symm⟩
theorem RSt.form (h : RSt w L lv S sv O ov wr) : ∃ ao cap, lv = .slice ao L.length cap ∧ (0 < L.length → ∃ g, ao = some ⟨g, 0, none⟩) := by
  rcases h.left.2 with ⟨hv, hn⟩ | ⟨g, cap, cur, hv, _⟩
  · exact ⟨none, 0, by rw [hv, hn], fun h0 => by omega⟩
  · exact ⟨_, cap, hv, fun _ => ⟨g, rfl⟩⟩
section
variable {g n cap : Nat} (h : RSt w L (.slice (some ⟨g, 0, none⟩) n cap) S sv O ov wr)
include h
theorem RSt.lt : w.heap.size ≤ g ∧ g < wr.heap.size := row_lt h.left g rfl
theorem RSt.at {i : Nat} (hi : i < L.length) : wr.cell? ⟨g, i, none⟩ = some (.int .i64 (L.getD i 0)) := by
  have hc := h.left.cells (g := g) rfl i (.int .i64 (L.getD i 0)) (by simp [hi])
  rw [addr_add, Nat.zero_add] at hc
  exact hc
theorem RSt.len : n = L.length := by
  rcases h.left.2 with ⟨hv, _⟩ | ⟨g1, c1, u1, hv, _⟩
  · cases hv
  · injection hv
theorem RSt.free (i : Nat) : wr.frozen? ⟨g, i, none⟩ = false := by
  have hn := h.len
  subst hn
  exact h.left.frozenAt i
theorem RSt.put (i : Nat) (x : Int) : RSt w (L.set i x) (.slice (some ⟨g, 0, none⟩) n cap) S sv O ov (wr.setCell ⟨g, i, none⟩ (.int .i64 x)) := by
  have hn := h.len
  subst hn
  obtain ⟨h1, h2⟩ := h.left.stored i (.int .i64 x)
  refine ⟨h.bel.trans (Below.setCell (Below.refl _ _) h.lt.1 _), ?_, ?_, ?_⟩
  · rw [List.length_set, List.map_set]; exact h1
  · exact ownsRow_setCell_other h.sets (fun e => rows_ne h.sets h.left (by decide) g e rfl) _
  · exact ownsRow_setCell_other h.opn (fun e => rows_ne h.opn h.left (by decide) g e rfl) _
end
end
def RFifoPost (w : World) (its : List ItemM) (e : Ending) (w' : World) : Prop :=
  Below w.heap.size w w' ∧ ∃ sv ov, e = .returned (.tuple #[sv, ov]) ∧ w'.ownsRow w.heap.size 41 3 sv (setsF its).length ((setsF its).flatMap fifo.setCells) ∧
    w'.ownsRow w.heap.size 40 3 ov (openF its).length ((openF its).flatMap itemCells)

set_option maxRecDepth 100000 in
set_option maxHeartbeats 8000000 in
theorem rfifo_any (ao : Option Addr) (cap : Nat) (its : List ItemM) (w : World) (hh : ItemsAt w.heap.size w ao its) (hcc : itemsF its = 0) :
    Calls Tryd.prog 24 #[.slice ao its.length cap] w (RFifoPost w its) := by
  have HH := Lib.hid hh
  clear hh
  obtain ⟨hN, hgood⟩ := itemsF_zero hcc
  have hbd : ∀ j, -1000000000000000 ≤ (amts its).getD j 0 ∧ (amts its).getD j 0 ≤ 1000000000000000 := fun j => by
    by_cases hj : j < its.length
    · have := (hgood j _ (getD_get hj)).2.2.2.1
      rw [amtB_iff, ← amts_at] at this
      exact this
    · rw [fifo.getD_ge (by rw [amts_len]; omega)]; omega
  have HBD := Lib.hid hbd
  have HT := Lib.hid (amts_len its)
  have HAM : Hid (∀ i x, its[i]? = some x → x.amt = (amts its).getD i 0) := fun i x hx => (amts_get its i x hx).symm
  clear hgood hbd hcc
  have S2 : Hid (RSt w (fifo.outer (amts its) 0).1 (.slice none 0 0) (fifo.outer (amts its) 0).2 (.slice none 0 0) [] (.slice none 0 0) w) := RSt.start w
  go_enter Tryd.func24, Tryd.ntmps24
  go_wp2_with fail
  go_loopw [4, 5, 6] (fun sv lv i wr => ∃ k : Nat, k ≤ its.length ∧ i = .int .i64 (k : Int) ∧ Hid (RSt w (fifo.outer (amts its) k).1 lv (fifo.outer (amts its) k).2 sv [] (.slice none 0 0) wr)) (fun _ _ i _ => its.length - (intOf i).toNat)
  case atStart => exact ⟨0, Nat.zero_le _, rfl, S2⟩
  case round =>
    clear S2
    obtain ⟨k, hk, rfl, hS⟩ := hrel
    by_cases hlt : k < its.length
    · obtain ⟨x, hx⟩ := getElem?_ex hlt
      obtain ⟨b, off, rfl, hb, hcc⟩ := HH.out.resolve_left (fun e => by rw [e] at hlt; simp at hlt)
      obtain ⟨_, _, c2'⟩ := hcc k x hx
      have c2 := (hS.out.bel.cell (p := ⟨b, off + k * 3 + 2, none⟩) hb).trans c2'
      have hxa := HAM.out k x hx
      rw [hxa] at c2
      have hkI : (k : Int) < (its.length : Int) := by omega
      have hk0 : (0 : Int) ≤ (k : Int) := by omega
      obtain ⟨lo, lc, hlv, hg⟩ := hS.out.form
      rw [fifo.outer_len] at hlv hg
      have HG := Lib.hid hg
      subst hlv
      have S3 : Hid (RSt w (fifo.iL (amts its) k 0) (.slice lo k lc) (fifo.inS (amts its) k 0) u4 [] (.slice none 0 0) wr) := by
        show RSt _ _ _ _ _ _ _ _
        rw [fifo.inS_zero]; exact hS.out
      have hn0 := fifo.inN_zero (amts its) k
      rw [← hn0] at c2
      clear hcc c2' hxa hx hg hS hn0
      go_wp2_with fail
      clear c2
      go_loopw [4, 7, 8] (fun sv n j wr2 => ∃ m : Nat, m ≤ k ∧ j = .int .i64 (m : Int) ∧ n = .int .i64 (fifo.inN (amts its) k m) ∧ Hid (RSt w (fifo.iL (amts its) k m) (.slice lo k lc) (fifo.inS (amts its) k m) sv [] (.slice none 0 0) wr2)) (fun _ _ j _ => k - (intOf j).toNat)
      case atStart => exact ⟨0, Nat.zero_le _, rfl, rfl, S3⟩
      case round =>
        clear S3
        obtain ⟨m, hmk, rfl, rfl, hS⟩ := hrel
        have hbnd := fifo.in_bound (amts its) HBD.out (i := k) (k := m) (by rw [HT.out]; exact hlt) hmk
        obtain ⟨⟨n1, n2⟩, a1, a2⟩ := hbnd
        by_cases hmlt : m < k
        · obtain ⟨g, rfl⟩ := HG.out (by omega)
          have g3 := hS.out.at (i := m) (by rw [fifo.iL_len]; exact hmlt)
          rw [fifo.iL_at] at g3
          have hmI : (m : Int) < (k : Int) := by omega
          have hm0 : (0 : Int) ≤ (m : Int) := by omega
          have HSK := Lib.hid (fifo.iL_skip (amts its) (i := k) (k := m))
          have HMV := Lib.hid (fifo.iL_move (amts its) (i := k) (k := m))
          have HSN := Lib.hid (fifo.inS_snoc (amts its) (N := its.length) (i := k) (k := m) hmlt)
          obtain ⟨n', hn'⟩ : ∃ n', n' = fifo.inN (amts its) k m := ⟨_, rfl⟩
          obtain ⟨a', ha'⟩ : ∃ a', a' = fifo.inA (amts its) k m := ⟨_, rfl⟩
          rw [← hn'] at n1 n2 HSK HMV HSN ⊢
          rw [← ha'] at a1 a2 g3 HSK HMV HSN
          clear hn' ha'
          by_cases hop : fifo.opp a' n' = true
          · obtain ⟨hm1, hm2⟩ := HMV.out hop
            have hsn := HSN.out hop
            have hk4 := fifo.opp_kinds hop
            have hcnt := fifo.inS_cnt (amts its) (i := k) (k := m) hmk (by omega)
            obtain ⟨uo, um, uc, rfl⟩ := ownsRow_form hS.out.sets
            obtain ⟨i0, hi0, hz0, hz1, hz2⟩ := info_parts infoI3
            have HI0 := Lib.hid hi0
            have HZ0 := Lib.hid hz0
            have HZ1 := Lib.hid hz1
            have HZ2 := Lib.hid hz2
            have hszw := hS.out.bel.size
            have HM1 := Lib.hid hm1
            have HM2 := Lib.hid hm2
            have HSN2 := Lib.hid hsn
            clear HSK HMV HSN hop hm1 hm2 hsn hi0 hz0 hz1 hz2
            rcases hk4 with ⟨s1, s2, s3, s4, s5, t1, t2, t3, p1, p2⟩ | ⟨s1, s2, s3, s4, s5, t1, t2, t3, p1, p2⟩ | ⟨s1, s2, s3, s4, s5, t1, t2, t3, p1, p2⟩ | ⟨s1, s2, s3, s4, s5, t1, t2, t3, p1, p2⟩
            · have HSN3 := HSN2
              rw [t1] at HSN3
              rw [t2] at HM1
              rw [t3] at HM2
              clear HSN2 t1 t2 t3
              go_wp2_with (at_builtin; go_must (refine wpList_append_own_at (o := ⟨some 69, _, _, _, _, _⟩) _ rfl (.tmp 63) (.tmp 68) 36 rfl w.heap.size 41 i0 (.agg #[.int .i64 0, .int .i64 0, .int .i64 0]) 3 24 Tryd.underlying36 HI0.out HZ0.out HZ1.out HZ2.out rfl (by decide) (.slice uo um uc) (fifo.inS (amts its) k m).length ((fifo.inS (amts its) k m).flatMap fifo.setCells) rfl (World.ownsRow.alloc hS.out.sets _) ⟨wr.heap.size, 0, none⟩ 1 1 [.int .i64 (m : Int), .int .i64 (k : Int), .int .i64 (-a')] rfl rfl (World.news_of_block (cs := #[.int .i64 (m : Int), .int .i64 (k : Int), .int .i64 (-a')]) (t := 41) (fr := (0, 0)) (by exact heap_new_at (by simp) _)) (by simp [Value.oneCell']) (by unfold maxLen; omega) (by omega) (by simp at hszw ⊢; omega) ?_); intro v1 w2 hown1 hgrow1 _ hblk1; have HS5 : Hid (RSt w (fifo.iL (amts its) k m) (.slice (some ⟨g, 0, none⟩) k lc) (fifo.inS (amts its) k (m + 1)) v1 [] (.slice none 0 0) w2) := RSt.pushS hS.out (Moved.append hgrow1 (by simpa using hblk1)) hown1 HSN3.out.2 HSN3.out.1; have z0 := HS5.out.at (i := m) (by rw [fifo.iL_len]; exact hmlt); have z1 := HS5.out.free m; clear hown1 hgrow1 hblk1 HSN3 hszw hS g3)
              have HS6 : Hid (∀ v : Int, v = 0 → RSt w (fifo.iL (amts its) k (m + 1)) (.slice (some ⟨g, 0, none⟩) k lc) (fifo.inS (amts its) k (m + 1)) v1 [] (.slice none 0 0) (w2.setCell ⟨g, m, none⟩ (.int .i64 v))) := fun v hv => by
                rw [HM1.out, ← hv]; exact HS5.out.put m v
              clear HS5 z0 z1
              go_roundw
              case rel => exact ⟨m + 1, by omega, by go_num, by rw [HM2.out]; try (congr 1; try omega), HS6.out _ (by omega)⟩
              case measure => simp [intOf]; omega
            · have HSN3 := HSN2
              rw [t1] at HSN3
              rw [t2] at HM1
              rw [t3] at HM2
              clear HSN2 t1 t2 t3
              go_wp2_with (at_builtin; go_must (refine wpList_append_own_at (o := ⟨some 69, _, _, _, _, _⟩) _ rfl (.tmp 63) (.tmp 68) 36 rfl w.heap.size 41 i0 (.agg #[.int .i64 0, .int .i64 0, .int .i64 0]) 3 24 Tryd.underlying36 HI0.out HZ0.out HZ1.out HZ2.out rfl (by decide) (.slice uo um uc) (fifo.inS (amts its) k m).length ((fifo.inS (amts its) k m).flatMap fifo.setCells) rfl (World.ownsRow.alloc hS.out.sets _) ⟨wr.heap.size, 0, none⟩ 1 1 [.int .i64 (m : Int), .int .i64 (k : Int), .int .i64 (n')] rfl rfl (World.news_of_block (cs := #[.int .i64 (m : Int), .int .i64 (k : Int), .int .i64 (n')]) (t := 41) (fr := (0, 0)) (by exact heap_new_at (by simp) _)) (by simp [Value.oneCell']) (by unfold maxLen; omega) (by omega) (by simp at hszw ⊢; omega) ?_); intro v1 w2 hown1 hgrow1 _ hblk1; have HS5 : Hid (RSt w (fifo.iL (amts its) k m) (.slice (some ⟨g, 0, none⟩) k lc) (fifo.inS (amts its) k (m + 1)) v1 [] (.slice none 0 0) w2) := RSt.pushS hS.out (Moved.append hgrow1 (by simpa using hblk1)) hown1 HSN3.out.2 HSN3.out.1; have z0 := HS5.out.at (i := m) (by rw [fifo.iL_len]; exact hmlt); have z1 := HS5.out.free m; clear hown1 hgrow1 hblk1 HSN3 hszw hS g3)
              have HS6 : Hid (∀ v : Int, v = a' + n' → RSt w (fifo.iL (amts its) k (m + 1)) (.slice (some ⟨g, 0, none⟩) k lc) (fifo.inS (amts its) k (m + 1)) v1 [] (.slice none 0 0) (w2.setCell ⟨g, m, none⟩ (.int .i64 v))) := fun v hv => by
                rw [HM1.out, ← hv]; exact HS5.out.put m v
              clear HS5 z0 z1
              go_roundw
              case rel => exact ⟨m + 1, by omega, by go_num, by rw [HM2.out]; try (congr 1; try omega), HS6.out _ (by omega)⟩
              case measure => simp [intOf]; omega
            · have HSN3 := HSN2
              rw [t1] at HSN3
              rw [t2] at HM1
              rw [t3] at HM2
              clear HSN2 t1 t2 t3
              go_wp2_with (at_builtin; go_must (refine wpList_append_own_at (o := ⟨some 69, _, _, _, _, _⟩) _ rfl (.tmp 63) (.tmp 68) 36 rfl w.heap.size 41 i0 (.agg #[.int .i64 0, .int .i64 0, .int .i64 0]) 3 24 Tryd.underlying36 HI0.out HZ0.out HZ1.out HZ2.out rfl (by decide) (.slice uo um uc) (fifo.inS (amts its) k m).length ((fifo.inS (amts its) k m).flatMap fifo.setCells) rfl (World.ownsRow.alloc hS.out.sets _) ⟨wr.heap.size, 0, none⟩ 1 1 [.int .i64 (m : Int), .int .i64 (k : Int), .int .i64 (a')] rfl rfl (World.news_of_block (cs := #[.int .i64 (m : Int), .int .i64 (k : Int), .int .i64 (a')]) (t := 41) (fr := (0, 0)) (by exact heap_new_at (by simp) _)) (by simp [Value.oneCell']) (by unfold maxLen; omega) (by omega) (by simp at hszw ⊢; omega) ?_); intro v1 w2 hown1 hgrow1 _ hblk1; have HS5 : Hid (RSt w (fifo.iL (amts its) k m) (.slice (some ⟨g, 0, none⟩) k lc) (fifo.inS (amts its) k (m + 1)) v1 [] (.slice none 0 0) w2) := RSt.pushS hS.out (Moved.append hgrow1 (by simpa using hblk1)) hown1 HSN3.out.2 HSN3.out.1; have z0 := HS5.out.at (i := m) (by rw [fifo.iL_len]; exact hmlt); have z1 := HS5.out.free m; clear hown1 hgrow1 hblk1 HSN3 hszw hS g3)
              have HS6 : Hid (∀ v : Int, v = 0 → RSt w (fifo.iL (amts its) k (m + 1)) (.slice (some ⟨g, 0, none⟩) k lc) (fifo.inS (amts its) k (m + 1)) v1 [] (.slice none 0 0) (w2.setCell ⟨g, m, none⟩ (.int .i64 v))) := fun v hv => by
                rw [HM1.out, ← hv]; exact HS5.out.put m v
              clear HS5 z0 z1
              go_roundw
              case rel => exact ⟨m + 1, by omega, by go_num, by rw [HM2.out]; try (congr 1; try omega), HS6.out _ (by omega)⟩
              case measure => simp [intOf]; omega
            · have HSN3 := HSN2
              rw [t1] at HSN3
              rw [t2] at HM1
              rw [t3] at HM2
              clear HSN2 t1 t2 t3
              go_wp2_with (at_builtin; go_must (refine wpList_append_own_at (o := ⟨some 69, _, _, _, _, _⟩) _ rfl (.tmp 63) (.tmp 68) 36 rfl w.heap.size 41 i0 (.agg #[.int .i64 0, .int .i64 0, .int .i64 0]) 3 24 Tryd.underlying36 HI0.out HZ0.out HZ1.out HZ2.out rfl (by decide) (.slice uo um uc) (fifo.inS (amts its) k m).length ((fifo.inS (amts its) k m).flatMap fifo.setCells) rfl (World.ownsRow.alloc hS.out.sets _) ⟨wr.heap.size, 0, none⟩ 1 1 [.int .i64 (m : Int), .int .i64 (k : Int), .int .i64 (-n')] rfl rfl (World.news_of_block (cs := #[.int .i64 (m : Int), .int .i64 (k : Int), .int .i64 (-n')]) (t := 41) (fr := (0, 0)) (by exact heap_new_at (by simp) _)) (by simp [Value.oneCell']) (by unfold maxLen; omega) (by omega) (by simp at hszw ⊢; omega) ?_); intro v1 w2 hown1 hgrow1 _ hblk1; have HS5 : Hid (RSt w (fifo.iL (amts its) k m) (.slice (some ⟨g, 0, none⟩) k lc) (fifo.inS (amts its) k (m + 1)) v1 [] (.slice none 0 0) w2) := RSt.pushS hS.out (Moved.append hgrow1 (by simpa using hblk1)) hown1 HSN3.out.2 HSN3.out.1; have z0 := HS5.out.at (i := m) (by rw [fifo.iL_len]; exact hmlt); have z1 := HS5.out.free m; clear hown1 hgrow1 hblk1 HSN3 hszw hS g3)
              have HS6 : Hid (∀ v : Int, v = a' + n' → RSt w (fifo.iL (amts its) k (m + 1)) (.slice (some ⟨g, 0, none⟩) k lc) (fifo.inS (amts its) k (m + 1)) v1 [] (.slice none 0 0) (w2.setCell ⟨g, m, none⟩ (.int .i64 v))) := fun v hv => by
                rw [HM1.out, ← hv]; exact HS5.out.put m v
              clear HS5 z0 z1
              go_roundw
              case rel => exact ⟨m + 1, by omega, by go_num, by rw [HM2.out]; try (congr 1; try omega), HS6.out _ (by omega)⟩
              case measure => simp [intOf]; omega
          · have hopf : fifo.opp a' n' = false := bool_not hop
            have hsk := HSK.out hopf
            have hss : (decide (0 < n') = true ∧ decide (a' < 0) = false ∧ decide (n' < 0) = false) ∨ (decide (0 < n') = false ∧ decide (n' < 0) = true ∧ decide (0 < a') = false) ∨ (decide (0 < n') = false ∧ decide (n' < 0) = false) := by
              rw [fifo.opp_not] at hopf
              simp only [decide_eq_true_eq, decide_eq_false_iff_not]
              omega
            have hD' : Hid (RSt w (fifo.iL (amts its) k (m + 1)) (.slice (some ⟨g, 0, none⟩) k lc) (fifo.inS (amts its) k (m + 1)) u4 [] (.slice none 0 0) wr) := by
              show RSt _ _ _ _ _ _ _ _
              rw [hsk.1, hsk.2.1]; exact hS.out
            have HN := Lib.hid hsk.2.2
            clear hsk HSK HMV HSN hS hop hopf
            rcases hss with ⟨s1, s2, s3⟩ | ⟨s1, s2, s3⟩ | ⟨s1, s2⟩
            all_goals
              go_wp2_with fail
              go_roundw
              case rel => exact ⟨m + 1, by omega, by go_num, by rw [HN.out], hD'⟩
              case measure => simp [intOf]; omega
        · obtain rfl : m = k := by omega
          have hdm : decide ((m : Int) < (m : Int)) = false := decide_eq_false (by omega)
          obtain ⟨i0, hi0, hz0, hz1, hz2⟩ := info_parts infoI
          have HI0 := Lib.hid hi0
          have HZ0 := Lib.hid hz0
          have HZ1 := Lib.hid hz1
          have HZ2 := Lib.hid hz2
          have hszw := hS.out.bel.size
          have HON := Lib.hid (fifo.outer_next (amts its) m)
          have hown0 := hS.out.left
          rw [fifo.iL_len] at hown0
          have HOWN := Lib.hid hown0
          have HIL := Lib.hid (fifo.iL_len (amts its) m m)
          clear hi0 hz0 hz1 hz2 a1 a2 hown0
          obtain ⟨nn, hnn⟩ : ∃ nn, nn = fifo.inN (amts its) m m := ⟨_, rfl⟩
          rw [← hnn] at HON n1 n2 ⊢
          clear hnn
          go_wp2_with (at_builtin; go_must (refine wpList_append_own_at (o := ⟨some 93, _, _, _, _, _⟩) _ rfl (.tmp 90) (.tmp 92) 28 rfl w.heap.size 3 i0 (.int .i64 0) 1 8 Tryd.underlying28 HI0.out HZ0.out HZ1.out HZ2.out rfl (by decide) (.slice lo m lc) m ((fifo.iL (amts its) m m).map (Value.int .i64)) rfl (World.ownsRow.alloc HOWN.out _) ⟨wr.heap.size, 0, none⟩ 1 1 [.int .i64 nn] rfl rfl (World.news_of_block (cs := #[.int .i64 nn]) (t := 3) (fr := (0, 0)) (by exact heap_new_at (by simp) _)) (by simp [Value.oneCell']) (by unfold maxLen; omega) (by omega) (by simp at hszw ⊢; omega) ?_); intro v1 w2 hown1 hgrow1 _ hblk1)
          have HS5 : Hid (RSt w (fifo.outer (amts its) (m + 1)).1 v1 (fifo.outer (amts its) (m + 1)).2 u4 [] (.slice none 0 0) w2) := by
            show RSt _ _ _ _ _ _ _ _
            rw [HON.out, ← fifo.inS_end]
            exact RSt.pushL hS.out (Moved.append hgrow1 (by simpa using hblk1)) (new := [.int .i64 nn]) (by rw [HIL.out]; exact hown1) (by simp) (by simp)
          clear hown1 hgrow1 hblk1 HON HOWN HIL hszw hS
          go_wp2_with fail
          go_roundw
          case rel => exact ⟨m + 1, by omega, by go_num, HS5⟩
          case measure => simp [intOf]; omega
    · obtain rfl : k = its.length := by omega
      have hOS : Hid (RSt w (leftF its) u5 (setsF its) u4 (openTo its (leftF its) 0) (.slice none 0 0) wr) := hS.out
      obtain ⟨lo, lc, hlv, hg⟩ := hOS.out.form
      rw [leftF_len] at hlv hg
      have HG := Lib.hid hg
      subst hlv
      have HLL := Lib.hid (leftF_len its)
      clear hS hlt hg HBD HT
      go_wp2_with fail
      go_loopw [12, 13] (fun ov i wr => ∃ k : Nat, k ≤ its.length ∧ i = .int .i64 (k : Int) ∧ Hid (RSt w (leftF its) (.slice lo its.length lc) (setsF its) u4 (openTo its (leftF its) k) ov wr)) (fun _ i _ => its.length - (intOf i).toNat)
      case atStart => exact ⟨0, Nat.zero_le _, rfl, hOS⟩
      case round =>
        clear hOS
        obtain ⟨k, hk, rfl, hS⟩ := hrel
        by_cases hlt : k < its.length
        · obtain ⟨x, hx⟩ := getElem?_ex hlt
          obtain ⟨b, off, rfl, hb, hcc⟩ := HH.out.resolve_left (fun e => by rw [e] at hlt; simp at hlt)
          obtain ⟨c0', c1', c2'⟩ := hcc k x hx
          have c0 := (hS.out.bel.cell (p := ⟨b, off + k * 3, none⟩) hb).trans c0'
          have c1 := (hS.out.bel.cell (p := ⟨b, off + k * 3 + 1, none⟩) hb).trans c1'
          have c2 := (hS.out.bel.cell (p := ⟨b, off + k * 3 + 2, none⟩) hb).trans c2'
          have hkI : (k : Int) < (its.length : Int) := by omega
          have hk0 : (0 : Int) ≤ (k : Int) := by omega
          obtain ⟨g, rfl⟩ := HG.out (by omega)
          have f2 := hS.out.at (i := k) (by rw [HLL.out]; exact hlt)
          have hbl3 : g < wr.heap.size := hS.out.lt.2
          have hbl2 : ¬ g = wr.heap.size := by omega
          have hgd : its.getD k default = x := by simp [hx]
          have hnx : Hid (openTo its (leftF its) (k + 1) = openTo its (leftF its) k ++ if (leftF its).getD k 0 = 0 then [] else [⟨x.ref, x.per, (leftF its).getD k 0⟩]) := by
            show _ = _
            rw [openTo, hgd]
          have S2 := hS.out.later (wr' := wr.alloc (.cells #[.string x.ref, .int .i64 x.per, .int .i64 ((leftF its).getD k 0)] 40)) ((Below.refl _ _).alloc (Nat.le_refl _) _)
          clear hcc c0' c1' c2' hx hgd
          obtain ⟨xr, xp, xa⟩ := x
          dsimp only at c0 c1 c2 hnx S2
          generalize (leftF its).getD k 0 = lk at *
          have hcnt := openTo_len its (leftF its) k
          by_cases hz : lk = 0
          · have q1 : (lk != 0) = false := by simp [hz]
            have S3 : Hid (RSt w (leftF its) (.slice (some ⟨g, 0, none⟩) its.length lc) (setsF its) u4 (openTo its (leftF its) (k + 1)) u12 wr) := by
              show RSt _ _ _ _ _ _ _ _
              rw [hnx.out, if_pos hz, List.append_nil]; exact hS.out
            clear S2 hS hnx hz
            go_wp2_with fail
            go_roundw
            case rel => exact ⟨k + 1, by omega, by go_num, S3⟩
            case measure => simp [intOf]; omega
          · have q1 : (lk != 0) = true := by simp [hz]
            have hnx2 : Hid (openTo its (leftF its) (k + 1) = openTo its (leftF its) k ++ [⟨xr, xp, lk⟩]) := by
              show _ = _
              rw [hnx.out, if_neg hz]
            obtain ⟨uo, um, uc, rfl⟩ := ownsRow_form S2.opn
            obtain ⟨i0, hi0, hz0, hz1, hz2⟩ := info_parts infoIt
            have HI0 := Lib.hid hi0
            have HZ0 := Lib.hid hz0
            have HZ1 := Lib.hid hz1
            have HZ2 := Lib.hid hz2
            have hszw := hS.out.bel.size
            have S3 := Lib.hid S2
            clear hi0 hz0 hz1 hz2 S2 hS hnx hz
            go_wp2_with (at_builtin; go_must (refine wpList_append_own_at (o := ⟨some 117, _, _, _, _, _⟩) _ rfl (.tmp 114) (.tmp 116) 35 rfl w.heap.size 40 i0 (.agg #[.string ⟨#[]⟩, .int .i64 0, .int .i64 0]) 3 32 Tryd.underlying35 HI0.out HZ0.out HZ1.out HZ2.out rfl (by decide) (.slice uo um uc) (openTo its (leftF its) k).length ((openTo its (leftF its) k).flatMap itemCells) rfl (World.ownsRow.alloc S3.out.opn _) ⟨wr.heap.size + 1, 0, none⟩ 1 1 [.string xr, .int .i64 xp, .int .i64 lk] rfl rfl (World.news_of_block (cs := #[.string xr, .int .i64 xp, .int .i64 lk]) (t := 40) (fr := (0, 0)) (by exact heap_new_at (by simp) _)) (by simp [Value.oneCell']) (by unfold maxLen; omega) (by omega) (by simp; omega) ?_); intro v1 w2 hown1 hgrow1 _ hblk1)
            have HS5 : Hid (RSt w (leftF its) (.slice (some ⟨g, 0, none⟩) its.length lc) (setsF its) u4 (openTo its (leftF its) (k + 1)) v1 w2) := RSt.pushO S3.out (Moved.append hgrow1 (by simpa using hblk1)) hown1 (by rw [hnx2.out]; simp) (by rw [hnx2.out]; simp [itemCells])
            clear hown1 hgrow1 hblk1 S3 hnx2 hszw
            go_wp2_with fail
            go_roundw
            case rel => exact ⟨k + 1, by omega, by go_num, HS5⟩
            case measure => simp [intOf]; omega
        · obtain rfl : k = its.length := by omega
          have HOUT : Hid (RFifoPost w its (.returned (.tuple #[u4, u12])) wr) := ⟨hS.out.bel, u4, u12, rfl, hS.out.sets, hS.out.opn⟩
          clear hS hlt
          go_wp2_with fail
          go_ret2
          exact HOUT.out
end Go.Proofs.YtbhndnjlplibmaaDoor.mt
