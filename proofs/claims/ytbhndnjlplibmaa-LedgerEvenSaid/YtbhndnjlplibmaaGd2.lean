/- dayref1.Grouped: lines put together, each into its place. -/
import Derived.Test.YtbhndnjlplibmaaGd1
import Derived.Deep.QuietTactic
import Derived.BigQuiet
import Derived.BigRegion
namespace Go.Proofs.Ytbhndnjlplibmaa.lg
open Go.RowKit

theorem nil_slot {w : World} {B : Nat} {e : TypeId} {v : Value} {O : List LineM} (h : w.ownsRow B e 3 v O.length (O.flatMap encL)) (ho : 0 < O.length) : ∃ g c, v = .slice (some ⟨g, 0, none⟩) O.length c ∧ O.length ≤ c ∧ B ≤ g ∧ LinesAt w (some ⟨g, 0, none⟩) O := by
  obtain ⟨ao, cap, h1, h2, h3, h4, h5⟩ := lines_of_row_cap h rfl
  rcases h.2 with ⟨rfl, hn⟩ | ⟨g, c, cur, rfl, hg, _⟩
  · omega
  · simp only [Value.slice.injEq] at h1
    obtain ⟨rfl, _, rfl⟩ := h1
    exact ⟨g, c, rfl, h3, hg, h2⟩
def GrdIs (B : Nat) (wr : World) (l : List LineM) (k : Nat) (v : Value) : Prop := ∃ O : List LineM, wr.ownsRow B 81 3 v O.length (O.flatMap encL) ∧ O.map toB = ((l.take k).map toB).foldl putB [] ∧ (O = [] → v = .slice none 0 0)
set_option maxRecDepth 100000 in
set_option maxHeartbeats 16000000 in
theorem grouped_ref (lo : Option Addr) (lc : Nat) (l : List LineM) (w : World) (hl : LinesAt w lo l) (hn : l.length ≤ 1000) :
    Calls Try.prog 66 #[.slice lo l.length lc] w (GrdPost w.heap.size w ((l.map toB).foldl putB [])) := by
  have HL := Lib.hid hl
  clear hl
  go_enter Try.func66, Try.ntmps66
  go_wp2_with fail
  go_loopw [3, 4] (fun v i wr => ∃ k : Nat, k ≤ l.length ∧ i = .int .i64 (k : Int) ∧ Hid (GrdIs w.heap.size wr l k v) ∧ Hid (Below w.heap.size w wr)) (fun _ i _ => l.length - (intOf i).toNat)
  case atStart => exact ⟨0, Nat.zero_le _, rfl, ⟨[], World.ownsRow_nil _ _ _ _, rfl, fun _ => rfl⟩, Below.refl _ _⟩
  case round =>
    obtain ⟨k, hk, rfl, HI, HBW⟩ := hrel
    have hi0 : (0 : Int) ≤ (k : Int) := by omega
    by_cases hlt : k < l.length
    · obtain ⟨x, hx⟩ := getElem?_ex hlt
      have hHL : LinesAt wr lo l := HL.out.below HBW.out
      obtain ⟨b9, off, rfl, hb9, hcc⟩ := hHL.resolve_left (fun e => by rw [e] at hlt; simp at hlt)
      obtain ⟨x0, x1, x2⟩ := hcc k x hx
      have hi1 : (k : Int) < (l.length : Int) := by omega
      have hd1 : decide ((k : Int) < (l.length : Int)) = true := decide_eq_true hi1
      have HSN := Lib.hid (fold_snoc hx)
      obtain ⟨B3, hB3⟩ : ∃ B3, B3 = wr.heap.size := ⟨_, rfl⟩
      obtain ⟨W, hW⟩ : ∃ W, W = wr.alloc (.cells #[.string x.acc, .string x.cur, .int .i64 x.amt] 81) := ⟨_, rfl⟩
      have hb0 : Below wr.heap.size wr W := by rw [hW]; exact (Below.refl _ _).alloc (Nat.le_refl _) _
      have HBX : Hid (W.heap[B3]? = some (.cells #[.string x.acc, .string x.cur, .int .i64 x.amt] 81 (0, 0))) := by show _ = _; rw [hW, hB3]; exact heap_new_at rfl _
      have HB0 : Hid (Below w.heap.size w W) := HBW.out.trans (hb0.mono HBW.out.size)
      obtain ⟨O, ho1, ho2, ho3⟩ := HI.out
      have hOl : O.length ≤ 1000 := Nat.le_trans (fold_lenL ho2) (by rw [List.length_take]; omega)
      have ho1W : W.ownsRow w.heap.size 81 3 u3 O.length (O.flatMap encL) := row_keep ho1 (fun j hj => hb0.block j (row_lt ho1 j hj).2)
      have HO2 := Lib.hid ho2
      have HW := Lib.hid hW
      have HB3 := Lib.hid hB3
      have HX := Lib.hid hx
      have hB3lt : B3 < W.heap.size := lt_of_heap HBX.out
      have HL0 := HL
      rcases Nat.eq_zero_or_pos O.length with h0 | h0
      · obtain rfl : O = [] := List.length_eq_zero_iff.1 h0
        obtain rfl := ho3 rfl
        clear ho1 ho1W ho2 ho3 hcc HI hx hW hB3 hb0 h0 hHL hb9
        go_wp2_with fail
        rw [← HW.out, ← HB3.out]
        refine wp_loop_rounds 2 ?_
        rw [rounds_succ]
        go_wp2_with fail
        go_quiet (fail)
        obtain ⟨w9, hw9⟩ : ∃ w9, w9 = W.drewN nq := ⟨_, rfl⟩
        rw [← hw9]
        have HB9 : Hid (Below w.heap.size w w9) := by show Below _ _ _; rw [hw9]; exact ⟨HB0.out.os, HB0.out.tape, HB0.out.output, HB0.out.size, HB0.out.block⟩
        have HX9 : Hid (w9.heap[B3]? = some (.cells #[.string x.acc, .string x.cur, .int .i64 x.amt] 81 (0, 0))) := by show _ = _; rw [hw9]; exact HBX.out
        clear hw9 nq
        go_wp2_with fail
        go_quiet (fail)
        obtain ⟨w10, hw10⟩ : ∃ w10, w10 = w9.drewN nq := ⟨_, rfl⟩
        rw [← hw10]
        have HB10 : Hid (Below w.heap.size w w10) := by show Below _ _ _; rw [hw10]; exact ⟨HB9.out.os, HB9.out.tape, HB9.out.output, HB9.out.size, HB9.out.block⟩
        have HX10 : Hid (w10.heap[B3]? = some (.cells #[.string x.acc, .string x.cur, .int .i64 x.amt] 81 (0, 0))) := by show _ = _; rw [hw10]; exact HX9.out
        clear hw10 nq HB9 HX9
        obtain ⟨v2, w12, v3, w13, v4, w14, hr2, hr3, hr4, hown, hb12, hb14⟩ := ins_runs (w := w10) (O := []) (x := x) (P := 0) (sc := 0) (sc2 := 0) (so := none) (so2 := none) (Or.inl rfl) (Or.inl rfl) (by simp) (Nat.le_refl _)
        have hx12 := (hb12.block B3 (lt_of_heap HX10.out)).trans HX10.out
        have s0 : w12.cell? ⟨B3, 0, none⟩ = some (.string x.acc) := cell_of_heap hx12 0
        have s1 : w12.cell? ⟨B3, 1, none⟩ = some (.string x.cur) := cell_of_heap hx12 1
        have s2 : w12.cell? ⟨B3, 2, none⟩ = some (.int .i64 x.amt) := cell_of_heap hx12 2
        have HREL : Hid (GrdIs w.heap.size w14 l (k + 1) v4) := ⟨[] ++ x :: [], row_base hown HB10.out.size, by rw [HSN.out, ← HO2.out]; rfl, fun e => by cases e⟩
        have HB14 : Hid (Below w.heap.size w w14) := HB10.out.trans (hb14.mono HB10.out.size)
        obtain ⟨V, hV⟩ : ∃ V, V = w12.alloc (.cells #[.string x.acc, .string x.cur, .int .i64 x.amt] 81) := ⟨_, rfl⟩
        rw [← hV] at hr3
        have HV := Lib.hid hV
        rw [show ([] : List LineM).length - 0 = 0 from rfl] at hr4
        clear hx12 hown hb12 hb14 HB10 HX10 hV HSN HO2 HB0 HBX
        go_wp2_with (first | (at_builtin; refine Lib.wpList_append_run _ rfl _ _ _ _ rfl _ _ rfl rfl _ _ hr2 ?_) | (at_builtin; rw [← HV.out]; refine Lib.wpList_append_run _ rfl (.tmp 95) (.tmp 97) _ _ rfl v2 (.slice (some ⟨w12.heap.size, 0, none⟩) 1 1) rfl rfl v3 w13 hr3 ?_) | (at_builtin; refine Lib.wpList_append_run _ rfl (.tmp 99) (.tmp 102) _ _ rfl v3 (.slice none 0 0) rfl rfl v4 w14 hr4 ?_))
        go_roundw
        case rel => exact ⟨k + 1, by omega, by go_num, HREL, HB14⟩
        case measure => simp [intOf]; omega
      · obtain ⟨g, c, rfl, hOc, hgB, hOat⟩ := nil_slot ho1W h0
        have HOAT := Lib.hid hOat
        have HOWN := Lib.hid ho1W
        obtain ⟨P, hP⟩ : ∃ P, posB (toB x) (O.map toB) = P := ⟨_, rfl⟩
        have HP := Lib.hid hP
        have z0 : W.cell? ⟨B3, 0, none⟩ = some (.string x.acc) := cell_of_heap HBX.out 0
        have z1 : W.cell? ⟨B3, 1, none⟩ = some (.string x.cur) := cell_of_heap HBX.out 1
        have z2 : W.cell? ⟨B3, 2, none⟩ = some (.int .i64 x.amt) := cell_of_heap HBX.out 2
        have hgW : g < W.heap.size := (row_lt ho1W g rfl).2
        obtain ⟨g', off', e8, hg8, hcc8⟩ := hOat.resolve_left (fun e => by rw [e] at h0; simp at h0)
        simp only [Option.some.injEq, Addr.mk.injEq, and_true] at e8
        obtain ⟨rfl, rfl⟩ := e8
        have HCC8 := Lib.hid hcc8
        clear ho1 ho1W ho2 ho3 hcc HI hW hB3 hb0 hHL hb9 hP hOat hcc8 hg8 hx
        go_wp2_with fail
        rw [← HW.out, ← HB3.out]
        clear x0 x1 x2 HW HB3
        obtain ⟨wo, hwo⟩ : ∃ wo : World, wo = wr := ⟨_, rfl⟩
        subst hwo
        go_loopw [6] (fun i wr2 => ∃ j : Nat, j ≤ O.length ∧ i = .int .i64 (j : Int) ∧ Hid (j + posB (toB x) ((O.map toB).drop j) = P) ∧ Hid (Below W.heap.size W wr2)) (fun i _ => O.length - (intOf i).toNat)
        case atStart => exact ⟨0, Nat.zero_le _, rfl, by show _ = _; rw [List.drop_zero, Nat.zero_add]; exact HP.out, Below.refl _ _⟩
        case round =>
          obtain ⟨j, hj, rfl, HJ, HBI⟩ := hrel
          have hj0 : (0 : Int) ≤ (j : Int) := by omega
          have p0 : wr.cell? ⟨B3, 0, none⟩ = some (.string x.acc) := (HBI.out.cell (p := ⟨B3, 0, none⟩) hB3lt).trans z0
          have p1 : wr.cell? ⟨B3, 1, none⟩ = some (.string x.cur) := (HBI.out.cell (p := ⟨B3, 1, none⟩) hB3lt).trans z1
          by_cases hjl : j < O.length
          · obtain ⟨y, hy⟩ := getElem?_ex hjl
            have hj1 : (j : Int) < (O.length : Int) := by omega
            have hjd : decide ((j : Int) < (O.length : Int)) = true := decide_eq_true hj1
            have HY := Lib.hid hy
            have y0 : wr.cell? ⟨g, j * 3, none⟩ = some (.string y.acc) := (HBI.out.cell (p := ⟨g, j * 3, none⟩) hgW).trans (by have := (HCC8.out j y hy).1; rwa [Nat.zero_add] at this)
            have y1 : wr.cell? ⟨g, j * 3 + 1, none⟩ = some (.string y.cur) := (HBI.out.cell (p := ⟨g, j * 3 + 1, none⟩) hgW).trans (by have := (HCC8.out j y hy).2.1; rwa [Nat.zero_add] at this)
            have hpd := posL_drop (x := x) hy
            rw [HJ.out] at hpd
            have HPD := Lib.hid hpd
            have HAH := Lib.hid (ahL_bools y x)
            have HBK := Lib.hid (@ahL_back y x)
            obtain ⟨s1, hs1⟩ : ∃ s, lessS y.acc x.acc = s := ⟨_, rfl⟩
            obtain ⟨s2, hs2⟩ : ∃ s, sameS y.acc x.acc = s := ⟨_, rfl⟩
            obtain ⟨s3, hs3⟩ : ∃ s, lessS y.cur x.cur = s := ⟨_, rfl⟩
            obtain ⟨s4, hs4⟩ : ∃ s, sameS y.cur x.cur = s := ⟨_, rfl⟩
            rw [hs1, hs2, hs3] at HAH
            rw [hs2, hs4] at HBK
            have t1 : Op.bytesLess y.acc.toList x.acc.toList = s1 := hs1
            have t2 : (y.acc.toList == x.acc.toList) = s2 := hs2
            have t3 : Op.bytesLess y.cur.toList x.cur.toList = s3 := hs3
            have t4 : (y.cur.toList == x.cur.toList) = s4 := hs4
            clear hy hpd HJ hs1 hs2 hs3 hs4
            by_cases hgo : (s1 || (s2 && s3)) = true
            · have HK2 : Hid ((j + 1) + posB (toB x) ((O.map toB).drop (j + 1)) = P) := by have := HPD.out; rw [HAH.out, if_pos hgo] at this; exact this.symm
              clear HPD HAH HBK t4
              have hcase : (s1 = true) ∨ (s1 = false ∧ s2 = true ∧ s3 = true) := by revert hgo; cases s1 <;> cases s2 <;> cases s3 <;> simp
              clear hgo
              rcases hcase with rfl | ⟨rfl, rfl, rfl⟩
              all_goals
                go_wp2_with fail
                go_quiet (fail)
                have HBJ : Hid (Below W.heap.size W (wr.drewN nq)) := ⟨HBI.out.os, HBI.out.tape, HBI.out.output, HBI.out.size, HBI.out.block⟩
                go_wp2_with fail
                go_roundw
                case rel => exact ⟨j + 1, by omega, by go_num, HK2, HBJ⟩
                case measure => simp [intOf]; omega
            · have hgo' : (s1 || (s2 && s3)) = false := by simpa using hgo
              have HPJ : Hid (P = j) := by have := HPD.out; rw [HAH.out, if_neg hgo] at this; exact this
              have HBACK : Hid (ahB (toB x) (toB y) = !(s2 && s4)) := HBK.out (by rw [HAH.out, hgo'])
              clear HPD HAH HBK hgo
              have hcase : (s1 = false ∧ s2 = false) ∨ (s1 = false ∧ s2 = true ∧ s3 = false) := by revert hgo'; cases s1 <;> cases s2 <;> cases s3 <;> simp
              clear hgo'
              by_cases hadd : s2 = true ∧ s4 = true
              · obtain ⟨rfl, rfl⟩ := hadd
                obtain ⟨rfl, rfl⟩ : s1 = false ∧ s3 = false := by rcases hcase with ⟨h1, h2⟩ | ⟨h1, _, h3⟩ <;> simp_all
                clear hcase
                have HPUT : Hid ((O.set j (addL y x)).map toB = putB (O.map toB) (toB x)) := putL_add (by rw [HP.out, HPJ.out]) HY.out (by rw [HBACK.out]; rfl)
                go_wp2_with fail
                go_quiet (fail)
                obtain ⟨w9, hw9⟩ : ∃ w9, w9 = wr.drewN nq := ⟨_, rfl⟩
                rw [← hw9]
                have HB9 : Hid (Below W.heap.size W w9) := by show Below _ _ _; rw [hw9]; exact ⟨HBI.out.os, HBI.out.tape, HBI.out.output, HBI.out.size, HBI.out.block⟩
                clear hw9 nq
                have q0 : w9.cell? ⟨B3, 0, none⟩ = some (.string x.acc) := (HB9.out.cell (p := ⟨B3, 0, none⟩) hB3lt).trans z0
                have q1 : w9.cell? ⟨B3, 1, none⟩ = some (.string x.cur) := (HB9.out.cell (p := ⟨B3, 1, none⟩) hB3lt).trans z1
                have q2 : w9.cell? ⟨B3, 2, none⟩ = some (.int .i64 x.amt) := (HB9.out.cell (p := ⟨B3, 2, none⟩) hB3lt).trans z2
                have r0 : w9.cell? ⟨g, j * 3, none⟩ = some (.string y.acc) := (HB9.out.cell (p := ⟨g, j * 3, none⟩) hgW).trans (by have := (HCC8.out j y HY.out).1; rwa [Nat.zero_add] at this)
                have r1 : w9.cell? ⟨g, j * 3 + 1, none⟩ = some (.string y.cur) := (HB9.out.cell (p := ⟨g, j * 3 + 1, none⟩) hgW).trans (by have := (HCC8.out j y HY.out).2.1; rwa [Nat.zero_add] at this)
                have r2 : w9.cell? ⟨g, j * 3 + 2, none⟩ = some (.int .i64 y.amt) := (HB9.out.cell (p := ⟨g, j * 3 + 2, none⟩) hgW).trans (by have := (HCC8.out j y HY.out).2.2; rwa [Nat.zero_add] at this)
                clear p0 p1 y0 y1
                go_wp2_with fail
                go_quiet (fail)
                obtain ⟨w10, hw10⟩ : ∃ w10, w10 = w9.drewN nq := ⟨_, rfl⟩
                rw [← hw10]
                have HB10 : Hid (Below W.heap.size W w10) := by show Below _ _ _; rw [hw10]; exact ⟨HB9.out.os, HB9.out.tape, HB9.out.output, HB9.out.size, HB9.out.block⟩
                have hr0 : w10.cell? ⟨g, j * 3 + 2, none⟩ = some (.int .i64 y.amt) := by rw [hw10]; exact r2
                have hx2 : w10.cell? ⟨B3, 2, none⟩ = some (.int .i64 x.amt) := by rw [hw10]; exact q2
                clear hw10 nq HB9 q0 q1 q2 r0 r1 r2 z0 z1 z2
                have hrow := row_keep HOWN.out (fun k hk => HB10.out.block k (row_lt HOWN.out k hk).2)
                have hfz : w10.frozen? ⟨g, j * 3 + 2, none⟩ = false := hrow.frozenAt _
                have hst := (World.ownsRow.drew hrow).stored (j * 3 + 2) (.int .i64 (wrap64 (y.amt + x.amt)))
                have hfs : (O.flatMap encL).set (j * 3 + 2) (.int .i64 (wrap64 (y.amt + x.amt))) = (O.set j (addL y x)).flatMap encL := flatL_set 2 (fun z => addL z x) (fun z => .int .i64 (wrap64 (z.amt + x.amt))) (by omega) (fun z => rfl) O j y HY.out
                rw [hfs] at hst
                have HREL : Hid (GrdIs w.heap.size (w10.drew.setCell ⟨g, j * 3 + 2, none⟩ (.int .i64 (wrap64 (y.amt + x.amt)))) l (k + 1) (.slice (some ⟨g, 0, none⟩) O.length c)) := ⟨O.set j (addL y x), ownsRow_cast hst.1 (by simp) rfl, by rw [HSN.out, ← HO2.out]; exact HPUT.out, fun e => by have h9 := congrArg List.length e; rw [List.length_set, List.length_nil] at h9; omega⟩
                have HB14 : Hid (Below w.heap.size w (w10.drew.setCell ⟨g, j * 3 + 2, none⟩ (.int .i64 (wrap64 (y.amt + x.amt))))) := (HB0.out.trans (HB10.out.mono HB0.out.size)).drew.setCell (p := ⟨g, j * 3 + 2, none⟩) hgB _
                clear hrow hst hfs HPUT HOWN HBACK HB10
                go_wp2_with fail
                go_big_region
                all_goals go_wp2_with fail
                all_goals go_roundw
                case rel => exact ⟨k + 1, by omega, by go_num, HREL, HB14⟩
                case measure => simp [intOf]; omega
              · have HPUT : Hid ((O.take j ++ x :: O.drop j).map toB = putB (O.map toB) (toB x)) := putL_in (by rw [HP.out, HPJ.out]) HY.out (by rw [HBACK.out]; revert hadd; cases s2 <;> cases s4 <;> simp)
                have hcase2 : (s1 = false ∧ s2 = false) ∨ (s1 = false ∧ s2 = true ∧ s3 = false ∧ s4 = false) := by revert hadd; rcases hcase with ⟨rfl, rfl⟩ | ⟨rfl, rfl, rfl⟩ <;> cases s4 <;> simp
                clear hcase hadd HBACK
                rcases hcase2 with ⟨rfl, rfl⟩ | ⟨rfl, rfl, rfl, rfl⟩
                all_goals
                  go_wp2_with fail
                  go_quiet (fail)
                  obtain ⟨w9, hw9⟩ : ∃ w9, w9 = wr.drewN nq := ⟨_, rfl⟩
                  rw [← hw9]
                  have HB9 : Hid (Below W.heap.size W w9) := by show Below _ _ _; rw [hw9]; exact ⟨HBI.out.os, HBI.out.tape, HBI.out.output, HBI.out.size, HBI.out.block⟩
                  clear hw9 nq
                  have q0 : w9.cell? ⟨B3, 0, none⟩ = some (.string x.acc) := (HB9.out.cell (p := ⟨B3, 0, none⟩) hB3lt).trans z0
                  have q1 : w9.cell? ⟨B3, 1, none⟩ = some (.string x.cur) := (HB9.out.cell (p := ⟨B3, 1, none⟩) hB3lt).trans z1
                  have q2 : w9.cell? ⟨B3, 2, none⟩ = some (.int .i64 x.amt) := (HB9.out.cell (p := ⟨B3, 2, none⟩) hB3lt).trans z2
                  have r0 : w9.cell? ⟨g, j * 3, none⟩ = some (.string y.acc) := (HB9.out.cell (p := ⟨g, j * 3, none⟩) hgW).trans (by have := (HCC8.out j y HY.out).1; rwa [Nat.zero_add] at this)
                  have r1 : w9.cell? ⟨g, j * 3 + 1, none⟩ = some (.string y.cur) := (HB9.out.cell (p := ⟨g, j * 3 + 1, none⟩) hgW).trans (by have := (HCC8.out j y HY.out).2.1; rwa [Nat.zero_add] at this)
                  have r2 : w9.cell? ⟨g, j * 3 + 2, none⟩ = some (.int .i64 y.amt) := (HB9.out.cell (p := ⟨g, j * 3 + 2, none⟩) hgW).trans (by have := (HCC8.out j y HY.out).2.2; rwa [Nat.zero_add] at this)
                  clear p0 p1 y0 y1
                  go_wp2_with fail
                  go_quiet (fail)
                  clear q0 q1 q2 r0 r1 r2 z0 z1 z2
                  have hcj : ¬ c = j := by omega
                  have hjc : j ≤ c := by omega
                  obtain ⟨w10, hw10⟩ : ∃ w10, w10 = w9.drewN nq := ⟨_, rfl⟩
                  rw [← hw10]
                  have HB10 : Hid (Below W.heap.size W w10) := by show Below _ _ _; rw [hw10]; exact ⟨HB9.out.os, HB9.out.tape, HB9.out.output, HB9.out.size, HB9.out.block⟩
                  clear hw10 nq HB9
                  have hL10 := HOAT.out.below HB10.out
                  obtain ⟨v2, w12, v3, w13, v4, w14, hr2, hr3, hr4, hown, hb12, hb14⟩ := ins_runs (w := w10) (O := O) (x := x) (P := j) (sc := c) (sc2 := c - j) (so := some ⟨g, 0, none⟩) (so2 := some ⟨g, j * 3, none⟩) (hL10.take j) (by have := lines_drop hL10 j; rwa [Nat.zero_add] at this) hOl (by omega)
                  have hx12 := ((HB10.out.trans (hb12.mono HB10.out.size)).block B3 (lt_of_heap HBX.out)).trans HBX.out
                  have s0 : w12.cell? ⟨B3, 0, none⟩ = some (.string x.acc) := cell_of_heap hx12 0
                  have s1 : w12.cell? ⟨B3, 1, none⟩ = some (.string x.cur) := cell_of_heap hx12 1
                  have s2 : w12.cell? ⟨B3, 2, none⟩ = some (.int .i64 x.amt) := cell_of_heap hx12 2
                  have HREL : Hid (GrdIs w.heap.size w14 l (k + 1) v4) := ⟨O.take j ++ x :: O.drop j, row_base hown (Nat.le_trans HB0.out.size HB10.out.size), by rw [HSN.out, ← HO2.out]; exact HPUT.out, fun e => by simp at e⟩
                  have HB14 : Hid (Below w.heap.size w w14) := HB0.out.trans ((HB10.out.trans (hb14.mono HB10.out.size)).mono HB0.out.size)
                  obtain ⟨V, hV⟩ : ∃ V, V = w12.alloc (.cells #[.string x.acc, .string x.cur, .int .i64 x.amt] 81) := ⟨_, rfl⟩
                  rw [← hV] at hr3
                  have HV := Lib.hid hV
                  clear hx12 hown hb12 hb14 HB10 hV hL10 HPUT
                  go_wp2_with (first | (at_builtin; refine Lib.wpList_append_run _ rfl _ _ _ _ rfl _ _ rfl rfl _ _ hr2 ?_) | (at_builtin; rw [← HV.out]; refine Lib.wpList_append_run _ rfl (.tmp 95) (.tmp 97) _ _ rfl v2 (.slice (some ⟨w12.heap.size, 0, none⟩) 1 1) rfl rfl v3 w13 hr3 ?_) | (at_builtin; refine Lib.wpList_append_run _ rfl (.tmp 99) (.tmp 102) _ _ rfl v3 (.slice (some ⟨g, j * 3, none⟩) (O.length - j) (c - j)) rfl rfl v4 w14 hr4 ?_))
                  go_roundw
                  case rel => exact ⟨k + 1, by omega, by go_num, HREL, HB14⟩
                  case measure => simp [intOf]; omega
          · obtain rfl : j = O.length := by omega
            have hjd : decide ((O.length : Int) < (O.length : Int)) = false := decide_eq_false (by omega)
            have HPJ : Hid (P = O.length) := by have := HJ.out; rw [List.drop_of_length_le (by simp)] at this; exact this.symm
            have HPUT : Hid ((O.take O.length ++ x :: O.drop O.length).map toB = putB (O.map toB) (toB x)) := putL_end (by rw [HP.out, HPJ.out]) (Nat.le_refl _)
            clear HJ HPJ hjl
            go_wp2_with fail
            go_quiet (fail)
            obtain ⟨w9, hw9⟩ : ∃ w9, w9 = wr.drewN nq := ⟨_, rfl⟩
            rw [← hw9]
            have HB9 : Hid (Below W.heap.size W w9) := by show Below _ _ _; rw [hw9]; exact ⟨HBI.out.os, HBI.out.tape, HBI.out.output, HBI.out.size, HBI.out.block⟩
            clear hw9 nq
            clear p0 p1
            go_wp2_with fail
            go_quiet (fail)
            clear z0 z1 z2
            have hjc : O.length ≤ c := hOc
            obtain ⟨w10, hw10⟩ : ∃ w10, w10 = w9.drewN nq := ⟨_, rfl⟩
            rw [← hw10]
            have HB10 : Hid (Below W.heap.size W w10) := by show Below _ _ _; rw [hw10]; exact ⟨HB9.out.os, HB9.out.tape, HB9.out.output, HB9.out.size, HB9.out.block⟩
            clear hw10 nq HB9
            have hL10 := HOAT.out.below HB10.out
            obtain ⟨v2, w12, v3, w13, v4, w14, hr2, hr3, hr4, hown, hb12, hb14⟩ := ins_runs (w := w10) (O := O) (x := x) (P := O.length) (sc := c) (sc2 := c - O.length) (so := some ⟨g, 0, none⟩) (so2 := if c = O.length then some ⟨g, 0, none⟩ else some ⟨g, O.length * 3, none⟩) (hL10.take O.length) (Or.inl (List.drop_of_length_le (Nat.le_refl _))) hOl (by omega)
            have hx12 := ((HB10.out.trans (hb12.mono HB10.out.size)).block B3 (lt_of_heap HBX.out)).trans HBX.out
            have s0 : w12.cell? ⟨B3, 0, none⟩ = some (.string x.acc) := cell_of_heap hx12 0
            have s1 : w12.cell? ⟨B3, 1, none⟩ = some (.string x.cur) := cell_of_heap hx12 1
            have s2 : w12.cell? ⟨B3, 2, none⟩ = some (.int .i64 x.amt) := cell_of_heap hx12 2
            have HREL : Hid (GrdIs w.heap.size w14 l (k + 1) v4) := ⟨O.take O.length ++ x :: O.drop O.length, row_base hown (Nat.le_trans HB0.out.size HB10.out.size), by rw [HSN.out, ← HO2.out]; exact HPUT.out, fun e => by simp at e⟩
            have HB14 : Hid (Below w.heap.size w w14) := HB0.out.trans ((HB10.out.trans (hb14.mono HB10.out.size)).mono HB0.out.size)
            obtain ⟨V, hV⟩ : ∃ V, V = w12.alloc (.cells #[.string x.acc, .string x.cur, .int .i64 x.amt] 81) := ⟨_, rfl⟩
            rw [← hV] at hr3
            have HV := Lib.hid hV
            rw [Nat.sub_self] at hr4
            clear hx12 hown hb12 hb14 HB10 hV hL10 HPUT
            go_wp2_with (first | (at_builtin; refine Lib.wpList_append_run _ rfl _ _ _ _ rfl _ _ rfl rfl _ _ hr2 ?_) | (at_builtin; rw [← HV.out]; refine Lib.wpList_append_run _ rfl (.tmp 95) (.tmp 97) _ _ rfl v2 (.slice (some ⟨w12.heap.size, 0, none⟩) 1 1) rfl rfl v3 w13 hr3 ?_) | (at_builtin; refine Lib.wpList_append_run _ rfl (.tmp 99) (.tmp 102) _ _ rfl v3 (.slice (if c = O.length then some ⟨g, 0, none⟩ else some ⟨g, O.length * 3, none⟩) 0 (c - O.length)) rfl rfl v4 w14 hr4 ?_))
            go_roundw
            case rel => exact ⟨k + 1, by omega, by go_num, HREL, HB14⟩
            case measure => simp [intOf]; omega
    · obtain rfl : k = l.length := by omega
      obtain ⟨O, h1, h2, h3⟩ := HI.out
      have hd1 : decide ((l.length : Int) < (l.length : Int)) = false := decide_eq_false (by omega)
      have HZ : Hid (GrdPost w.heap.size w ((l.map toB).foldl putB []) (.returned u3) wr) := ⟨HBW.out, u3, O, rfl, h1, by rw [h2, List.take_length]⟩
      clear h1 h2 h3 HI
      go_wp2_with fail
      go_ret
      exact HZ.out
end Go.Proofs.Ytbhndnjlplibmaa.lg
