/- slices.Clone at lines; entry.Compare; slices.SortStableFunc at no more than twenty lines. -/
import Derived.Test.YtbhndnjlplibmaaDoorEt1
import Derived.Test.YtbhndnjlplibmaaDoorSrl
import Derived.Test.YtbhndnjlplibmaaDoorSort
import Derived.Shelf.SlSortCmp.InsertionK
import Derived.Shelf.SlSortCmp.NoneTotal
import Derived.Sort.OwnSorted
import Derived.Sort.LotA
namespace Go.Proofs.YtbhndnjlplibmaaDoor.lg
open Go.RowKit Go.Shelf Go.Lib Go.Sort

theorem lines_row_of {w : World} {B : Nat} {v : Value} {l : List LineM} (h : w.ownsRow B 87 3 v l.length (l.flatMap encL)) : ∃ ao cap, v = .slice ao l.length cap := by
  obtain ⟨ao, cap, h1, _⟩ := lines_of_row_cap h rfl
  exact ⟨ao, cap, h1⟩
set_option maxRecDepth 100000 in
set_option maxHeartbeats 2000000 in
theorem clone_lines (lo : Option Addr) (lc : Nat) (l : List LineM) (w : World) (hl : LinesAt w lo l) (hnil : lo = none → lc = 0) (hn : l.length ≤ 1000) :
    Calls Tryd.prog 70 #[.slice lo l.length lc] w fun e w' => Below w.heap.size w w' ∧ ∃ v, e = .returned v ∧ w'.ownsRow w.heap.size 87 3 v l.length (l.flatMap encL) := by
  cases lo with
  | none =>
    have hl0 : l = [] := by
      rcases hl with h | ⟨b, off, e, _⟩
      · exact h
      · cases e
    obtain rfl := hnil rfl
    subst hl0
    have hnil : (binOp .eql 79 (.slice none 0 0) (.slice none 0 0)).run Tryd.prog w = .ok (.bool true) w := Lib.run_eql_slice_nil w 79 87 none 0 0 0 0 Tryd.underlying79
    rw [List.length_nil]
    go_enter Tryd.func70, Tryd.ntmps70
    go_wp2_with fail
    go_ret
    exact ⟨Below.refl _ _, _, rfl, World.ownsRow_nil _ _ _ _⟩
  | some ad =>
    have hnil := fun wx => Lib.run_eql_slice_nil (P := Tryd.prog) wx 79 87 (some ad) l.length lc 0 0 Tryd.underlying79
    have hown0 : (w.alloc (.cells #[] 87)).ownsRow w.heap.size 87 3 (.slice (some ⟨w.heap.size, 0, none⟩) 0 0) 0 [] :=
      ⟨rfl, Or.inr ⟨w.heap.size, 0, #[], rfl, Nat.le_refl _, heap_new_at rfl _, Nat.le_refl _, by decide, rfl, rfl⟩⟩
    have hbel : Below w.heap.size w (w.alloc (.cells #[] 87)) := (Below.refl _ _).alloc (Nat.le_refl _) _
    obtain ⟨v', w1, hr, hown, hgrow, hblk⟩ := run_append_lines (sc := lc) hown0 (hl.below hbel) (by omega) hbel.size 79
    have HB : Hid (Below w.heap.size w w1) := hbel.trans ((Only.of_grown hgrow).below hbel.size (fun k hk => by simp [Value.ownBlock] at hk; omega))
    have HO : Hid (w1.ownsRow w.heap.size 87 3 v' l.length (l.flatMap encL)) := ownsRow_cast hown (by omega) (by simp)
    clear hown0 hbel hown hgrow hblk hl
    go_enter Tryd.func70, Tryd.ntmps70
    go_wp2_with (at_builtin; refine Lib.wpList_append_run _ rfl _ _ _ _ rfl _ _ rfl rfl _ _ hr ?_)
    go_ret
    exact ⟨HB.out, _, rfl, HO.out⟩
set_option maxHeartbeats 1000000 in
theorem or2 (a b : Int) (g cap : Nat) (w : World) (c0 : w.cell? ⟨g, 0, none⟩ = some (.int .i64 a)) (c1 : w.cell? ⟨g, 1, none⟩ = some (.int .i64 b)) :
    Calls Tryd.prog 107 #[.slice (some ⟨g, 0, none⟩) 2 cap] w fun e w' => e = .returned (.int .i64 (firstOf [a, b])) ∧ w = w' := by
  have HF : Hid (firstOf [a, b] = if a = 0 then (if b = 0 then 0 else b) else a) := rfl
  generalize firstOf [a, b] = r at HF
  by_cases ha : a = 0
  · by_cases hb : b = 0
    · subst ha hb
      have hr : Hid (r = 0) := HF.out
      clear HF
      go_enter Tryd.func107, Tryd.ntmps107
      go_wp2_with fail
      refine wp_loop_rounds 3 ?_
      rw [rounds_succ]
      go_wp2_with fail
      rw [rounds_succ]
      go_wp2_with fail
      rw [rounds_succ]
      go_wp2_with fail
      go_ret
      exact ⟨ret_int hr.out.symm, rfl⟩
    · have hr : Hid (r = b) := by show _ = _; rw [HF.out, if_pos ha, if_neg hb]
      subst ha
      have hbb : (b != 0) = true := by simp [hb]
      clear HF hb
      go_enter Tryd.func107, Tryd.ntmps107
      go_wp2_with fail
      refine wp_loop_rounds 3 ?_
      rw [rounds_succ]
      go_wp2_with fail
      rw [rounds_succ]
      go_wp2_with fail
      go_ret
      exact ⟨ret_int hr.out.symm, rfl⟩
  · have hr : Hid (r = a) := by show _ = _; rw [HF.out, if_neg ha]
    have hab : (a != 0) = true := by simp [ha]
    clear HF ha
    go_enter Tryd.func107, Tryd.ntmps107
    go_wp2_with fail
    refine wp_loop_rounds 3 ?_
    rw [rounds_succ]
    go_wp2_with fail
    go_ret
    exact ⟨ret_int hr.out.symm, rfl⟩
set_option maxRecDepth 100000 in
set_option maxHeartbeats 2000000 in
theorem compare_lines (x y : LineM) (w : World) : Calls Tryd.prog 89 #[.agg #[.string x.acc, .string x.cur, .int .i64 x.amt], .agg #[.string y.acc, .string y.cur, .int .i64 y.amt]] w fun e w' => e = .returned (.int .i64 (lineCmp x y)) ∧ Below w.heap.size w w' ∧
    ∃ o, w' = ((w.alloc (.cells #[.string x.acc, .string x.cur, .int .i64 x.amt] 87)).alloc (.cells #[.string y.acc, .string y.cur, .int .i64 y.amt] 87)).drew.alloc o := by
  obtain ⟨w2, hw2⟩ : ∃ w2, w2 = (w.alloc (.cells #[.string x.acc, .string x.cur, .int .i64 x.amt] 87)).alloc (.cells #[.string y.acc, .string y.cur, .int .i64 y.amt] 87) := ⟨_, rfl⟩
  have hbl : Below w.heap.size w w2 := by rw [hw2]; exact ((Below.refl _ _).alloc (Nat.le_refl _) _).alloc (by simp) _
  have b1 : w2.heap[w.heap.size]? = some (.cells #[.string x.acc, .string x.cur, .int .i64 x.amt] 87 (0, 0)) := by
    rw [hw2, Below.heap_alloc _ _ _ (by simp)]; exact heap_new_at rfl _
  have b2 : w2.heap[w.heap.size + 1]? = some (.cells #[.string y.acc, .string y.cur, .int .i64 y.amt] 87 (0, 0)) := by
    rw [hw2]; exact heap_new_at (by simp) _
  have x1 : w2.cell? ⟨w.heap.size, 0, none⟩ = some (.string x.acc) := cell_of_heap b1 0
  have x2 : w2.cell? ⟨w.heap.size, 1, none⟩ = some (.string x.cur) := cell_of_heap b1 1
  have y1 : w2.cell? ⟨w.heap.size + 1, 0, none⟩ = some (.string y.acc) := cell_of_heap b2 0
  have y2 : w2.cell? ⟨w.heap.size + 1, 1, none⟩ = some (.string y.cur) := cell_of_heap b2 1
  have HBL := Lib.hid hbl
  have HW2 := Lib.hid hw2
  have hor := fun (wx : World) (g : Nat) (hg : wx.heap[g]? = some (.cells #[.int .i64 (cmpS x.acc y.acc), .int .i64 (cmpS x.cur y.cur)] 3 (0, 0))) => or2 (cmpS x.acc y.acc) (cmpS x.cur y.cur) g 2 wx (cell_of_heap hg 0) (cell_of_heap hg 1)
  have HOR := Lib.hid hor
  clear hbl b1 b2 hw2 hor
  go_enter Tryd.func89, Tryd.ntmps89
  go_wp2_with fail
  rw [← HW2.out]
  go_still_tail 10, (by kernel_rfl)
  still_call ((compare_str _ _ _).mono (fun _ _ h => ⟨h.1, h.2.symm⟩))
  repeat still_step
  still_call ((compare_str _ _ _).mono (fun _ _ h => ⟨h.1, h.2.symm⟩))
  refine wpStill_nil ?_
  change wpList _ _ _ _ _ w2.drew
  have HBD : Hid (Below w.heap.size w w2.drew) := HBL.out.drew
  have HW3 : Hid (w2.drew = ((w.alloc (.cells #[.string x.acc, .string x.cur, .int .i64 x.amt] 87)).alloc (.cells #[.string y.acc, .string y.cur, .int .i64 y.amt] 87)).drew) := by show _ = _; rw [HW2.out]
  generalize w2.drew = w3 at *
  go_wp2_with fail
  refine (HOR.out _ _ (heap_new_at rfl _)).mono ?_
  rintro e w' ⟨rfl, rfl⟩
  go_wp2_with fail
  go_ret
  exact ⟨rfl, HBD.out.alloc HBD.out.size _, _, by rw [← HW3.out]⟩
end Go.Proofs.YtbhndnjlplibmaaDoor.lg
