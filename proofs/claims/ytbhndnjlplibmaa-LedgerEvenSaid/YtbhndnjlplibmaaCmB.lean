/- cmp.Compare at integers and texts, cmp.Or of three, and frame.Compare. -/
import Derived.Test.YtbhndnjlplibmaaBalM
import Derived.Test.YtbhndnjlplibmaaGen
import Derived.Test.YtbhndnjlplibmaaInts
import Derived.WalkLawsBesides
import Derived.Laws.Cover1
import Derived.StillTailTactics
namespace Go.Proofs.Ytbhndnjlplibmaa
open Go.RowKit

def cmpI (a b : Int) : Int := if a < b then -1 else if b < a then 1 else 0
def lessS (a b : ByteArray) : Bool := Op.bytesLess a.toList b.toList
def sameS (a b : ByteArray) : Bool := a.toList == b.toList
def cmpS (a b : ByteArray) : Int := if lessS a b = true then -1 else if sameS a b = true then 0 else 1

theorem nan_int (a : Int) (w : World) : Calls Try.prog 89 #[.int .i64 a] w fun e w' => e = .returned (.bool false) ∧ w = w' := by
  have h : ((a : Int) != a) = false := by simp
  go_enter Try.func89, Try.ntmps89
  go_wp2_with fail
  go_ret
  exact ⟨rfl, rfl⟩
theorem nan_str (a : ByteArray) (w : World) : Calls Try.prog 90 #[.string a] w fun e w' => e = .returned (.bool false) ∧ w = w' := by
  go_enter Try.func90, Try.ntmps90
  go_wp2_with fail
  go_ret
  exact ⟨rfl, rfl⟩
set_option maxHeartbeats 1000000 in
theorem compare_int (a b : Int) (w : World) : Calls Try.prog 80 #[.int .i64 a, .int .i64 b] w fun e w' => e = .returned (.int .i64 (cmpI a b)) ∧ w = w' := by
  have h1 := nan_int a w
  have h2 := nan_int b w
  have HC : ∀ c, Hid (cmpI a b = c) → Hid (cmpI a b = c) := fun _ h => h
  by_cases hl : a < b
  · have hc : Hid (cmpI a b = -1) := by show _ = _; rw [cmpI, if_pos hl]
    generalize cmpI a b = c at hc
    go_enter Try.func80, Try.ntmps80
    go_wp2_with fail
    refine h1.mono ?_
    rintro e w' ⟨rfl, rfl⟩
    go_wp2_with fail
    refine h2.mono ?_
    rintro e w' ⟨rfl, rfl⟩
    go_wp2_with fail
    go_ret
    exact ⟨ret_int hc.out.symm, rfl⟩
  · by_cases hg : b < a
    · have hc : Hid (cmpI a b = 1) := by show _ = _; rw [cmpI, if_neg hl, if_pos hg]
      generalize cmpI a b = c at hc
      go_enter Try.func80, Try.ntmps80
      go_wp2_with fail
      refine h1.mono ?_
      rintro e w' ⟨rfl, rfl⟩
      go_wp2_with fail
      refine h2.mono ?_
      rintro e w' ⟨rfl, rfl⟩
      go_wp2_with fail
      go_ret
      exact ⟨ret_int hc.out.symm, rfl⟩
    · have hc : Hid (cmpI a b = 0) := by show _ = _; rw [cmpI, if_neg hl, if_neg hg]
      generalize cmpI a b = c at hc
      go_enter Try.func80, Try.ntmps80
      go_wp2_with fail
      refine h1.mono ?_
      rintro e w' ⟨rfl, rfl⟩
      go_wp2_with fail
      refine h2.mono ?_
      rintro e w' ⟨rfl, rfl⟩
      go_wp2_with fail
      go_ret
      exact ⟨ret_int hc.out.symm, rfl⟩
set_option maxHeartbeats 1000000 in
theorem compare_str (a b : ByteArray) (w : World) : Calls Try.prog 81 #[.string a, .string b] w fun e w' => e = .returned (.int .i64 (cmpS a b)) ∧ w = w' := by
  have h1 := nan_str a w
  have h2 := nan_str b w
  obtain ⟨ls, hls⟩ : ∃ ls, Op.bytesLess a.toList b.toList = ls := ⟨_, rfl⟩
  obtain ⟨ss, hss⟩ : ∃ ss, (a.toList == b.toList) = ss := ⟨_, rfl⟩
  have HC : Hid (cmpS a b = if ls = true then -1 else if ss = true then 0 else 1) := by show _ = _; rw [cmpS, lessS, sameS, hls, hss]
  generalize cmpS a b = c at HC
  cases ls <;> cases ss
  all_goals
    go_enter Try.func81, Try.ntmps81
    go_wp2_with fail
    refine h1.mono ?_
    rintro e w' ⟨rfl, rfl⟩
    go_wp2_with fail
    refine h2.mono ?_
    rintro e w' ⟨rfl, rfl⟩
    go_wp2_with fail
    go_ret
    exact ⟨ret_int (by rw [HC.out]; rfl), rfl⟩

set_option maxHeartbeats 1000000 in
theorem or3 (a b c : Int) (g cap : Nat) (w : World) (hz : IntsAt w (some ⟨g, 0, none⟩) [a, b, c]) :
    Calls Try.prog 79 #[.slice (some ⟨g, 0, none⟩) 3 cap] w fun e w' => e = .returned (.int .i64 (firstOf [a, b, c])) ∧ w = w' := by
  obtain ⟨c0, c1, c2⟩ : w.cell? ⟨g, 0, none⟩ = some (.int .i64 a) ∧ w.cell? ⟨g, 1, none⟩ = some (.int .i64 b) ∧ w.cell? ⟨g, 2, none⟩ = some (.int .i64 c) := by
    rcases hz with h | ⟨b', off, e, hc⟩
    · cases h
    · injection e with e
      injection e with e1 e2 _
      subst e1 e2
      exact ⟨hc 0 (by simp), hc 1 (by simp), hc 2 (by simp)⟩
  clear hz
  have HF : Hid (firstOf [a, b, c] = if a = 0 then (if b = 0 then (if c = 0 then 0 else c) else b) else a) := rfl
  generalize firstOf [a, b, c] = r at HF
  by_cases ha : a = 0
  · by_cases hb : b = 0
    · by_cases hc : c = 0
      · subst ha hb hc
        have hr : Hid (r = 0) := HF.out
        clear HF
        go_enter Try.func79, Try.ntmps79
        go_wp2_with fail
        refine wp_loop_rounds 4 ?_
        rw [rounds_succ]
        go_wp2_with fail
        rw [rounds_succ]
        go_wp2_with fail
        rw [rounds_succ]
        go_wp2_with fail
        rw [rounds_succ]
        go_wp2_with fail
        go_ret
        exact ⟨ret_int hr.out.symm, rfl⟩
      · have hr : Hid (r = c) := by show _ = _; rw [HF.out, if_pos ha, if_pos hb, if_neg hc]
        subst ha hb
        have hcb : (c != 0) = true := by simp [hc]
        clear HF hc
        go_enter Try.func79, Try.ntmps79
        go_wp2_with fail
        refine wp_loop_rounds 4 ?_
        rw [rounds_succ]
        go_wp2_with fail
        rw [rounds_succ]
        go_wp2_with fail
        rw [rounds_succ]
        go_wp2_with fail
        go_ret
        exact ⟨ret_int hr.out.symm, rfl⟩
    · have hr : Hid (r = b) := by show _ = _; rw [HF.out, if_pos ha, if_neg hb]
      subst ha
      have hbb : (b != 0) = true := by simp [hb]
      clear HF hb
      go_enter Try.func79, Try.ntmps79
      go_wp2_with fail
      refine wp_loop_rounds 4 ?_
      rw [rounds_succ]
      go_wp2_with fail
      rw [rounds_succ]
      go_wp2_with fail
      go_ret
      exact ⟨ret_int hr.out.symm, rfl⟩
  · have hr : Hid (r = a) := by show _ = _; rw [HF.out, if_neg ha]
    have hab : (a != 0) = true := by simp [ha]
    clear HF ha
    go_enter Try.func79, Try.ntmps79
    go_wp2_with fail
    refine wp_loop_rounds 4 ?_
    rw [rounds_succ]
    go_wp2_with fail
    go_ret
    exact ⟨ret_int hr.out.symm, rfl⟩

def balV (x : BalM) : Value := .agg #[.int .i64 x.ent, .string x.acc, .string x.cur, .int .i64 x.amt]
def balCmp (x y : BalM) : Int := firstOf [cmpI x.ent y.ent, cmpS x.acc y.acc, cmpS x.cur y.cur]
set_option maxRecDepth 100000 in
set_option maxHeartbeats 2000000 in
theorem compare_grow (x y : BalM) (w : World) : Calls Try.prog 59 #[balV x, balV y] w fun e w' => e = .returned (.int .i64 (balCmp x y)) ∧ Below w.heap.size w w' ∧
    ∃ o, w' = ((w.alloc (.cells #[.int .i64 x.ent, .string x.acc, .string x.cur, .int .i64 x.amt] 43)).alloc (.cells #[.int .i64 y.ent, .string y.acc, .string y.cur, .int .i64 y.amt] 43)).drew.alloc o := by
  obtain ⟨w2, hw2⟩ : ∃ w2, w2 = (w.alloc (.cells #[.int .i64 x.ent, .string x.acc, .string x.cur, .int .i64 x.amt] 43)).alloc (.cells #[.int .i64 y.ent, .string y.acc, .string y.cur, .int .i64 y.amt] 43) := ⟨_, rfl⟩
  have hbl : Below w.heap.size w w2 := by rw [hw2]; exact ((Below.refl _ _).alloc (Nat.le_refl _) _).alloc (by simp) _
  have b1 : w2.heap[w.heap.size]? = some (.cells #[.int .i64 x.ent, .string x.acc, .string x.cur, .int .i64 x.amt] 43 (0, 0)) := by
    rw [hw2, Below.heap_alloc _ _ _ (by simp)]; exact heap_new_at rfl _
  have b2 : w2.heap[w.heap.size + 1]? = some (.cells #[.int .i64 y.ent, .string y.acc, .string y.cur, .int .i64 y.amt] 43 (0, 0)) := by
    rw [hw2]; exact heap_new_at (by simp) _
  have x0 : w2.cell? ⟨w.heap.size, 0, none⟩ = some (.int .i64 x.ent) := cell_of_heap b1 0
  have x1 : w2.cell? ⟨w.heap.size, 1, none⟩ = some (.string x.acc) := cell_of_heap b1 1
  have x2 : w2.cell? ⟨w.heap.size, 2, none⟩ = some (.string x.cur) := cell_of_heap b1 2
  have y0 : w2.cell? ⟨w.heap.size + 1, 0, none⟩ = some (.int .i64 y.ent) := cell_of_heap b2 0
  have y1 : w2.cell? ⟨w.heap.size + 1, 1, none⟩ = some (.string y.acc) := cell_of_heap b2 1
  have y2 : w2.cell? ⟨w.heap.size + 1, 2, none⟩ = some (.string y.cur) := cell_of_heap b2 2
  have HBL := Lib.hid hbl
  have HW2 := Lib.hid hw2
  have hor := fun (wx : World) (g : Nat) (hg : wx.heap[g]? = some (.cells #[.int .i64 (cmpI x.ent y.ent), .int .i64 (cmpS x.acc y.acc), .int .i64 (cmpS x.cur y.cur)] 3 (0, 0))) => or3 (cmpI x.ent y.ent) (cmpS x.acc y.acc) (cmpS x.cur y.cur) g 3 wx (Or.inr ⟨g, 0, rfl, fun i hi => by
    rw [cell_of_heap hg]
    match i, hi with
    | 0, _ | 1, _ | 2, _ => rfl⟩)
  have HOR := Lib.hid hor
  unfold balV
  clear hbl b1 b2 hw2 hor
  go_enter Try.func59, Try.ntmps59
  go_wp2_with fail
  rw [← HW2.out]
  go_still_tail 15, (by kernel_rfl)
  still_call ((compare_int _ _ _).mono (fun _ _ h => ⟨h.1, h.2.symm⟩))
  repeat still_step
  still_call ((compare_str _ _ _).mono (fun _ _ h => ⟨h.1, h.2.symm⟩))
  repeat still_step
  still_call ((compare_str _ _ _).mono (fun _ _ h => ⟨h.1, h.2.symm⟩))
  refine wpStill_nil ?_
  change wpList _ _ _ _ _ w2.drew
  have HBD : Hid (Below w.heap.size w w2.drew) := HBL.out.drew
  have HW3 : Hid (w2.drew = ((w.alloc (.cells #[.int .i64 x.ent, .string x.acc, .string x.cur, .int .i64 x.amt] 43)).alloc (.cells #[.int .i64 y.ent, .string y.acc, .string y.cur, .int .i64 y.amt] 43)).drew) := by show _ = _; rw [HW2.out]
  generalize w2.drew = w3 at *
  go_wp2_with fail
  refine (HOR.out _ _ (heap_new_at rfl _)).mono ?_
  rintro e w' ⟨rfl, rfl⟩
  go_wp2_with fail
  go_ret
  exact ⟨rfl, HBD.out.alloc HBD.out.size _, _, by rw [← HW3.out]⟩
theorem compare_bal (x y : BalM) (w : World) : Calls Try.prog 59 #[balV x, balV y] w fun e w' => e = .returned (.int .i64 (balCmp x y)) ∧ Below w.heap.size w w' :=
  (compare_grow x y w).mono fun _ _ h => ⟨h.1, h.2.1⟩
end Go.Proofs.Ytbhndnjlplibmaa
