/- nat.cmp, nat.set. -/
import Derived.Test.YtbhndnjlplibmaaDoorBg4
import Derived.Laws.CopyOwn
import Derived.Deep.WholeRow
import Derived.Deep.DeepMust
namespace Go.Proofs.YtbhndnjlplibmaaDoor.big
open Go.RowKit

theorem cmp_lt (ao bo : Option Addr) (n m ca cb : Nat) (h : n < m) (w : World) : Calls Tryd.prog 125 #[.slice ao n ca, .slice bo m cb] w fun e w' => e = .returned (.int .i64 (-1)) ∧ w' = w := by
  have d1 : ((n : Int) != (m : Int)) = true := bne_iff_ne.2 (by omega)
  have d2 : decide ((n : Int) < (m : Int)) = true := decide_eq_true (by omega)
  have d2n : decide (n < m) = true := decide_eq_true h
  go_enter Tryd.func125, Tryd.ntmps125
  go_wp2_with fail
  go_ret
  exact ⟨rfl, rfl⟩
theorem cmp_gt (ao bo : Option Addr) (n m ca cb : Nat) (h : m < n) (w : World) : Calls Tryd.prog 125 #[.slice ao n ca, .slice bo m cb] w fun e w' => e = .returned (.int .i64 1) ∧ w' = w := by
  have d1 : ((n : Int) != (m : Int)) = true := bne_iff_ne.2 (by omega)
  have d2 : decide ((n : Int) < (m : Int)) = false := decide_eq_false (by omega)
  have d2n : decide (n < m) = false := decide_eq_false (by omega)
  have d3 : decide ((m : Int) < (n : Int)) = true := decide_eq_true (by omega)
  have d3n : decide (m < n) = true := decide_eq_true h
  go_enter Tryd.func125, Tryd.ntmps125
  go_wp2_with fail
  go_ret
  exact ⟨rfl, rfl⟩
theorem cmp_one (a b ca cb x y : Nat) (w : World) (hx : w.cell? ⟨a, 0, none⟩ = some (.int .u64 (x : Int))) (hy : w.cell? ⟨b, 0, none⟩ = some (.int .u64 (y : Int))) :
    Calls Tryd.prog 125 #[.slice (some ⟨a, 0, none⟩) 1 ca, .slice (some ⟨b, 0, none⟩) 1 cb] w fun e w' => e = .returned (.int .i64 (if x < y then -1 else if y < x then 1 else 0)) ∧ ∃ n, w' = w.drewN n := by
  obtain ⟨r, hr⟩ : ∃ r : Int, r = if x < y then -1 else if y < x then 1 else 0 := ⟨_, rfl⟩
  rw [← hr]
  have hcase : (r = -1 ∧ decide ((x : Int) < (y : Int)) = true ∧ decide (x < y) = true) ∨ (r = 1 ∧ decide ((x : Int) < (y : Int)) = false ∧ decide (x < y) = false ∧ decide ((y : Int) < (x : Int)) = true ∧ decide (y < x) = true) ∨ (r = 0 ∧ decide ((x : Int) < (y : Int)) = false ∧ decide (x < y) = false ∧ decide ((y : Int) < (x : Int)) = false ∧ decide (y < x) = false) := by
    simp only [decide_eq_true_eq, decide_eq_false_iff_not]
    by_cases h1 : x < y
    · rw [if_pos h1] at hr; left; omega
    · rw [if_neg h1] at hr
      by_cases h2 : y < x
      · rw [if_pos h2] at hr; right; left; omega
      · rw [if_neg h2] at hr; right; right; omega
  clear hr
  rcases hcase with ⟨rfl, d1, d2⟩ | ⟨rfl, d1, d2, d3, d4⟩ | ⟨rfl, d1, d2, d3, d4⟩
  all_goals
    go_enter Tryd.func125, Tryd.ntmps125
    go_wp2_with fail
    refine wp_loop_rounds 1 ?_
    rw [rounds_succ]
    go_wp2_with fail
    go_quiet (fail)
    go_wp2_with fail
    go_quiet (fail)
    go_wp2_with fail
    try go_quiet (fail)
    try go_wp2_with fail
    go_ret
    exact ⟨rfl, by simp only [World.drewN_drewN]; exact ⟨_, rfl⟩⟩

set_option maxRecDepth 100000 in
theorem set_self (b n cap : Nat) (L : List Nat) (w : World) (h0 : 0 < n) (hn : n ≤ cap) (hl : L.length = cap) (hm : cap ≤ 6) (hb : w.heap[b]? = some (wObj L)) :
    Calls Tryd.prog 139 #[.slice (some ⟨b, 0, none⟩) n cap, .slice (some ⟨b, 0, none⟩) n cap] w fun e w' => e = .returned (.slice (some ⟨b, 0, none⟩) n cap) ∧ w' = w := by
  have hmk := make_in (some ⟨b, 0, none⟩) n cap n hn
  have hrow : Hid (w.setRow b (((wordsA L).toList.take 0 ++ (((L.take n).map fun x : Nat => Value.int .u64 (x : Int)) ++ (wordsA L).toList.drop (0 + ((L.take n).map fun x : Nat => Value.int .u64 (x : Int)).length))).toArray) = w) := by
    show _ = _
    have e : ((wordsA L).toList.take 0 ++ (((L.take n).map fun x : Nat => Value.int .u64 (x : Int)) ++ (wordsA L).toList.drop (0 + ((L.take n).map fun x : Nat => Value.int .u64 (x : Int)).length))).toArray = wordsA L := by
      have hln : ((L.take n).map fun x : Nat => Value.int .u64 (x : Int)).length = n := by simp; omega
      rw [hln, Nat.zero_add, List.take_zero, List.nil_append, List.map_take]
      show (List.take n (List.map _ L) ++ List.drop n (wordsA L).toList).toArray = wordsA L
      rw [show (wordsA L).toList = L.map fun x : Nat => Value.int .u64 (x : Int) from rfl, List.take_append_drop]
      rfl
    rw [e]
    exact setRow_self w b (wordsA L) 207 (0, 0) hb
  have hsrc : ∀ j v, ((L.take n).map fun x : Nat => Value.int .u64 (x : Int))[j]? = some v → w.cell? (Addr.add ⟨b, 0, none⟩ j) = some v := fun j v hj => by
    have hj2 : j < n := by have := (List.getElem?_eq_some_iff.1 hj).1; simp at this; omega
    rw [addr_add, Nat.zero_add, cell_of_heap hb, wordsA_at _ (by omega), ← hj]
    simp [hj2, show j < L.length by omega]
  have hfit : 0 + ((L.take n).map fun x : Nat => Value.int .u64 (x : Int)).length ≤ (wordsA L).size := by simp [wordsA]; omega
  have hone : ∀ v ∈ ((L.take n).map fun x : Nat => Value.int .u64 (x : Int)), v.oneCell' = true := fun v hv => by
    obtain ⟨x, _, rfl⟩ := List.mem_map.1 hv; rfl
  have hcnt : ((L.take n).map fun x : Nat => Value.int .u64 (x : Int)).length = Nat.min n n := by simp; omega
  have HB := Lib.hid hb
  have HSRC := Lib.hid hsrc
  have HFIT := Lib.hid hfit
  have HONE := Lib.hid hone
  have HCNT := Lib.hid hcnt
  clear hb hsrc hfit hone hcnt
  go_enter Tryd.func139, Tryd.ntmps139
  go_wp2_with (first | (go_at_call 140; refine (hmk _).mono ?_; rintro e w' ⟨rfl, rfl⟩) | (refine wpList_copy_own (o := ⟨some 11, _, _, _, _, _⟩) rfl (.tmp 9) (.tmp 10) _ _ rfl 207 Tryd.underlying167 (by kernel_rfl) b 0 n cap ⟨b, 0, none⟩ n cap rfl rfl (wordsA L) 207 HB.out ((L.take n).map fun x : Nat => Value.int .u64 (x : Int)) HCNT.out HSRC.out HFIT.out HONE.out ?_; rw [hrow.out]))

  go_wp2_with fail
  go_ret
  exact ⟨rfl, rfl⟩

set_option maxRecDepth 100000 in
theorem set_new (zo : Option Addr) (yb yc Y : Nat) (w : World) (hy : w.cell? ⟨yb, 0, none⟩ = some (.int .u64 (Y : Int))) :
    Calls Tryd.prog 139 #[.slice zo 0 0, .slice (some ⟨yb, 0, none⟩) 1 yc] w fun e w' => e = .returned (.slice (some ⟨w.heap.size, 0, none⟩) 1 1) ∧ w' = w.alloc (wObj [Y]) := by
  have hmk := make_one zo 0
  have hlt : yb < w.heap.size := by
    rcases Nat.lt_or_ge yb w.heap.size with h | h
    · exact h
    · simp [World.cell?, Array.getElem?_eq_none h] at hy
  have hb : (w.alloc (wObj [0])).heap[w.heap.size]? = some (.cells (wordsA [0]) 207 (0, 0)) := heap_new_at rfl _
  have hrow : Hid ((w.alloc (wObj [0])).setRow w.heap.size (((wordsA [0]).toList.take 0 ++ ([Value.int .u64 (Y : Int)] ++ (wordsA [0]).toList.drop (0 + [Value.int .u64 (Y : Int)].length))).toArray) = w.alloc (wObj [Y])) := World.setRow_alloc_new w (wordsA [0]) _ 207
  have hsrc : ∀ j v, [Value.int .u64 (Y : Int)][j]? = some v → (w.alloc (wObj [0])).cell? (Addr.add ⟨yb, 0, none⟩ j) = some v := fun j v hj => by
    match j, hj with
    | 0, hj =>
      simp only [List.getElem?_cons_zero, Option.some.injEq] at hj
      subst hj
      rw [addr_add, World.cell?_alloc_lt _ _ ⟨yb, 0 + 0, none⟩ hlt]
      exact hy
  have HB := Lib.hid hb
  have HSRC := Lib.hid hsrc
  clear hb hsrc hy
  go_enter Tryd.func139, Tryd.ntmps139
  go_wp2_with (first | (go_at_call 140; refine (hmk _).mono ?_; rintro e w' ⟨rfl, rfl⟩) | (refine wpList_copy_own (o := ⟨some 11, _, _, _, _, _⟩) rfl (.tmp 9) (.tmp 10) _ _ rfl 207 Tryd.underlying167 (by kernel_rfl) w.heap.size 0 1 1 ⟨yb, 0, none⟩ 1 yc rfl rfl (wordsA [0]) 207 HB.out [Value.int .u64 (Y : Int)] rfl HSRC.out (by simp [wordsA]) (by simp [Value.oneCell']) ?_; rw [hrow.out]))
  go_wp2_with fail
  go_ret
  exact ⟨rfl, rfl⟩
set_option maxRecDepth 100000 in
theorem set_in (b cap yb yc Y x0 : Nat) (L : List Nat) (w : World) (hl : (x0 :: L).length = cap) (hb : w.heap[b]? = some (wObj (x0 :: L))) (hy : w.cell? ⟨yb, 0, none⟩ = some (.int .u64 (Y : Int))) :
    Calls Tryd.prog 139 #[.slice (some ⟨b, 0, none⟩) 0 cap, .slice (some ⟨yb, 0, none⟩) 1 yc] w fun e w' => e = .returned (.slice (some ⟨b, 0, none⟩) 1 cap) ∧ w' = w.setRow b (wordsA (Y :: L)) := by
  have hmk := make_in (some ⟨b, 0, none⟩) 0 cap 1 (by simp at hl; omega)
  have hmk1 : ∀ W, Calls Tryd.prog 140 #[.slice (some ⟨b, 0, none⟩) 0 cap, .int .i64 1] W fun e w' => e = .returned (.slice (some ⟨b, 0, none⟩) 1 cap) ∧ w' = W := hmk
  have hrow : Hid (w.setRow b (((wordsA (x0 :: L)).toList.take 0 ++ ([Value.int .u64 (Y : Int)] ++ (wordsA (x0 :: L)).toList.drop (0 + [Value.int .u64 (Y : Int)].length))).toArray) = w.setRow b (wordsA (Y :: L))) := rfl
  have hsrc : ∀ j v, [Value.int .u64 (Y : Int)][j]? = some v → w.cell? (Addr.add ⟨yb, 0, none⟩ j) = some v := fun j v hj => by
    match j, hj with
    | 0, hj =>
      simp only [List.getElem?_cons_zero, Option.some.injEq] at hj
      subst hj
      rw [addr_add]
      exact hy
  have HB := Lib.hid hb
  have HSRC := Lib.hid hsrc
  clear hb hsrc hy hmk
  go_enter Tryd.func139, Tryd.ntmps139
  go_wp2_with (first | (go_at_call 140; refine (hmk1 _).mono ?_; rintro e w' ⟨rfl, rfl⟩) | (refine wpList_copy_own (o := ⟨some 11, _, _, _, _, _⟩) rfl (.tmp 9) (.tmp 10) _ _ rfl 207 Tryd.underlying167 (by kernel_rfl) b 0 1 cap ⟨yb, 0, none⟩ 1 yc rfl rfl (wordsA (x0 :: L)) 207 HB.out [Value.int .u64 (Y : Int)] rfl HSRC.out (by simp [wordsA]) (by simp [Value.oneCell']) ?_; rw [hrow.out]))
  go_wp2_with fail
  go_ret
  exact ⟨rfl, rfl⟩
end Go.Proofs.YtbhndnjlplibmaaDoor.big
