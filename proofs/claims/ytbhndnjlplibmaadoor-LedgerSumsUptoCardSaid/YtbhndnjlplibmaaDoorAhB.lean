/- dayref2.Ahead: does a balance stand ahead of another one? -/
import Derived.Test.YtbhndnjlplibmaaDoorCmB
namespace Go.Proofs.YtbhndnjlplibmaaDoor
open Go.RowKit

theorem cmp_neg_ent {x y : BalM} (h : x.ent ≠ y.ent) : decide (balCmp x y < 0) = decide (x.ent < y.ent) := by
  unfold balCmp
  rw [firstOf]
  unfold cmpI
  by_cases h1 : x.ent < y.ent
  · rw [if_pos h1]; simp [h1]
  · rw [if_neg h1, if_pos (show y.ent < x.ent by omega)]; simp [h1]
theorem cmp_neg_acc {x y : BalM} (h : x.ent = y.ent) (h2 : sameS x.acc y.acc = false) : decide (balCmp x y < 0) = lessS x.acc y.acc := by
  unfold balCmp
  rw [firstOf, firstOf]
  have e : cmpI x.ent y.ent = 0 := by unfold cmpI; rw [h, if_neg (by omega), if_neg (by omega)]
  rw [e, if_pos rfl]
  unfold cmpS
  rw [h2]
  cases h1 : lessS x.acc y.acc <;> simp
theorem less_irrefl : ∀ (l : List UInt8), Op.bytesLess l l = false := by
  intro l
  induction l with
  | nil => rfl
  | cons a t ih => simp [Op.bytesLess, ih]
theorem cmp_neg_cur {x y : BalM} (h : x.ent = y.ent) (h2 : sameS x.acc y.acc = true) : decide (balCmp x y < 0) = lessS x.cur y.cur := by
  unfold balCmp
  rw [firstOf, firstOf, firstOf]
  have e : cmpI x.ent y.ent = 0 := by unfold cmpI; rw [h, if_neg (by omega), if_neg (by omega)]
  have h3 : x.acc.toList = y.acc.toList := by simpa [sameS] using h2
  have e2 : cmpS x.acc y.acc = 0 := by
    unfold cmpS lessS
    rw [h3, less_irrefl, h2]; rfl
  rw [e, if_pos rfl, e2, if_pos rfl]
  unfold cmpS
  cases h1 : lessS x.cur y.cur
  · cases h4 : sameS x.cur y.cur <;> simp [firstOf]
  · simp

set_option maxRecDepth 100000 in
set_option maxHeartbeats 2000000 in
theorem ahead_any (x y : BalM) (w : World) : Calls Tryd.prog 80 #[balV x, balV y] w fun e w' => e = .returned (.bool (decide (balCmp x y < 0))) ∧ Below w.heap.size w w' := by
  have HB : Hid (Below w.heap.size w ((w.alloc (.cells #[.int .i64 x.ent, .string x.acc, .string x.cur, .int .i64 x.amt] 77)).alloc (.cells #[.int .i64 y.ent, .string y.acc, .string y.cur, .int .i64 y.amt] 77))) := ((Below.refl _ _).alloc (Nat.le_refl _) _).alloc (by simp) _
  unfold balV
  by_cases h : x.ent = y.ent
  · cases h2 : sameS x.acc y.acc with
    | false =>
      have HC := Lib.hid (cmp_neg_acc h h2)
      unfold sameS at h2
      unfold lessS at HC
      have h2' : (x.acc.toList != y.acc.toList) = true := by simp [bne, h2]
      have hne : ((x.ent : Int) != y.ent) = false := by simp [h]
      generalize decide (balCmp x y < 0) = c at HC
      clear h
      go_enter Tryd.func80, Tryd.ntmps80
      go_wp2_with fail
      go_ret
      exact ⟨ret_bool HC.out.symm, HB.out⟩
    | true =>
      have HC := Lib.hid (cmp_neg_cur h h2)
      unfold sameS at h2
      unfold lessS at HC
      have h2' : (x.acc.toList != y.acc.toList) = false := by simp [bne, h2]
      have hne : ((x.ent : Int) != y.ent) = false := by simp [h]
      generalize decide (balCmp x y < 0) = c at HC
      clear h
      go_enter Tryd.func80, Tryd.ntmps80
      go_wp2_with fail
      go_ret
      exact ⟨ret_bool HC.out.symm, HB.out⟩
  · have HC := Lib.hid (cmp_neg_ent h)
    have hne : ((x.ent : Int) != y.ent) = true := by simp [h]
    generalize decide (balCmp x y < 0) = c at HC
    clear h
    go_enter Tryd.func80, Tryd.ntmps80
    go_wp2_with fail
    go_ret
    exact ⟨ret_bool HC.out.symm, HB.out⟩
end Go.Proofs.YtbhndnjlplibmaaDoor
