/- daysame.Lines and daysame.Entry: what is the same is the same. -/
import Derived.Test.YtldpflijgbcbhaaFent
import Derived.WalkSpells
namespace Go.Proofs.Ytldpflijgbcbhaa
open Go.RowKit

set_option maxRecDepth 100000 in
set_option maxHeartbeats 2000000 in
theorem lines_same (t : List LineM) (w : World) (a b : Option Addr) (ca cb : Nat) (ha : LinesAt w a t) (hb : LinesAt w b t) (hm : t.length ≤ 9223372036854775807) :
    Calls Try.prog 48 #[.slice a t.length ca, .slice b t.length cb] w fun e w' => e = .returned (.bool true) ∧ ∃ n, w' = w.drewN n := by
  have HA := Lib.hid ha
  have HB := Lib.hid hb
  have hne : ((t.length : Int) != (t.length : Int)) = false := by simp
  clear ha hb
  go_enter Try.func48, Try.ntmps48
  go_wp2_with fail
  go_loopw [5] (fun i wr => ∃ k n : Nat, k ≤ t.length ∧ i = .int .i64 (k : Int) ∧ wr = w.drewN n) (fun i _ => t.length - (intOf i).toNat)
  case atStart => exact ⟨0, 0, Nat.zero_le _, rfl, rfl⟩
  case round =>
    obtain ⟨k, n, hk, rfl, rfl⟩ := hrel
    by_cases hlt : k < t.length
    · obtain ⟨b1, o1, rfl, _, hc1⟩ : ∃ b1 o1, a = some ⟨b1, o1, none⟩ ∧ b1 < w.heap.size ∧ ∀ (i : Nat) (x : LineM), t[i]? = some x →
          w.cell? ⟨b1, o1 + i * 3, none⟩ = some (.string x.acc) ∧ w.cell? ⟨b1, o1 + i * 3 + 1, none⟩ = some (.string x.cur) ∧ w.cell? ⟨b1, o1 + i * 3 + 2, none⟩ = some (.int .i64 x.amt) := by
        rcases HA.out with h | h
        · rw [h] at hlt; simp at hlt
        · exact h
      obtain ⟨b2, o2, rfl, _, hc2⟩ : ∃ b2 o2, b = some ⟨b2, o2, none⟩ ∧ b2 < w.heap.size ∧ ∀ (i : Nat) (x : LineM), t[i]? = some x →
          w.cell? ⟨b2, o2 + i * 3, none⟩ = some (.string x.acc) ∧ w.cell? ⟨b2, o2 + i * 3 + 1, none⟩ = some (.string x.cur) ∧ w.cell? ⟨b2, o2 + i * 3 + 2, none⟩ = some (.int .i64 x.amt) := by
        rcases HB.out with h | h
        · rw [h] at hlt; simp at hlt
        · exact h
      obtain ⟨y, hy⟩ : ∃ y, t[k]? = some y := ⟨t[k], List.getElem?_eq_getElem hlt⟩
      obtain ⟨x0, x1, x2⟩ := hc1 k y hy
      obtain ⟨y0, y1, y2⟩ := hc2 k y hy
      have hi1 : (k : Int) < (t.length : Int) := by omega
      have hi0 : (0 : Int) ≤ (k : Int) := by omega
      clear hc1 hc2 hy
      go_wp2_with fail
      go_quiet (fail)
      go_wp2_with fail
      go_roundw
      case rel => exact ⟨k + 1, _, by omega, by go_num, rfl⟩
      case measure => simp [intOf]; omega
    · go_wp2_with fail
      go_ret
      exact ⟨rfl, _, rfl⟩

set_option maxRecDepth 100000 in
set_option maxHeartbeats 2000000 in
theorem entry_same (x : EntryM) (w : World) (a b : Option Addr) (ca cb : Nat) (ha : LinesAt w a x.lines) (hb : LinesAt w b x.lines) (hm : x.lines.length ≤ 9223372036854775807) :
    Calls Try.prog 14 #[entryV x a ca, entryV x b cb] w fun e w' => e = .returned (.bool true) ∧ Below w.heap.size w w' := by
  obtain ⟨w2, hw2⟩ : ∃ w2, w2 = (w.alloc (.cells #[.string x.ref, .int .i64 x.ent, .int .i64 x.per, .slice a x.lines.length ca] 30)).alloc (.cells #[.string x.ref, .int .i64 x.ent, .int .i64 x.per, .slice b x.lines.length cb] 30) := ⟨_, rfl⟩
  have hbl : Below w.heap.size w w2 := by rw [hw2]; exact ((Below.refl _ _).alloc (Nat.le_refl _) _).alloc (by simp) _
  have hl := lines_same x.lines w2 a b ca cb (ha.below hbl (Nat.le_refl _)) (hb.below hbl (Nat.le_refl _)) hm
  have b1 : w2.heap[w.heap.size]? = some (.cells #[.string x.ref, .int .i64 x.ent, .int .i64 x.per, .slice a x.lines.length ca] 30 (0, 0)) := by
    rw [hw2, Below.heap_alloc _ _ _ (by simp)]; exact heap_new_at rfl _
  have b2 : w2.heap[w.heap.size + 1]? = some (.cells #[.string x.ref, .int .i64 x.ent, .int .i64 x.per, .slice b x.lines.length cb] 30 (0, 0)) := by
    rw [hw2]; exact heap_new_at (by simp) _
  have B1 := Lib.hid b1
  have B2 := Lib.hid b2
  have HBL := Lib.hid hbl
  rw [hw2] at hl
  have HW2 := Lib.hid hw2
  unfold entryV
  clear ha hb hw2 hbl b1 b2
  go_enter Try.func14, Try.ntmps14
  go_wp2_with fail
  refine hl.mono ?_
  rintro e w3 ⟨rfl, n, rfl⟩
  rw [← HW2.out]
  have x0 : (w2.drewN n).cell? ⟨w.heap.size, 0, none⟩ = some (.string x.ref) := cell_of_heap B1.out 0
  have x1 : (w2.drewN n).cell? ⟨w.heap.size, 1, none⟩ = some (.int .i64 x.ent) := cell_of_heap B1.out 1
  have x2 : (w2.drewN n).cell? ⟨w.heap.size, 2, none⟩ = some (.int .i64 x.per) := cell_of_heap B1.out 2
  have y0 : (w2.drewN n).cell? ⟨w.heap.size + 1, 0, none⟩ = some (.string x.ref) := cell_of_heap B2.out 0
  have y1 : (w2.drewN n).cell? ⟨w.heap.size + 1, 1, none⟩ = some (.int .i64 x.ent) := cell_of_heap B2.out 1
  have y2 : (w2.drewN n).cell? ⟨w.heap.size + 1, 2, none⟩ = some (.int .i64 x.per) := cell_of_heap B2.out 2
  have HBN : Hid (Below w.heap.size w (w2.drewN n)) := below_drewN HBL.out _
  generalize w2.drewN n = w4 at *
  clear hl
  go_wp2_with fail
  go_ret
  exact ⟨rfl, HBN.out⟩
end Go.Proofs.Ytldpflijgbcbhaa
