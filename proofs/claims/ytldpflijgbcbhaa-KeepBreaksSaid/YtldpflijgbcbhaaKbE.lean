/- entryOf walked: the entry of a number. -/
import Derived.Test.YtldpflijgbcbhaaQ5
import Derived.Test.YtldpflijgbcbhaaRowB
import Derived.Laws.Rows
namespace Go.Proofs.Ytldpflijgbcbhaa.lg
open Go.RowKit

def digT (n : Nat) : ByteArray := ⟨(qb.textB (n : Int)).toArray⟩
def refT (n : Nat) : ByteArray := ⟨(101 :: qb.textB (n : Int)).toArray⟩
def entM (n : Nat) : EntryM := ⟨refT n, 1 + (n % 12 : Nat), 1 + (n % 120 : Nat), [⟨⟨#[49, 48]⟩, ⟨#[69, 85, 82]⟩, (n : Int) + 1⟩, ⟨⟨#[50, 48]⟩, ⟨#[69, 85, 82]⟩, -(n : Int) - 1⟩]⟩
theorem ref_cat (n : Nat) : (⟨#[101]⟩ : ByteArray) ++ digT n = refT n := by
  apply ByteArray.ext
  unfold digT refT
  rw [ByteArray.data_append]
  simp
set_option maxRecDepth 100000 in
set_option maxHeartbeats 2000000 in
theorem entryOf_any (n : Nat) (w : World) (hn : n ≤ 1000000) :
    Calls Try.prog 32 #[.int .i64 (n : Int)] w fun e w' => Below w.heap.size w w' ∧ ∃ g, w.heap.size ≤ g ∧ e = .returned (entryV (entM n) (some ⟨g, 0, none⟩) 2) ∧ LinesAt w' (some ⟨g, 0, none⟩) (entM n).lines := by
  obtain ⟨V, hV⟩ : ∃ V, V = w.alloc (.cells #[.string ⟨#[]⟩, .int .i64 0, .int .i64 0, .slice none 0 0] 30) := ⟨_, rfl⟩
  have hbV : Below w.heap.size w V := by rw [hV]; exact (Below.refl _ _).alloc (Nat.le_refl _) _
  have hbox : V.heap[w.heap.size]? = some (.cells #[.string ⟨#[]⟩, .int .i64 0, .int .i64 0, .slice none 0 0] 30 (0, 0)) := by rw [hV]; exact heap_new_at rfl _
  have hdig := qb.digits_any (n : Int) V (by omega) (by omega)
  obtain ⟨D, hD⟩ : ∃ D, D = digT n := ⟨_, rfl⟩
  have hdig : Calls Try.prog 62 #[.int .i64 (n : Int)] V fun e w' => e = .returned (.string D) ∧ Below V.heap.size V w' := by rw [hD]; exact hdig
  obtain ⟨q, hq⟩ : ∃ q, q = w.heap.size := ⟨_, rfl⟩
  rw [← hq] at hbox
  have HV := Lib.hid hV
  have HBV := Lib.hid hbV
  have HBOX := Lib.hid hbox
  have HD := Lib.hid hD
  have HQ := Lib.hid hq
  clear hV hbV hbox hD hq
  go_enter Try.func32, Try.ntmps32
  go_wp2_with fail
  rw [← HV.out, ← HQ.out]
  refine hdig.mono ?_
  rintro e w1 ⟨rfl, hb1⟩
  have hbox1 : w1.heap[q]? = some (.cells #[.string ⟨#[]⟩, .int .i64 0, .int .i64 0, .slice none 0 0] 30 (0, 0)) := (hb1.block q (lt_of_heap HBOX.out)).trans HBOX.out
  have HB1 := Lib.hid hb1
  obtain ⟨a, ha⟩ : ∃ a, a = n % 12 := ⟨_, rfl⟩
  obtain ⟨b, hb⟩ : ∃ b, b = n % 120 := ⟨_, rfl⟩
  have ha1 : (n : Int).tmod 12 = (a : Int) := by rw [ha]; exact Int.ofNat_tmod n 12
  have hb1' : (n : Int).tmod 120 = (b : Int) := by rw [hb]; exact Int.ofNat_tmod n 120
  have ha2 : a < 12 := by omega
  have hb2 : b < 120 := by omega
  have HA := Lib.hid ha
  have HBB := Lib.hid hb
  have hds : D.size ≤ 21 := by
    rw [HD.out]
    have h1 := qb.dig_short (z := (n : Int)) (by omega) (by omega)
    show (qb.textB (n : Int)).toArray.size ≤ 21
    rw [List.size_toArray]
    unfold qb.textB
    split
    · simp
    · rw [List.length_reverse, List.length_append]
      split
      · simp only [List.length_cons, List.length_nil]; omega
      · simp only [List.length_nil]; omega
  obtain ⟨W2, hW2⟩ : ∃ W2, W2 = w1.alloc (.cells #[.string ⟨#[49, 48]⟩, .string ⟨#[69, 85, 82]⟩, .int .i64 ((n : Int) + 1), .string ⟨#[50, 48]⟩, .string ⟨#[69, 85, 82]⟩, .int .i64 (-(n : Int) - 1)] 82) := ⟨_, rfl⟩
  have hb12 : Below w1.heap.size w1 W2 := by rw [hW2]; exact (Below.refl _ _).alloc (Nat.le_refl _) _
  have hln : W2.heap[w1.heap.size]? = some (.cells #[.string ⟨#[49, 48]⟩, .string ⟨#[69, 85, 82]⟩, .int .i64 ((n : Int) + 1), .string ⟨#[50, 48]⟩, .string ⟨#[69, 85, 82]⟩, .int .i64 (-(n : Int) - 1)] 82 (0, 0)) := by rw [hW2]; exact heap_new_at rfl _
  have hbox2 := (hb12.block q (lt_of_heap hbox1)).trans hbox1
  have k0 : W2.cell? ⟨q, 0, none⟩ = some (.string ⟨#[]⟩) := cell_of_heap hbox2 0
  have k1 : W2.cell? ⟨q, 1, none⟩ = some (.int .i64 0) := cell_of_heap hbox2 1
  have k2 : W2.cell? ⟨q, 2, none⟩ = some (.int .i64 0) := cell_of_heap hbox2 2
  have k3 : W2.cell? ⟨q, 3, none⟩ = some (.slice none 0 0) := cell_of_heap hbox2 3
  have f0 := free_of_heap hbox2 0
  have f1 := free_of_heap hbox2 1
  have f2 := free_of_heap hbox2 2
  have f3 := free_of_heap hbox2 3
  have HOUT : Hid (∀ W3, W3 = (((W2.setCell ⟨q, 0, none⟩ (.string (⟨#[101]⟩ ++ D))).setCell ⟨q, 1, none⟩ (.int .i64 (1 + (a : Int)))).setCell ⟨q, 2, none⟩ (.int .i64 (1 + (b : Int)))).setCell ⟨q, 3, none⟩ (.slice (some ⟨w1.heap.size, 0, none⟩) 2 2) →
      W3.heap[q]? = some (.cells #[.string (⟨#[101]⟩ ++ D), .int .i64 (1 + (a : Int)), .int .i64 (1 + (b : Int)), .slice (some ⟨w1.heap.size, 0, none⟩) 2 2] 30 (0, 0)) ∧ Below w.heap.size w W3 ∧ LinesAt W3 (some ⟨w1.heap.size, 0, none⟩) (entM n).lines ∧ w.heap.size ≤ w1.heap.size) := by
    rintro W3 rfl
    have hs1 := HBV.out.size
    have hs2 := HB1.out.size
    have hq := HQ.out
    have hge : w.heap.size ≤ q := by omega
    have hb3 : Below w.heap.size w W2 := HBV.out.trans ((HB1.out.trans (hb12.mono hs2)).mono hs1)
    have hlb : ((((W2.setCell ⟨q, 0, none⟩ (.string (⟨#[101]⟩ ++ D))).setCell ⟨q, 1, none⟩ (.int .i64 (1 + (a : Int)))).setCell ⟨q, 2, none⟩ (.int .i64 (1 + (b : Int)))).setCell ⟨q, 3, none⟩ (.slice (some ⟨w1.heap.size, 0, none⟩) 2 2)).heap[w1.heap.size]? = W2.heap[w1.heap.size]? := by
      have hne : w1.heap.size ≠ q := by have := lt_of_heap hbox1; omega
      rw [Below.heap_setCell _ _ _ _ hne, Below.heap_setCell _ _ _ _ hne, Below.heap_setCell _ _ _ _ hne, Below.heap_setCell _ _ _ _ hne]
    refine ⟨by rw [heap_setCell_same (heap_setCell_same (heap_setCell_same (heap_setCell_same hbox2 _) _) _) _]; rfl, (((hb3.setCell (p := ⟨q, 0, none⟩) hge _).setCell (p := ⟨q, 1, none⟩) hge _).setCell (p := ⟨q, 2, none⟩) hge _).setCell (p := ⟨q, 3, none⟩) hge _, ?_, by omega⟩
    have hl3 := hlb.trans hln
    refine Or.inr ⟨w1.heap.size, 0, rfl, lt_of_heap hl3, fun i x hx => ?_⟩
    match i, hx with
    | 0, hx =>
      simp [entM] at hx
      subst hx
      exact ⟨cell_of_heap hl3 0, cell_of_heap hl3 1, cell_of_heap hl3 2⟩
    | 1, hx =>
      simp [entM] at hx
      subst hx
      exact ⟨cell_of_heap hl3 3, cell_of_heap hl3 4, cell_of_heap hl3 5⟩
  have HW2 := Lib.hid hW2
  rw [hW2] at k0 k1 k2 k3 f0 f1 f2 f3
  clear hdig hb1 ha hb hbox1 hW2 hln hbox2 hb12
  go_wp2_with fail
  rw [← HW2.out]
  obtain ⟨g1, g2, g3, g4⟩ := HOUT.out _ rfl
  have e : Ending.returned (.agg #[.string (⟨#[101]⟩ ++ D), .int .i64 (1 + (a : Int)), .int .i64 (1 + (b : Int)), .slice (some ⟨w1.heap.size, 0, none⟩) 2 2]) = .returned (entryV (entM n) (some ⟨w1.heap.size, 0, none⟩) 2) := by
    rw [HD.out, ref_cat, HA.out, HBB.out]; rfl
  (try simp only [Exit.inBlock, Exit.then])
  refine bodyPost_ret (results_cell_row rfl _ _ q 30 #[.string (⟨#[101]⟩ ++ D), .int .i64 (1 + (a : Int)), .int .i64 (1 + (b : Int)), .slice (some ⟨w1.heap.size, 0, none⟩) 2 2] (0, 0) _ rfl g1 Try.underlying30 rfl (by kernel_rfl)) rfl ?_
  exact ⟨g2, w1.heap.size, g4, e, g3⟩
end Go.Proofs.Ytldpflijgbcbhaa.lg
