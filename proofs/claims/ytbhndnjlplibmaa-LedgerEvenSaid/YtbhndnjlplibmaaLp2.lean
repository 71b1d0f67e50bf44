/- LedgerParts walked. -/
import Derived.Test.YtbhndnjlplibmaaLp1
import Derived.Test.YtbhndnjlplibmaaLo2
import Derived.Laws.Rows
namespace Go.Proofs.Ytbhndnjlplibmaa.lg
open Go.RowKit

def tA : ByteArray := ⟨#[97]⟩
def t10 : ByteArray := ⟨#[49, 48]⟩
def t20 : ByteArray := ⟨#[50, 48]⟩
set_option maxRecDepth 100000 in
theorem two_any (w : World) : Calls Try.prog 16 #[.string tA, .int .i64 2, .int .i64 3, .string t10, .string t20, .int .i64 5] w fun e w' => Below w.heap.size w w' ∧ ∃ g, e = .returned (.agg #[.string tA, .int .i64 2, .int .i64 3, .slice (some ⟨g, 0, none⟩) 2 2]) ∧ w'.heap[g]? = some (.cells #[.string t10, .string tE, .int .i64 5, .string t20, .string tE, .int .i64 (-5)] 81 (0, 0)) := by
  unfold tA t10 t20 tE
  obtain ⟨W, hW⟩ : ∃ W, W = (w.alloc (.cells #[.string ⟨#[97]⟩, .int .i64 2, .int .i64 3, .slice (some ⟨w.heap.size + 1, 0, none⟩) 2 2] 50)).alloc (.cells #[.string ⟨#[49, 48]⟩, .string ⟨#[69, 85, 82]⟩, .int .i64 5, .string ⟨#[50, 48]⟩, .string ⟨#[69, 85, 82]⟩, .int .i64 (-5)] 81) := ⟨_, rfl⟩
  have HB : Hid (Below w.heap.size w W) := by show Below _ _ _; rw [hW]; exact ((Below.refl _ _).alloc (Nat.le_refl _) _).alloc (by simp) _
  have h1 : W.heap[w.heap.size]? = some (.cells #[.string ⟨#[97]⟩, .int .i64 2, .int .i64 3, .slice (some ⟨w.heap.size + 1, 0, none⟩) 2 2] 50 (0, 0)) := by rw [hW]; exact ((MapKept.heap_alloc _ _).2 _ (by simp)).trans (heap_new_at rfl _)
  have H2 : Hid (W.heap[w.heap.size + 1]? = some (.cells #[.string ⟨#[49, 48]⟩, .string ⟨#[69, 85, 82]⟩, .int .i64 5, .string ⟨#[50, 48]⟩, .string ⟨#[69, 85, 82]⟩, .int .i64 (-5)] 81 (0, 0))) := by show _ = _; rw [hW]; exact heap_new_at (by simp) _
  have k0 : W.cell? ⟨w.heap.size, 0, none⟩ = some (.string ⟨#[97]⟩) := cell_of_heap h1 0
  have k1 : W.cell? ⟨w.heap.size, 1, none⟩ = some (.int .i64 2) := cell_of_heap h1 1
  have k2 : W.cell? ⟨w.heap.size, 2, none⟩ = some (.int .i64 3) := cell_of_heap h1 2
  have k3 : W.cell? ⟨w.heap.size, 3, none⟩ = some (.slice (some ⟨w.heap.size + 1, 0, none⟩) 2 2) := cell_of_heap h1 3
  have HW := Lib.hid hW
  have H1 := Lib.hid h1
  clear hW h1
  go_enter Try.func16, Try.ntmps16
  go_wp2_with fail
  rw [← HW.out]
  (try simp only [Exit.inBlock, Exit.then])
  refine bodyPost_ret (results_cell_row rfl _ W w.heap.size 50 #[.string ⟨#[97]⟩, .int .i64 2, .int .i64 3, .slice (some ⟨w.heap.size + 1, 0, none⟩) 2 2] (0, 0) _ rfl H1.out Try.underlying50 rfl (by kernel_rfl)) rfl ?_
  exact ⟨HB.out, _, rfl, H2.out⟩
end Go.Proofs.Ytbhndnjlplibmaa.lg
