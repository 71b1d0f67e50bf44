/- daylaw5.two: an entry of two lines. -/
import Derived.Test.YtldpflijgbcbhaaFent
namespace Go.Proofs.Ytldpflijgbcbhaa
open Go.RowKit

def eur : ByteArray := ⟨#[69, 85, 82]⟩
def twoM (ref : ByteArray) (ent per : Int) (to frm : ByteArray) (n : Int) : EntryM := ⟨ref, ent, per, [⟨to, eur, n⟩, ⟨frm, eur, -n⟩]⟩
def TwoPost (w : World) (x : EntryM) (e : Ending) (w' : World) : Prop := ∃ lao, e = .returned (entryV x lao 2) ∧ LinesAt w' lao x.lines ∧ Below w.heap.size w w'

set_option maxRecDepth 100000 in
set_option maxHeartbeats 2000000 in
theorem two_any (ref to frm : ByteArray) (ent per n : Int) (w : World) (h0 : 0 ≤ n) (h1 : n ≤ 1000000) :
    Calls Try.prog 12 #[.string ref, .int .i64 ent, .int .i64 per, .string to, .string frm, .int .i64 n] w (TwoPost w (twoM ref ent per to frm n)) := by
  go_enter Try.func12, Try.ntmps12
  go_wp2_with fail
  refine bodyPost_ret (v := entryV (twoM ref ent per to frm n) (some ⟨w.heap.size + 1, 0, none⟩) 2) (by simp [results, Try.results12, go_sem, entryV, twoM]) rfl ⟨_, rfl, Or.inr ⟨w.heap.size + 1, 0, rfl, by simp, fun i x hx => ?_⟩, ((Below.refl _ _).alloc (Nat.le_refl _) _).alloc (by simp) _⟩
  have hh := heap_new_at (w := w.alloc (.cells #[.string ref, .int .i64 ent, .int .i64 per, .slice (some ⟨w.heap.size + 1, 0, none⟩) 2 2] 30)) (n := w.heap.size + 1) (by simp) (.cells #[.string to, .string eur, .int .i64 n, .string frm, .string eur, .int .i64 (-n)] 82)
  match i, hx with
  | 0, hx =>
    simp only [twoM, List.getElem?_cons_zero, Option.some.injEq] at hx
    subst hx
    exact ⟨cell_of_heap hh 0, cell_of_heap hh 1, cell_of_heap hh 2⟩
  | 1, hx =>
    simp only [twoM, List.getElem?_cons_succ, List.getElem?_cons_zero, Option.some.injEq] at hx
    subst hx
    exact ⟨cell_of_heap hh 3, cell_of_heap hh 4, cell_of_heap hh 5⟩
  | i + 2, hx => simp [twoM] at hx
end Go.Proofs.Ytldpflijgbcbhaa
