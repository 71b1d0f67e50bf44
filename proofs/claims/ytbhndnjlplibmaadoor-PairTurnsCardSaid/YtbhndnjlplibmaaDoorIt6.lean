/- What match.Fifo answers, and how its rows read. -/
import Derived.Test.YtbhndnjlplibmaaDoorIt4
namespace Go.Proofs.YtbhndnjlplibmaaDoor.mt
open Go.RowKit

def FifoPost (w : World) (its : List ItemM) (e : Ending) (w' : World) : Prop :=
  Below w.heap.size w w' ∧ ∃ sv ov, e = .returned (.tuple #[sv, ov, errV (itemsF its)]) ∧ w'.ownsRow w.heap.size 41 3 sv (setsA its).length ((setsA its).flatMap fifo.setCells) ∧
    w'.ownsRow w.heap.size 40 3 ov (openA its).length ((openA its).flatMap itemCells)
/-- match.Fifo's contract -/
def FifoAll : Prop := ∀ (ao : Option Addr) (cap : Nat) (its : List ItemM) (w : World), ItemsAt w.heap.size w ao its → its.length ≤ 9223372036854775807 →
  Calls Tryd.prog 19 #[.slice ao its.length cap] w (FifoPost w its)

/-- a row of items is items at its address -/
theorem flat3 {α : Type} (f : α → List Value) (hf : ∀ x, (f x).length = 3) : ∀ (l : List α) (i : Nat) (x : α), l[i]? = some x → ∀ j, j < 3 → (l.flatMap f)[i * 3 + j]? = (f x)[j]?
  | [], _, _, h, _, _ => by simp at h
  | a :: r, 0, x, h, j, hj => by
    simp only [List.getElem?_cons_zero, Option.some.injEq] at h
    subst h
    rw [List.flatMap_cons, Nat.zero_mul, Nat.zero_add, List.getElem?_append_left (by rw [hf]; exact hj)]
  | a :: r, i + 1, x, h, j, hj => by
    rw [List.flatMap_cons, List.getElem?_append_right (by rw [hf]; omega), hf, show (i + 1) * 3 + j - 3 = i * 3 + j by omega]
    exact flat3 f hf r i x (by simpa using h) j hj
theorem row_items {w : World} {base : Nat} {its : List ItemM} {v : Value} (h : w.ownsRow base 40 3 v its.length (its.flatMap itemCells)) : ∃ ao cap, v = .slice ao its.length cap ∧ ItemsAt w.heap.size w ao its ∧ its.length ≤ cap := by
  rcases h.2 with ⟨hv, hn⟩ | ⟨g, cap, cur, hv, hg, hh, hnc, _⟩
  · have : its = [] := by
      cases its with
      | nil => rfl
      | cons a r => simp at hn
    subst this
    exact ⟨none, 0, hv, Or.inl rfl, Nat.le_refl _⟩
  · refine ⟨some ⟨g, 0, none⟩, cap, hv, ?_, hnc⟩
    by_cases h0 : its = []
    · exact Or.inl h0
    · refine Or.inr ⟨g, 0, rfl, lt_of_heap hh, fun i x hx => ?_⟩
      have hc := h.cells (g := g) (by rw [hv]; rfl)
      have hf := flat3 itemCells (fun _ => rfl) its i x hx
      have h1 := hc (i * 3) _ ((hf 0 (by omega)).trans rfl)
      have h2 := hc (i * 3 + 1) _ ((hf 1 (by omega)).trans rfl)
      have h3 := hc (i * 3 + 2) _ ((hf 2 (by omega)).trans rfl)
      rw [addr_add] at h1 h2 h3
      exact ⟨h1, h2, h3⟩
def SetsAt (w : World) (ao : Option Addr) (S : List (Nat × Nat × Int)) : Prop :=
  S = [] ∨ ∃ b, ao = some ⟨b, 0, none⟩ ∧ b < w.heap.size ∧ ∀ i s, S[i]? = some s →
    w.cell? ⟨b, i * 3, none⟩ = some (.int .i64 (s.1 : Int)) ∧ w.cell? ⟨b, i * 3 + 1, none⟩ = some (.int .i64 (s.2.1 : Int)) ∧ w.cell? ⟨b, i * 3 + 2, none⟩ = some (.int .i64 s.2.2)
theorem row_sets {w : World} {base : Nat} {S : List (Nat × Nat × Int)} {v : Value} (h : w.ownsRow base 41 3 v S.length (S.flatMap fifo.setCells)) : ∃ ao cap, v = .slice ao S.length cap ∧ SetsAt w ao S ∧ S.length ≤ cap := by
  rcases h.2 with ⟨hv, hn⟩ | ⟨g, cap, cur, hv, hg, hh, hnc, _⟩
  · have : S = [] := by
      cases S with
      | nil => rfl
      | cons a r => simp at hn
    subst this
    exact ⟨none, 0, hv, Or.inl rfl, Nat.le_refl _⟩
  · refine ⟨some ⟨g, 0, none⟩, cap, hv, ?_, hnc⟩
    by_cases h0 : S = []
    · exact Or.inl h0
    · refine Or.inr ⟨g, rfl, lt_of_heap hh, fun i x hx => ?_⟩
      have hc := h.cells (g := g) (by rw [hv]; rfl)
      have hf := flat3 fifo.setCells (fun _ => rfl) S i x hx
      have h1 := hc (i * 3) _ ((hf 0 (by omega)).trans rfl)
      have h2 := hc (i * 3 + 1) _ ((hf 1 (by omega)).trans rfl)
      have h3 := hc (i * 3 + 2) _ ((hf 2 (by omega)).trans rfl)
      rw [addr_add] at h1 h2 h3
      simp only [Nat.zero_add] at h1 h2 h3
      exact ⟨h1, h2, h3⟩
theorem SetsAt.later {w w' : World} {ao : Option Addr} {S : List (Nat × Nat × Int)} (h : SetsAt w ao S) (hb : Below w.heap.size w w') : SetsAt w' ao S := by
  rcases h with h | ⟨b, e, hlt, hc⟩
  · exact Or.inl h
  · refine Or.inr ⟨b, e, Nat.lt_of_lt_of_le hlt hb.size, fun i x hx => ?_⟩
    obtain ⟨h1, h2, h3⟩ := hc i x hx
    exact ⟨(hb.cell (p := ⟨b, _, none⟩) hlt).trans h1, (hb.cell (p := ⟨b, _, none⟩) hlt).trans h2, (hb.cell (p := ⟨b, _, none⟩) hlt).trans h3⟩

/-- an array of three integers is what it is -/
theorem arr3_in (d : Nat) (w : World) (a b c : Int) : (Op.equalIn (d + 1 + 1) 41 (.agg #[.int .i64 a, .int .i64 b, .int .i64 c]) (.agg #[.int .i64 a, .int .i64 b, .int .i64 c])).run Tryd.prog w = .ok true w := by
  have hi := fun x => run_equalIn_int (P := Tryd.prog) w d 3 .i64 .i64 x x Tryd.underlying3
  have hs : (sizeOf 3).run Tryd.prog w = .ok 1 w := by kernel_rfl
  have p0 : (part 3 #[Value.int IntKind.i64 a, Value.int IntKind.i64 b, Value.int IntKind.i64 c] 0).run Tryd.prog w = .ok (.int .i64 a) w := by kernel_rfl
  have p1 : (part 3 #[Value.int IntKind.i64 a, Value.int IntKind.i64 b, Value.int IntKind.i64 c] 1).run Tryd.prog w = .ok (.int .i64 b) w := by kernel_rfl
  have p2 : (part 3 #[Value.int IntKind.i64 a, Value.int IntKind.i64 b, Value.int IntKind.i64 c] 2).run Tryd.prog w = .ok (.int .i64 c) w := by kernel_rfl
  rw [Op.equalIn]
  simp only [Sem.run_bind, run_underlying Tryd.underlying41, Result.andThen_ok, hs]
  rw [Std.Legacy.Range.forIn_eq_forIn_range']
  simp [Std.Legacy.Range.size, List.range', List.forIn_cons, p0, p1, p2, hi, Result.andThen_ok]
theorem arr3_same (w : World) (a b c : Int) : (Op.equalIn 10000 41 (.agg #[.int .i64 a, .int .i64 b, .int .i64 c]) (.agg #[.int .i64 a, .int .i64 b, .int .i64 c])).run Tryd.prog w = .ok true w := arr3_in 9998 w a b c
end Go.Proofs.YtbhndnjlplibmaaDoor.mt
