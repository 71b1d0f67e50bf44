/- An entry as an argument, opened; a nil slice of lines is nil. -/
import Derived.Test.YtbhndnjlplibmaaDoorOpS
namespace Go.Proofs.YtbhndnjlplibmaaDoor.lg
open Go.ChangeShapes Go.WideShapes Go.ChangeAt Go.RowKit Go.Deep

section
variable {H : Type} {enc : TypeId × Value → H} {w : World} {base : Nat} {spare : Nat → Bool} {held : Bool}
theorem open_linesN {fuel : Nat} {cs : List Value} {x : DataW H × List MemPlace} (h : DataW.trod enc Tryd.prog w base spare held fuel 79 cs = some x) :
    ∃ (lao : Option Addr) (lc : Nat) (T : List LineM), (lao = none → lc = 0) ∧ cs = [.slice lao T.length lc] ∧ LinesAt w lao T ∧ T.length ≤ maxLen ∧ ∀ y ∈ T, LineM.inMax y := by
  rcases open_slice Tryd.underlying79 h with ⟨rfl, rfl⟩ | ⟨a, len, cap, m, n, D, Pl, rfl, _, hl, hm, hmm, rfl, hi⟩
  · exact ⟨none, 0, [], fun _ => rfl, rfl, Or.inl rfl, Nat.zero_le _, fun y hy => by cases hy⟩
  · have hlm : len ≤ m := by rw [hmm]; split <;> omega
    rw [cellsLn] at hi
    have hone : ∀ i, i < len → ∃ y : LineM, w.cells? base (a.add (i * 3)) 3 = some [.string y.acc, .string y.cur, .int .i64 y.amt] ∧ LineM.inMax y := fun i h' => by
      obtain ⟨cs', h1, h2⟩ := hi i (by omega)
      obtain ⟨y, rfl, hy⟩ := open_line h2
      exact ⟨y, h1, hy⟩
    obtain ⟨f, hf⟩ := choose_lt hone
    have hlen : ((List.range len).map f).length = len := by simp
    refine ⟨some a, cap, (List.range len).map f, (fun h => by cases h), by rw [hlen], ?_, by rw [hlen]; omega, fun y hy => ?_⟩
    · rcases Nat.eq_zero_or_pos len with h0 | h0
      · subst h0; exact Or.inl rfl
      · have h00 := (hf 0 h0).1
        rw [Nat.zero_mul] at h00
        obtain ⟨b, off, rfl, hb⟩ := spot_none h00 (by omega)
        refine Or.inr ⟨b, off, rfl, hb, fun i y hy => ?_⟩
        obtain ⟨hlt, rfl⟩ := range_get f len i y hy
        obtain ⟨_, hc⟩ := place_cells (hf i hlt).1
        exact ⟨hc 0 (by omega), hc 1 (by omega), hc 2 (by omega)⟩
    · obtain ⟨i, hi', rfl⟩ := List.mem_map.1 hy
      exact (hf i (List.mem_range.1 hi')).2
theorem open_entryN {fuel : Nat} {cs : List Value} {x : DataW H × List MemPlace} (h : DataW.trod enc Tryd.prog w base spare held fuel 81 cs = some x) :
    ∃ (y : EntryM) (lao : Option Addr) (lc : Nat), (lao = none → lc = 0) ∧ cs = [.string y.ref, .int .i64 y.ent, .int .i64 y.per, .slice lao y.lines.length lc] ∧ LinesAt w lao y.lines ∧ EntryM.inMax y := by
  obtain ⟨xs, n, _, rfl, hl, hxl, hf⟩ := DataW.trod_struct Tryd.underlying81 h
  rw [cellsEn] at hl
  obtain ⟨c0, c1, c2, c3, rfl⟩ := list4 hl
  obtain ⟨y0, y1, y2, y3, rfl⟩ := list4 (hxl.trans (show _ = 4 from rfl))
  have k0 := hf 0 _ rfl
  have k1 := hf 1 _ rfl
  have k2 := hf 2 _ rfl
  have k3 := hf 3 _ rfl
  simp [cellsStr] at k0
  simp [cellsI] at k1
  simp [cellsI] at k2
  simp [cellsLs] at k3
  obtain ⟨s0, e0, rfl, m0⟩ := DataW.trod_string Tryd.underlying9 k0
  obtain ⟨n1, e1, rfl, w1⟩ := DataW.trod_int Tryd.underlying3 k1
  obtain ⟨n2, e2, rfl, w2⟩ := DataW.trod_int Tryd.underlying3 k2
  obtain ⟨lao, lc, T, hN, e3, hT, hm, hg⟩ := open_linesN k3
  simp only [List.cons.injEq, and_true] at e0 e1 e2 e3
  subst e0 e1 e2 e3
  exact ⟨⟨s0, n1, n2, T⟩, lao, lc, hN, rfl, hT, m0, int_of_wf w1, int_of_wf w2, hm, hg⟩
end
end Go.Proofs.YtbhndnjlplibmaaDoor.lg
