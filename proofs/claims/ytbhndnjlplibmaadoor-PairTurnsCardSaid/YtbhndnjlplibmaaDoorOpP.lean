/- Pairs as an argument, opened. -/
import Derived.Test.YtbhndnjlplibmaaDoorOpQ
namespace Go.Proofs.YtbhndnjlplibmaaDoor.lg
open Go.ChangeShapes Go.WideShapes Go.ChangeAt Go.RowKit Go.Deep

instance : Inhabited PairM := ⟨⟨0, 0, ⟨#[]⟩, ⟨#[]⟩, ⟨#[]⟩⟩⟩
section
variable {H : Type} {enc : TypeId × Value → H} {w : World} {base : Nat} {spare : Nat → Bool} {held : Bool}
theorem open_pair {fuel : Nat} {cs : List Value} {x : DataW H × List MemPlace} (h : DataW.trod enc Tryd.prog w base spare held fuel 74 cs = some x) :
    ∃ y : PairM, cs = [.int .i64 y.a, .int .i64 y.b, .string y.one, .string y.other, .string y.diff] := by
  obtain ⟨xs, n, _, rfl, hl, hxl, hf⟩ := DataW.trod_struct Tryd.underlying74 h
  rw [cellsPr] at hl
  obtain ⟨c0, c1, c2, c3, c4, rfl⟩ := list5 hl
  obtain ⟨y0, y1, y2, y3, y4, rfl⟩ := list5 (hxl.trans (show _ = 5 from rfl))
  have k0 := hf 0 _ rfl
  have k1 := hf 1 _ rfl
  have k2 := hf 2 _ rfl
  have k3 := hf 3 _ rfl
  have k4 := hf 4 _ rfl
  simp [cellsI] at k0
  simp [cellsI] at k1
  simp [cellsStr] at k2
  simp [cellsStr] at k3
  simp [cellsStr] at k4
  obtain ⟨n0, e0, rfl, w0⟩ := DataW.trod_int Tryd.underlying3 k0
  obtain ⟨n1, e1, rfl, w1⟩ := DataW.trod_int Tryd.underlying3 k1
  obtain ⟨s2, e2, rfl, _⟩ := DataW.trod_string Tryd.underlying9 k2
  obtain ⟨s3, e3, rfl, _⟩ := DataW.trod_string Tryd.underlying9 k3
  obtain ⟨s4, e4, rfl, _⟩ := DataW.trod_string Tryd.underlying9 k4
  simp only [List.cons.injEq, and_true] at e0 e1 e2 e3 e4
  subst e0 e1 e2 e3 e4
  exact ⟨⟨n0, n1, s2, s3, s4⟩, rfl⟩
/-- pairs -/
theorem open_pairs {fuel : Nat} {cs : List Value} {x : DataW H × List MemPlace} (h : DataW.trod enc Tryd.prog w base spare held fuel 72 cs = some x) :
    ∃ (lao : Option Addr) (lc : Nat) (T : List PairM), cs = [.slice lao T.length lc] ∧ PairsAt w lao T ∧ T.length ≤ lc ∧ lc ≤ maxLen ∧ (T = [] ∨ ∃ el sp, x.1 = .slice el sp ∧ el.length = T.length) := by
  rcases open_slice Tryd.underlying72 h with ⟨rfl, rfl⟩ | ⟨a, len, cap, m, n, D, Pl, rfl, _, hl, hm, hmm, rfl, hi⟩
  · exact ⟨none, 0, [], rfl, Or.inl rfl, Nat.zero_le _, Nat.zero_le _, Or.inl rfl⟩
  · have hlm : len ≤ m := by rw [hmm]; split <;> omega
    rw [cellsPr] at hi
    have hone : ∀ i, i < len → ∃ y : PairM, w.cells? base (a.add (i * 5)) 5 = some [.int .i64 y.a, .int .i64 y.b, .string y.one, .string y.other, .string y.diff] := fun i h' => by
      obtain ⟨cs', h1, h2⟩ := hi i (by omega)
      obtain ⟨y, rfl⟩ := open_pair h2
      exact ⟨y, h1⟩
    obtain ⟨f, hf⟩ := choose_lt hone
    have hlen : ((List.range len).map f).length = len := by simp
    refine ⟨some a, cap, (List.range len).map f, by rw [hlen], ?_, by rw [hlen]; exact hl, hm, Or.inr ⟨_, _, rfl, by simp⟩⟩
    rcases Nat.eq_zero_or_pos len with h0 | h0
    · subst h0; exact Or.inl rfl
    · have h00 := hf 0 h0
      rw [Nat.zero_mul] at h00
      obtain ⟨b, off, rfl, hb⟩ := spot_none h00 (by omega)
      refine Or.inr ⟨b, off, rfl, hb, fun i y hy => ?_⟩
      obtain ⟨hlt, rfl⟩ := range_get f len i y hy
      obtain ⟨_, hc⟩ := place_cells (hf i hlt)
      exact ⟨hc 0 (by omega), hc 1 (by omega), hc 2 (by omega), hc 3 (by omega), hc 4 (by omega)⟩
end
end Go.Proofs.YtbhndnjlplibmaaDoor.lg
