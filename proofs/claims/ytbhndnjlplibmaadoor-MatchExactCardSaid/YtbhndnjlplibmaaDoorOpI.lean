/- Items as an argument, opened. -/
import Derived.Test.YtbhndnjlplibmaaDoorOpG
import Derived.Test.YtbhndnjlplibmaaDoorIt1
namespace Go.Proofs.YtbhndnjlplibmaaDoor.mt
open Go.ChangeShapes Go.WideShapes Go.ChangeAt Go.RowKit Go.Deep

theorem cellsItm : Tryd.prog.cellsOf 40 = 3 := by kernel_rfl
section
variable {H : Type} {enc : TypeId × Value → H} {w : World} {base : Nat} {spare : Nat → Bool} {held : Bool}
theorem open_item {fuel : Nat} {cs : List Value} {x : DataW H × List MemPlace} (h : DataW.trod enc Tryd.prog w base spare held fuel 40 cs = some x) :
    ∃ y : ItemM, cs = [.string y.ref, .int .i64 y.per, .int .i64 y.amt] := by
  obtain ⟨xs, n, _, rfl, hl, hxl, hf⟩ := DataW.trod_struct Tryd.underlying40 h
  rw [cellsItm] at hl
  obtain ⟨c0, c1, c2, rfl⟩ := list3 hl
  obtain ⟨y0, y1, y2, rfl⟩ := list3 (hxl.trans (show _ = 3 from rfl))
  have k0 := hf 0 _ rfl
  have k1 := hf 1 _ rfl
  have k2 := hf 2 _ rfl
  simp [cellsStr] at k0
  simp [cellsI] at k1
  simp [cellsI] at k2
  obtain ⟨n0, e0, rfl, w0⟩ := DataW.trod_string Tryd.underlying9 k0
  obtain ⟨n1, e1, rfl, w1⟩ := DataW.trod_int Tryd.underlying3 k1
  obtain ⟨n2, e2, rfl, w2⟩ := DataW.trod_int Tryd.underlying3 k2
  simp only [List.cons.injEq, and_true] at e0 e1 e2
  subst e0 e1 e2
  exact ⟨⟨n0, n1, n2⟩, rfl⟩
/-- items -/
theorem open_items {fuel : Nat} {cs : List Value} {x : DataW H × List MemPlace} (h : DataW.trod enc Tryd.prog w base spare held fuel 35 cs = some x) :
    ∃ (lao : Option Addr) (lc : Nat) (T : List ItemM), cs = [.slice lao T.length lc] ∧ ItemsAt w.heap.size w lao T ∧ T.length ≤ lc ∧ lc ≤ maxLen ∧ (T = [] ∨ ∃ el sp, x.1 = .slice el sp ∧ el.length = T.length) := by
  rcases open_slice Tryd.underlying35 h with ⟨rfl, rfl⟩ | ⟨a, len, cap, m, n, D, Pl, rfl, _, hl, hm, hmm, rfl, hi⟩
  · exact ⟨none, 0, [], rfl, Or.inl rfl, Nat.zero_le _, Nat.zero_le _, Or.inl rfl⟩
  · have hlm : len ≤ m := by rw [hmm]; split <;> omega
    rw [cellsItm] at hi
    have hone : ∀ i, i < len → ∃ y : ItemM, w.cells? base (a.add (i * 3)) 3 = some [.string y.ref, .int .i64 y.per, .int .i64 y.amt] := fun i h' => by
      obtain ⟨cs', h1, h2⟩ := hi i (by omega)
      obtain ⟨y, rfl⟩ := open_item h2
      exact ⟨y, h1⟩
    obtain ⟨f, hf⟩ := choose_lt hone
    have hlen : ((List.range len).map f).length = len := by simp
    refine ⟨some a, cap, (List.range len).map f, by rw [hlen], ?_, by rw [hlen]; exact hl, hm, Or.inr ⟨_, _, rfl, by simp⟩⟩
    rcases Nat.eq_zero_or_pos len with h0 | h0
    · subst h0; exact Or.inl rfl
    · have h00 := hf 0 h0
      rw [Nat.zero_mul] at h00
      obtain ⟨b, off, rfl, hb⟩ := spot_none h00 (by omega)
      refine Or.inr ⟨b, off, rfl, hb, fun i y hy => ?_⟩
      obtain ⟨hlt, rfl⟩ := range_get f len i y hy
      obtain ⟨_, hc⟩ := place_cells (hf i hlt)
      exact ⟨hc 0 (by omega), hc 1 (by omega), hc 2 (by omega)⟩
end
end Go.Proofs.YtbhndnjlplibmaaDoor.mt
