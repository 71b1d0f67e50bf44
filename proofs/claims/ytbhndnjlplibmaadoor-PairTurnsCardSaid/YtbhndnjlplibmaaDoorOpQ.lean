/- Balances and pairs as arguments, opened. -/
import Derived.Test.YtbhndnjlplibmaaDoorOpG
import Derived.Test.YtbhndnjlplibmaaDoorLg1
namespace Go.Proofs.YtbhndnjlplibmaaDoor.lg
open Go.ChangeShapes Go.WideShapes Go.ChangeAt Go.RowKit Go.Deep

theorem cellsBl : Tryd.prog.cellsOf 77 = 4 := by kernel_rfl
theorem cellsPr : Tryd.prog.cellsOf 74 = 5 := by kernel_rfl
theorem list5 {α : Type} {l : List α} (h : l.length = 5) : ∃ a b c d e, l = [a, b, c, d, e] := by
  match l, h with
  | [a, b, c, d, e], _ => exact ⟨a, b, c, d, e, rfl⟩
section
variable {H : Type} {enc : TypeId × Value → H} {w : World} {base : Nat} {spare : Nat → Bool} {held : Bool}
theorem open_bal {fuel : Nat} {cs : List Value} {x : DataW H × List MemPlace} (h : DataW.trod enc Tryd.prog w base spare held fuel 77 cs = some x) :
    ∃ y : BalM, cs = [.int .i64 y.ent, .string y.acc, .string y.cur, .int .i64 y.amt] ∧ (-9223372036854775808 ≤ y.ent ∧ y.ent ≤ 9223372036854775807) ∧ (-9223372036854775808 ≤ y.amt ∧ y.amt ≤ 9223372036854775807) := by
  obtain ⟨xs, n, _, rfl, hl, hxl, hf⟩ := DataW.trod_struct Tryd.underlying77 h
  rw [cellsBl] at hl
  obtain ⟨c0, c1, c2, c3, rfl⟩ := list4 hl
  obtain ⟨y0, y1, y2, y3, rfl⟩ := list4 (hxl.trans (show _ = 4 from rfl))
  have k0 := hf 0 _ rfl
  have k1 := hf 1 _ rfl
  have k2 := hf 2 _ rfl
  have k3 := hf 3 _ rfl
  simp [cellsI] at k0
  simp [cellsStr] at k1
  simp [cellsStr] at k2
  simp [cellsI] at k3
  obtain ⟨n0, e0, rfl, w0⟩ := DataW.trod_int Tryd.underlying3 k0
  obtain ⟨s1, e1, rfl, _⟩ := DataW.trod_string Tryd.underlying9 k1
  obtain ⟨s2, e2, rfl, _⟩ := DataW.trod_string Tryd.underlying9 k2
  obtain ⟨n3, e3, rfl, w3⟩ := DataW.trod_int Tryd.underlying3 k3
  simp only [List.cons.injEq, and_true] at e0 e1 e2 e3
  subst e0 e1 e2 e3
  exact ⟨⟨n0, s1, s2, n3⟩, rfl, int_of_wf w0, int_of_wf w3⟩
/-- balances -/
theorem open_balances {fuel : Nat} {cs : List Value} {x : DataW H × List MemPlace} (h : DataW.trod enc Tryd.prog w base spare held fuel 58 cs = some x) :
    ∃ (lao : Option Addr) (lc : Nat) (T : List BalM), cs = [.slice lao T.length lc] ∧ (BalsAt w lao T ∧ ∀ y ∈ T, (-9223372036854775808 ≤ y.ent ∧ y.ent ≤ 9223372036854775807) ∧ (-9223372036854775808 ≤ y.amt ∧ y.amt ≤ 9223372036854775807)) ∧ T.length ≤ lc ∧ lc ≤ maxLen ∧ (T = [] ∨ ∃ el sp, x.1 = .slice el sp ∧ el.length = T.length) := by
  rcases open_slice Tryd.underlying58 h with ⟨rfl, rfl⟩ | ⟨a, len, cap, m, n, D, Pl, rfl, _, hl, hm, hmm, rfl, hi⟩
  · exact ⟨none, 0, [], rfl, ⟨Or.inl rfl, fun y hy => by cases hy⟩, Nat.zero_le _, Nat.zero_le _, Or.inl rfl⟩
  · have hlm : len ≤ m := by rw [hmm]; split <;> omega
    rw [cellsBl] at hi
    have hone : ∀ i, i < len → ∃ y : BalM, w.cells? base (a.add (i * 4)) 4 = some [.int .i64 y.ent, .string y.acc, .string y.cur, .int .i64 y.amt] ∧ (-9223372036854775808 ≤ y.ent ∧ y.ent ≤ 9223372036854775807) ∧ (-9223372036854775808 ≤ y.amt ∧ y.amt ≤ 9223372036854775807) := fun i h' => by
      obtain ⟨cs', h1, h2⟩ := hi i (by omega)
      obtain ⟨y, rfl, hy⟩ := open_bal h2
      exact ⟨y, h1, hy⟩
    obtain ⟨f, hf⟩ := choose_lt hone
    have hlen : ((List.range len).map f).length = len := by simp
    refine ⟨some a, cap, (List.range len).map f, by rw [hlen], ⟨?_, fun y hy => ?_⟩, by rw [hlen]; exact hl, hm, Or.inr ⟨_, _, rfl, by simp⟩⟩
    · rcases Nat.eq_zero_or_pos len with h0 | h0
      · subst h0; exact Or.inl rfl
      · have h00 := (hf 0 h0).1
        rw [Nat.zero_mul] at h00
        obtain ⟨b, off, rfl, hb⟩ := spot_none h00 (by omega)
        refine Or.inr ⟨b, off, rfl, hb, fun i y hy => ?_⟩
        obtain ⟨hlt, rfl⟩ := range_get f len i y hy
        obtain ⟨_, hc⟩ := place_cells (hf i hlt).1
        exact ⟨hc 0 (by omega), hc 1 (by omega), hc 2 (by omega), hc 3 (by omega)⟩
    · obtain ⟨i, hi', rfl⟩ := List.mem_map.1 hy
      exact (hf i (List.mem_range.1 hi')).2
end
end Go.Proofs.YtbhndnjlplibmaaDoor.lg
