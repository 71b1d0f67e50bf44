/- Entries as arguments, opened; what is in them is in bounds. -/
import Derived.Test.YtbhndnjlplibmaaOpG
import Derived.Test.YtbhndnjlplibmaaEn1
namespace Go.Proofs.Ytbhndnjlplibmaa.lg
open Go.ChangeShapes Go.WideShapes Go.ChangeAt Go.RowKit Go.Deep

theorem cellsLn : Try.prog.cellsOf 81 = 3 := by kernel_rfl
theorem cellsEn : Try.prog.cellsOf 50 = 4 := by kernel_rfl
theorem cellsLs : Try.prog.cellsOf 48 = 1 := by kernel_rfl
def LineM.inMax (x : LineM) : Prop := x.acc.size ≤ maxLen ∧ x.cur.size ≤ maxLen ∧ -9223372036854775808 ≤ x.amt ∧ x.amt ≤ 9223372036854775807
def EntryM.inMax (x : EntryM) : Prop := x.ref.size ≤ maxLen ∧ (-9223372036854775808 ≤ x.ent ∧ x.ent ≤ 9223372036854775807) ∧ (-9223372036854775808 ≤ x.per ∧ x.per ≤ 9223372036854775807) ∧ x.lines.length ≤ maxLen ∧ ∀ y ∈ x.lines, LineM.inMax y
theorem ok_of_max {x : EntryM} (h : EntryM.inMax x) : entOk x := fun l hl => ⟨h.2.1, (h.2.2.2.2 l hl).1, (h.2.2.2.2 l hl).2.1⟩
section
variable {H : Type} {enc : TypeId × Value → H} {w : World} {base : Nat} {spare : Nat → Bool} {held : Bool}
theorem open_line {fuel : Nat} {cs : List Value} {x : DataW H × List MemPlace} (h : DataW.trod enc Try.prog w base spare held fuel 81 cs = some x) :
    ∃ y : LineM, cs = [.string y.acc, .string y.cur, .int .i64 y.amt] ∧ LineM.inMax y := by
  obtain ⟨xs, n, _, rfl, hl, hxl, hf⟩ := DataW.trod_struct Try.underlying81 h
  rw [cellsLn] at hl
  obtain ⟨c0, c1, c2, rfl⟩ := list3 hl
  obtain ⟨y0, y1, y2, rfl⟩ := list3 (hxl.trans (show _ = 3 from rfl))
  have k0 := hf 0 _ rfl
  have k1 := hf 1 _ rfl
  have k2 := hf 2 _ rfl
  simp [cellsStr] at k0
  simp [cellsStr] at k1
  simp [cellsI] at k2
  obtain ⟨s0, e0, rfl, m0⟩ := DataW.trod_string Try.underlying9 k0
  obtain ⟨s1, e1, rfl, m1⟩ := DataW.trod_string Try.underlying9 k1
  obtain ⟨n2, e2, rfl, w2⟩ := DataW.trod_int Try.underlying3 k2
  simp only [List.cons.injEq, and_true] at e0 e1 e2
  subst e0 e1 e2
  exact ⟨⟨s0, s1, n2⟩, rfl, m0, m1, int_of_wf w2⟩
theorem open_lines {fuel : Nat} {cs : List Value} {x : DataW H × List MemPlace} (h : DataW.trod enc Try.prog w base spare held fuel 48 cs = some x) :
    ∃ (lao : Option Addr) (lc : Nat) (T : List LineM), cs = [.slice lao T.length lc] ∧ LinesAt w lao T ∧ T.length ≤ maxLen ∧ ∀ y ∈ T, LineM.inMax y := by
  rcases open_slice Try.underlying48 h with ⟨rfl, rfl⟩ | ⟨a, len, cap, m, n, D, Pl, rfl, _, hl, hm, hmm, rfl, hi⟩
  · exact ⟨none, 0, [], rfl, Or.inl rfl, Nat.zero_le _, fun y hy => by cases hy⟩
  · have hlm : len ≤ m := by rw [hmm]; split <;> omega
    rw [cellsLn] at hi
    have hone : ∀ i, i < len → ∃ y : LineM, w.cells? base (a.add (i * 3)) 3 = some [.string y.acc, .string y.cur, .int .i64 y.amt] ∧ LineM.inMax y := fun i h' => by
      obtain ⟨cs', h1, h2⟩ := hi i (by omega)
      obtain ⟨y, rfl, hy⟩ := open_line h2
      exact ⟨y, h1, hy⟩
    obtain ⟨f, hf⟩ := choose_lt hone
    have hlen : ((List.range len).map f).length = len := by simp
    refine ⟨some a, cap, (List.range len).map f, by rw [hlen], ?_, by rw [hlen]; omega, fun y hy => ?_⟩
    · rcases Nat.eq_zero_or_pos len with h0 | h0
      · subst h0; exact Or.inl rfl
      · have h00 := (hf 0 h0).1
        rw [Nat.zero_mul] at h00
        obtain ⟨b, off, rfl, hb⟩ := spot_none h00 (by omega)
        refine Or.inr ⟨b, off, rfl, hb, fun i y hy => ?_⟩
        obtain ⟨hlt, rfl⟩ := range_get f len i y hy
        obtain ⟨_, hc⟩ := place_cells (hf i hlt).1
        exact ⟨hc 0 (by omega), hc 1 (by omega), hc 2 (by omega)⟩
    · obtain ⟨i, hi', rfl⟩ := List.mem_map.1 hy
      exact (hf i (List.mem_range.1 hi')).2
theorem open_entry {fuel : Nat} {cs : List Value} {x : DataW H × List MemPlace} (h : DataW.trod enc Try.prog w base spare held fuel 50 cs = some x) :
    ∃ (y : EntryM) (lao : Option Addr) (lc : Nat), cs = [.string y.ref, .int .i64 y.ent, .int .i64 y.per, .slice lao y.lines.length lc] ∧ LinesAt w lao y.lines ∧ EntryM.inMax y := by
  obtain ⟨xs, n, _, rfl, hl, hxl, hf⟩ := DataW.trod_struct Try.underlying50 h
  rw [cellsEn] at hl
  obtain ⟨c0, c1, c2, c3, rfl⟩ := list4 hl
  obtain ⟨y0, y1, y2, y3, rfl⟩ := list4 (hxl.trans (show _ = 4 from rfl))
  have k0 := hf 0 _ rfl
  have k1 := hf 1 _ rfl
  have k2 := hf 2 _ rfl
  have k3 := hf 3 _ rfl
  simp [cellsStr] at k0
  simp [cellsI] at k1
  simp [cellsI] at k2
  simp [cellsLs] at k3
  obtain ⟨s0, e0, rfl, m0⟩ := DataW.trod_string Try.underlying9 k0
  obtain ⟨n1, e1, rfl, w1⟩ := DataW.trod_int Try.underlying3 k1
  obtain ⟨n2, e2, rfl, w2⟩ := DataW.trod_int Try.underlying3 k2
  obtain ⟨lao, lc, T, e3, hT, hm, hg⟩ := open_lines k3
  simp only [List.cons.injEq, and_true] at e0 e1 e2 e3
  subst e0 e1 e2 e3
  exact ⟨⟨s0, n1, n2, T⟩, lao, lc, rfl, hT, m0, int_of_wf w1, int_of_wf w2, hm, hg⟩
end
set_option maxRecDepth 100000 in
/-- entries -/
theorem open_entries {H : Type} {enc : TypeId × Value → H} {W : World} {base : Nat} {v : Value} {d : DataW H} {p : List MemPlace} (hv : Value.okWide Try.prog W .any base 46 v) (h : DataW.Trod enc Try.prog W 0 (fun _ => true) true 46 v d p) :
    ∃ (ao : Option Addr) (cap : Nat) (T : List EntryM), v = .slice ao T.length cap ∧ EntsAt W ao T ∧ (∀ y ∈ T, EntryM.inMax y) ∧ T.length ≤ maxLen := by
  obtain ⟨a0, len0, cap0, rfl⟩ := okWide_slice Try.underlying46 hv
  obtain ⟨fuel, hf⟩ := h
  rcases open_slice Try.underlying46 hf with ⟨hcs, _⟩ | ⟨a, len, cap, m, n, D, Pl, hcs, _, hl, hm, hmm, _, hi⟩
  · simp [Value.cells] at hcs
    obtain ⟨rfl, rfl, rfl⟩ := hcs
    exact ⟨none, 0, [], rfl, Or.inl rfl, fun y hy => (by cases hy), Nat.zero_le _⟩
  · simp [Value.cells] at hcs
    obtain ⟨rfl, rfl, rfl⟩ := hcs
    have hlm : len0 ≤ m := by rw [hmm]; split <;> omega
    rw [cellsEn] at hi
    have hone : ∀ i, i < len0 → ∃ y : EntryM, ∃ lao lc, W.cells? 0 (a.add (i * 4)) 4 = some [.string y.ref, .int .i64 y.ent, .int .i64 y.per, .slice lao y.lines.length lc] ∧ LinesAt W lao y.lines ∧ EntryM.inMax y := fun i h' => by
      obtain ⟨cs', h1, h2⟩ := hi i (by omega)
      obtain ⟨y, lao, lc, rfl, hy⟩ := open_entry h2
      exact ⟨y, lao, lc, h1, hy⟩
    obtain ⟨f, hf⟩ := choose_lt hone
    have hlen : ((List.range len0).map f).length = len0 := by simp
    refine ⟨some a, cap0, (List.range len0).map f, by rw [hlen], ?_, fun y hy => ?_, by rw [hlen]; exact Nat.le_trans hl hm⟩
    · rcases Nat.eq_zero_or_pos len0 with h0 | h0
      · subst h0; exact Or.inl rfl
      · obtain ⟨lao0, lc0, h00, _⟩ := hf 0 h0
        rw [Nat.zero_mul] at h00
        obtain ⟨b, off, rfl, hb⟩ := spot_none h00 (by omega)
        refine Or.inr ⟨b, off, rfl, hb, fun i y hy => ?_⟩
        obtain ⟨hlt, rfl⟩ := range_get f len0 i y hy
        obtain ⟨lao, lc, h1, h2, _⟩ := hf i hlt
        obtain ⟨_, hc⟩ := place_cells h1
        exact ⟨lao, lc, hc 0 (by omega), hc 1 (by omega), hc 2 (by omega), hc 3 (by omega), h2⟩
    · obtain ⟨i, hi', rfl⟩ := List.mem_map.1 hy
      obtain ⟨_, _, _, _, g⟩ := hf i (List.mem_range.1 hi')
      exact g
end Go.Proofs.Ytbhndnjlplibmaa.lg
