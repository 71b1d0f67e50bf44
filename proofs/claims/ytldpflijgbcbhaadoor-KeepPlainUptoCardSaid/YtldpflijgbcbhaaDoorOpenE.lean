/- Arguments opened: entries, and what the bound gives of them. -/
import Derived.Test.YtldpflijgbcbhaaDoorRowB
import Derived.Test.YtldpflijgbcbhaaDoorRows
import Derived.OpenShut
import Derived.Deep.Slices
import Derived.Deep.Fields
namespace Go.Proofs.YtldpflijgbcbhaaDoor
open Go.ChangeShapes Go.WideShapes Go.ChangeAt Go.RowKit Go.Deep

theorem cellsLn : Tryd.prog.cellsOf 99 = 3 := by kernel_rfl
theorem cellsEn : Tryd.prog.cellsOf 25 = 4 := by kernel_rfl
theorem cellsStr : Tryd.prog.cellsOf 9 = 1 := by kernel_rfl
theorem cellsI : Tryd.prog.cellsOf 3 = 1 := by kernel_rfl
theorem cellsLs : Tryd.prog.cellsOf 23 = 1 := by kernel_rfl

theorem bulk_mem {H : Type} {d : DataW H} {l : List (DataW H)} (h : d ∈ l) : Rows.uptoBulk d ≤ Rows.uptoBulkAll l := by
  induction l with
  | nil => cases h
  | cons x r ih =>
    simp only [Rows.uptoBulkAll]
    rcases List.mem_cons.1 h with rfl | h
    · omega
    · have := ih h; omega
theorem bulk_append {H : Type} (l r : List (DataW H)) : Rows.uptoBulkAll (l ++ r) = Rows.uptoBulkAll l + Rows.uptoBulkAll r := by
  induction l with
  | nil => simp [Rows.uptoBulkAll]
  | cons x l ih => simp only [List.cons_append, Rows.uptoBulkAll, ih]; omega
theorem bulk_str {H : Type} (s : ByteArray) : Rows.uptoBulk (DataW.lit (H := H) (.string s.data.toList)) = s.size + 1 := by
  simp only [Rows.uptoBulk]
  rfl

/-- the cells of one place of a slice of structs -/
theorem place_cells {w : World} {base : Nat} {b off k n : Nat} {cs : List Value} (h : w.cells? base (Addr.add ⟨b, off, none⟩ k) n = some cs) : cs.length = n ∧ ∀ i, i < n → w.cell? ⟨b, off + k + i, none⟩ = cs[i]? := by
  obtain ⟨_, h2, h3⟩ := World.cells?_some h
  refine ⟨h2, fun i hi => ?_⟩
  rw [← h3 i hi, addr_add, addr_add]
theorem spot_none {w : World} {base : Nat} {a : Addr} {n : Nat} {cs : List Value} (h : w.cells? base (a.add 0) n = some cs) (hn : 0 < n) : ∃ b off, a = ⟨b, off, none⟩ ∧ b < w.heap.size := by
  obtain ⟨_, h2, h3⟩ := World.cells?_some h
  have h0 := h3 0 hn
  rw [List.getElem?_eq_getElem (by omega)] at h0
  obtain ⟨b, off, spot⟩ := a
  have hspot : spot = none := by simpa [Addr.add] using World.cell?_spot h0
  subst hspot
  refine ⟨b, off, rfl, ?_⟩
  rcases Nat.lt_or_ge b w.heap.size with h1 | h1
  · exact h1
  · simp [World.cell?, Addr.add, Array.getElem?_eq_none h1] at h0
theorem list3 {α : Type} {l : List α} (h : l.length = 3) : ∃ a b c, l = [a, b, c] := by
  match l, h with
  | [a, b, c], _ => exact ⟨a, b, c, rfl⟩
theorem list4 {α : Type} {l : List α} (h : l.length = 4) : ∃ a b c d, l = [a, b, c, d] := by
  match l, h with
  | [a, b, c, d], _ => exact ⟨a, b, c, d, rfl⟩
def LineM.good (x : LineM) (m : Nat) : Prop := x.acc.size ≤ m ∧ x.cur.size ≤ m ∧ -9223372036854775808 ≤ x.amt ∧ x.amt ≤ 9223372036854775807
theorem int_of_wf {n : Int} (h : (Lit.int .i64 n).wf = true) : -9223372036854775808 ≤ n ∧ n ≤ 9223372036854775807 := by
  simpa [Lit.wf, IntKind.min, IntKind.max, IntKind.signed, IntKind.bits] using h

section
variable {H : Type} {enc : TypeId × Value → H} {w : World} {base : Nat} {spare : Nat → Bool} {held : Bool}
/-- one line -/
theorem open_line {fuel : Nat} {cs : List Value} {x : DataW H × List MemPlace} (h : DataW.trod enc Tryd.prog w base spare held fuel 99 cs = some x) :
    ∃ y : LineM, cs = [.string y.acc, .string y.cur, .int .i64 y.amt] ∧ y.good (Rows.uptoBulk x.1) := by
  obtain ⟨xs, n, _, rfl, hl, hxl, hf⟩ := DataW.trod_struct Tryd.underlying99 h
  rw [cellsLn] at hl
  obtain ⟨c0, c1, c2, rfl⟩ := list3 hl
  obtain ⟨y0, y1, y2, rfl⟩ := list3 (hxl.trans (show _ = 3 from rfl))
  have k0 := hf 0 _ rfl
  have k1 := hf 1 _ rfl
  have k2 := hf 2 _ rfl
  simp [cellsStr] at k0
  simp [cellsStr] at k1
  simp [cellsI] at k2
  obtain ⟨s0, e0, rfl, _⟩ := DataW.trod_string Tryd.underlying9 k0
  obtain ⟨s1, e1, rfl, _⟩ := DataW.trod_string Tryd.underlying9 k1
  obtain ⟨n2, e2, rfl, w2⟩ := DataW.trod_int Tryd.underlying3 k2
  simp only [List.cons.injEq, and_true] at e0 e1 e2
  subst e0 e1 e2
  refine ⟨⟨s0, s1, n2⟩, rfl, ?_, ?_, int_of_wf w2⟩
  · simp only [Rows.uptoBulk, Rows.uptoBulkAll, List.map_cons, List.map_nil]
    show s0.size ≤ _
    have e : s0.data.toList.length = s0.size := rfl
    omega
  · simp only [Rows.uptoBulk, Rows.uptoBulkAll, List.map_cons, List.map_nil]
    show s1.size ≤ _
    have e : s1.data.toList.length = s1.size := rfl
    omega
instance : Inhabited LineM := ⟨⟨⟨#[]⟩, ⟨#[]⟩, 0⟩⟩
instance : Inhabited EntryM := ⟨⟨⟨#[]⟩, 0, 0, []⟩⟩
theorem range_get {α : Type} (f : Nat → α) (n i : Nat) (x : α) (h : ((List.range n).map f)[i]? = some x) : i < n ∧ x = f i := by
  rw [List.getElem?_map] at h
  cases h1 : (List.range n)[i]? with
  | none => rw [h1] at h; cases h
  | some k =>
    rw [h1] at h
    simp only [Option.map_some, Option.some.injEq] at h
    obtain ⟨hlt, he⟩ := List.getElem?_eq_some_iff.1 h1
    rw [List.length_range] at hlt
    rw [List.getElem_range] at he
    exact ⟨hlt, by rw [← h, he]⟩
/-- lines -/
theorem open_lines {fuel : Nat} {cs : List Value} {x : DataW H × List MemPlace} (h : DataW.trod enc Tryd.prog w base spare held fuel 23 cs = some x) :
    ∃ (lao : Option Addr) (lc : Nat) (T : List LineM), cs = [.slice lao T.length lc] ∧ LinesAt w lao T ∧ T.length ≤ maxLen ∧ ∀ y ∈ T, y.good (Rows.uptoBulk x.1) := by
  rcases open_slice Tryd.underlying23 h with ⟨rfl, rfl⟩ | ⟨a, len, cap, m, n, D, Pl, rfl, _, hl, hm, hmm, rfl, hi⟩
  · exact ⟨none, 0, [], rfl, Or.inl rfl, Nat.zero_le _, fun y hy => by cases hy⟩
  · have hlm : len ≤ m := by rw [hmm]; split <;> omega
    rw [cellsLn] at hi
    have hone : ∀ i, i < len → ∃ y : LineM, w.cells? base (a.add (i * 3)) 3 = some [.string y.acc, .string y.cur, .int .i64 y.amt] ∧ y.good (Rows.uptoBulk (D i)) := fun i h' => by
      obtain ⟨cs', h1, h2⟩ := hi i (by omega)
      obtain ⟨y, rfl, hy⟩ := open_line h2
      exact ⟨y, h1, hy⟩
    obtain ⟨f, hf⟩ := choose_lt hone
    have hlen : ((List.range len).map f).length = len := by simp
    refine ⟨some a, cap, (List.range len).map f, by rw [hlen], ?_, by rw [hlen]; omega, fun y hy => ?_⟩
    · rcases Nat.eq_zero_or_pos len with h0 | h0
      · subst h0; exact Or.inl rfl
      · have h00 := (hf 0 h0).1
        rw [Nat.zero_mul] at h00
        obtain ⟨b, off, rfl, hb⟩ := spot_none h00 (by omega)
        refine Or.inr ⟨b, off, rfl, hb, fun i y hy => ?_⟩
        obtain ⟨hlt, rfl⟩ := range_get f len i y hy
        obtain ⟨_, hc⟩ := place_cells (hf i hlt).1
        exact ⟨hc 0 (by omega), hc 1 (by omega), hc 2 (by omega)⟩
    · obtain ⟨i, hi', rfl⟩ := List.mem_map.1 hy
      have hlt := List.mem_range.1 hi'
      obtain ⟨g1, g2, g3⟩ := (hf i hlt).2
      have hb : Rows.uptoBulk (D i) ≤ Rows.uptoBulk (DataW.slice ((List.range len).map D) ((List.range (m - len)).map fun j => D (len + j))) := by
        have := bulk_mem (d := D i) (l := (List.range len).map D) (List.mem_map.2 ⟨i, hi', rfl⟩)
        simp only [Rows.uptoBulk]
        omega
      exact ⟨by simp only; omega, by simp only; omega, g3⟩
/-- one entry -/
theorem open_entry {fuel : Nat} {cs : List Value} {x : DataW H × List MemPlace} (h : DataW.trod enc Tryd.prog w base spare held fuel 25 cs = some x) :
    ∃ (y : EntryM) (lao : Option Addr) (lc : Nat), cs = [.string y.ref, .int .i64 y.ent, .int .i64 y.per, .slice lao y.lines.length lc] ∧ LinesAt w lao y.lines ∧ (Rows.uptoBulk x.1 ≤ 1048576 → y.fair) := by
  obtain ⟨xs, n, _, rfl, hl, hxl, hf⟩ := DataW.trod_struct Tryd.underlying25 h
  rw [cellsEn] at hl
  obtain ⟨c0, c1, c2, c3, rfl⟩ := list4 hl
  obtain ⟨y0, y1, y2, y3, rfl⟩ := list4 (hxl.trans (show _ = 4 from rfl))
  have k0 := hf 0 _ rfl
  have k1 := hf 1 _ rfl
  have k2 := hf 2 _ rfl
  have k3 := hf 3 _ rfl
  simp [cellsStr] at k0
  simp [cellsI] at k1
  simp [cellsI] at k2
  simp [cellsLs] at k3
  obtain ⟨s0, e0, rfl, _⟩ := DataW.trod_string Tryd.underlying9 k0
  obtain ⟨n1, e1, rfl, w1⟩ := DataW.trod_int Tryd.underlying3 k1
  obtain ⟨n2, e2, rfl, w2⟩ := DataW.trod_int Tryd.underlying3 k2
  obtain ⟨lao, lc, T, e3, hT, hm, hg⟩ := open_lines k3
  simp only [List.cons.injEq, and_true] at e0 e1 e2 e3
  subst e0 e1 e2 e3
  refine ⟨⟨s0, n1, n2, T⟩, lao, lc, rfl, hT, fun hb => ?_⟩
  simp only [Rows.uptoBulk, Rows.uptoBulkAll, List.map_cons, List.map_nil] at hb
  have e : s0.data.toList.length = s0.size := rfl
  have i1 := int_of_wf w1
  have i2 := int_of_wf w2
  refine ⟨by simp only; omega, i1, i2, by simp only; unfold maxLen at hm; omega, fun y hy => ?_⟩
  obtain ⟨g1, g2, g3⟩ := hg y hy
  exact ⟨by omega, by omega, g3⟩
/-- entries -/
theorem open_entries {fuel : Nat} {cs : List Value} {x : DataW H × List MemPlace} (h : DataW.trod enc Tryd.prog w base spare held fuel 80 cs = some x) :
    ∃ (ao : Option Addr) (cap : Nat) (es : List EntryM), cs = [.slice ao es.length cap] ∧ EntsAt w ao es ∧ es.length ≤ maxLen ∧ (Rows.uptoBulk x.1 ≤ 1048576 → ∀ y ∈ es, y.fair) := by
  rcases open_slice Tryd.underlying80 h with ⟨rfl, rfl⟩ | ⟨a, len, cap, m, n, D, Pl, rfl, _, hl, hm, hmm, rfl, hi⟩
  · exact ⟨none, 0, [], rfl, Or.inl rfl, Nat.zero_le _, fun _ y hy => by cases hy⟩
  · have hlm : len ≤ m := by rw [hmm]; split <;> omega
    rw [cellsEn] at hi
    have hone : ∀ i, i < len → ∃ y : EntryM, ∃ lao lc, w.cells? base (a.add (i * 4)) 4 = some [.string y.ref, .int .i64 y.ent, .int .i64 y.per, .slice lao y.lines.length lc] ∧ LinesAt w lao y.lines ∧ (Rows.uptoBulk (D i) ≤ 1048576 → y.fair) := fun i h' => by
      obtain ⟨cs', h1, h2⟩ := hi i (by omega)
      obtain ⟨y, lao, lc, rfl, hy⟩ := open_entry h2
      exact ⟨y, lao, lc, h1, hy⟩
    obtain ⟨f, hf⟩ := choose_lt hone
    have hlen : ((List.range len).map f).length = len := by simp
    refine ⟨some a, cap, (List.range len).map f, by rw [hlen], ?_, by rw [hlen]; omega, fun hbk y hy => ?_⟩
    · rcases Nat.eq_zero_or_pos len with h0 | h0
      · subst h0; exact Or.inl rfl
      · obtain ⟨lao0, lc0, h00, _⟩ := hf 0 h0
        rw [Nat.zero_mul] at h00
        obtain ⟨b, off, rfl, hb⟩ := spot_none h00 (by omega)
        refine Or.inr ⟨b, off, rfl, hb, fun i y hy => ?_⟩
        obtain ⟨hlt, rfl⟩ := range_get f len i y hy
        obtain ⟨lao, lc, h1, h2, _⟩ := hf i hlt
        obtain ⟨_, hc⟩ := place_cells h1
        exact ⟨lao, lc, hc 0 (by omega), hc 1 (by omega), hc 2 (by omega), hc 3 (by omega), h2⟩
    · obtain ⟨i, hi', rfl⟩ := List.mem_map.1 hy
      have hlt := List.mem_range.1 hi'
      obtain ⟨_, _, _, _, g⟩ := hf i hlt
      have hb : Rows.uptoBulk (D i) ≤ Rows.uptoBulk (DataW.slice ((List.range len).map D) ((List.range (m - len)).map fun j => D (len + j))) := by
        have := bulk_mem (d := D i) (l := (List.range len).map D) (List.mem_map.2 ⟨i, hi', rfl⟩)
        simp only [Rows.uptoBulk]
        omega
      exact g (by simp only at hbk; omega)
end
end Go.Proofs.YtldpflijgbcbhaaDoor
