/- EntryTurns: what its walk stands on. -/
import Derived.Test.YtbhndnjlplibmaaDoorEtA
import Derived.Test.YtbhndnjlplibmaaDoorRf1
import Derived.Test.YtbhndnjlplibmaaDoorTold
import Derived.Deep.CutBlock
import Derived.Deep.DeepCutAuto
namespace Go.Proofs.YtbhndnjlplibmaaDoor.lg
open Go.RowKit

/-- block b is entry T, its lines in blocks from m on -/
structure EnAt (wx : World) (b : Nat) (T : EntryM) (m : Nat) : Prop where
  ex : ∃ a c, wx.heap[b]? = some (.cells #[.string T.ref, .int .i64 T.ent, .int .i64 T.per, .slice a T.lines.length c] 81 (0, 0)) ∧ LinesAt wx a T.lines ∧ ∀ ad, a = some ad → m ≤ ad.block
theorem EnAt.later {w w' : World} {b m : Nat} {T : EntryM} (h : EnAt w b T m) (hb : Below w.heap.size w w') : EnAt w' b T m := by
  obtain ⟨a, c, h1, h2, h3⟩ := h.ex
  exact ⟨a, c, (hb.block b (lt_of_heap h1)).trans h1, h2.below hb, h3⟩
theorem EnAt.set {w : World} {b b' m : Nat} {T : EntryM} (h : EnAt w b T m) (hne : b ≠ b') (hlt : b' < m) (j : Nat) (u : Value) : EnAt (w.setCell ⟨b', j, none⟩ u) b T m := by
  obtain ⟨a, c, h1, h2, h3⟩ := h.ex
  exact ⟨a, c, (Below.heap_setCell _ _ _ _ hne).trans h1, h2.set (fun ad ha => by have := h3 ad ha; omega) _ _, h3⟩
structure TurnSt (B : Nat) (w wx : World) (be bt bs : Nat) (x : EntryM) (lo : Option Addr) (lc : Nat) (T S : EntryM) : Prop where
  below : Below B w wx
  ent : wx.heap[be]? = some (.cells #[.string x.ref, .int .i64 x.ent, .int .i64 x.per, .slice lo x.lines.length lc] 81 (0, 0))
  turned : EnAt wx bt T (bs + 1)
  short : EnAt wx bs S (bs + 1)
theorem TurnSt.later {B : Nat} {w wx w' : World} {be bt bs : Nat} {x : EntryM} {lo : Option Addr} {lc : Nat} {T S : EntryM} (h : TurnSt B w wx be bt bs x lo lc T S) (hB : B ≤ wx.heap.size) (hb : Below wx.heap.size wx w') : TurnSt B w w' be bt bs x lo lc T S :=
  ⟨h.below.trans (hb.mono hB), (hb.block be (lt_of_heap h.ent)).trans h.ent, h.turned.later hb, h.short.later hb⟩
/-- the sums, as the document has them -/
def SumsAt (wx : World) (m : Nat) (s : Value) (l : List LineM) : Prop := ∃ a c, ∃ O : List LineM, s = .slice a O.length c ∧ LinesAt wx a O ∧ (O.map toB = if fewC l = 0 then sumsB l else []) ∧ ∀ ad, a = some ad → m ≤ ad.block
theorem SumsAt.later {w w' : World} {m : Nat} {s : Value} {l : List LineM} (h : SumsAt w m s l) (hb : Below w.heap.size w w') : SumsAt w' m s l := by
  obtain ⟨a, c, O, h1, h2, h3, h4⟩ := h
  exact ⟨a, c, O, h1, h2.below hb, h3, h4⟩
theorem SumsAt.set {w : World} {m b' : Nat} {s : Value} {l : List LineM} (h : SumsAt w m s l) (hlt : b' < m) (j : Nat) (u : Value) : SumsAt (w.setCell ⟨b', j, none⟩ u) m s l := by
  obtain ⟨a, c, O, h1, h2, h3, h4⟩ := h
  exact ⟨a, c, O, h1, h2.set (fun ad ha => by have := h4 ad ha; omega) _ _, h3, h4⟩
/-- all blocks that were there but one are as they were -/
structure But (b : Nat) (w w' : World) : Prop where
  size : w.heap.size ≤ w'.heap.size
  keep : ∀ q, q < w.heap.size → q ≠ b → w'.heap[q]? = w.heap[q]?
theorem LinesAt.but {w w' : World} {ao : Option Addr} {t : List LineM} {b : Nat} (h : LinesAt w ao t) (hb : But b w w') (hn : ∀ ad, ao = some ad → ad.block ≠ b) : LinesAt w' ao t := by
  rcases h with h | ⟨b', off, e, hlt, hc⟩
  · exact Or.inl h
  · have hk := hb.keep b' hlt (hn _ e)
    refine Or.inr ⟨b', off, e, Nat.lt_of_lt_of_le hlt hb.size, fun i x hx => ?_⟩
    obtain ⟨h1, h2, h3⟩ := hc i x hx
    exact ⟨(World.cell?_of_block (w := w) (a := ⟨b', off + i * 3, none⟩) hk).trans h1, (World.cell?_of_block (w := w) (a := ⟨b', off + i * 3 + 1, none⟩) hk).trans h2, (World.cell?_of_block (w := w) (a := ⟨b', off + i * 3 + 2, none⟩) hk).trans h3⟩
theorem EnAt.but {w w' : World} {b c m : Nat} {T : EntryM} (h : EnAt w b T m) (hb : But c w w') (hne : b ≠ c) (hlt : c < m) : EnAt w' b T m := by
  obtain ⟨a, c', h1, h2, h3⟩ := h.ex
  exact ⟨a, c', (hb.keep b (lt_of_heap h1) hne).trans h1, h2.but hb (fun ad ha => by have := h3 ad ha; omega), h3⟩
theorem SumsAt.but {w w' : World} {m c : Nat} {s : Value} {l : List LineM} (h : SumsAt w m s l) (hb : But c w w') (hlt : c < m) : SumsAt w' m s l := by
  obtain ⟨a, c', O, h1, h2, h3, h4⟩ := h
  exact ⟨a, c', O, h1, h2.but hb (fun ad ha => by have := h4 ad ha; omega), h3, h4⟩
theorem But.set {b : Nat} {w w' : World} (h : But b w w') (j : Nat) (u : Value) : But b w (w'.setCell ⟨b, j, none⟩ u) :=
  ⟨by simpa using h.size, fun q hq hne => (Below.heap_setCell _ _ _ _ hne).trans (h.keep q hq hne)⟩
def ShortIs (x : EntryM) (S : EntryM) : Prop := (fewC x.lines ≠ 0 ∧ S = noneE) ∨ (fewC x.lines = 0 ∧ ∃ O : List LineM, O.map toB = (x.lines.map toB).foldl putB [] ∧ S = { x with lines := O.filter notZ })
theorem short_one {x S S' : EntryM} (h : ShortIs x S) (h' : ShortIs x S') : S = S' := by
  rcases h with ⟨a, b⟩ | ⟨a, O, b, c⟩
  · rcases h' with ⟨a', b'⟩ | ⟨a', _⟩
    · rw [b, b']
    · exact absurd a' a
  · rcases h' with ⟨a', _⟩ | ⟨a', O', b', c'⟩
    · exact absurd a a'
    · rw [c, c', mapB_inj (b.trans b'.symm)]
theorem filter_snoc {O : List LineM} {k : Nat} {y : LineM} (h : O[k]? = some y) : (O.take (k + 1)).filter notZ = (O.take k).filter notZ ++ if notZ y = true then [y] else [] := by
  obtain ⟨hk, rfl⟩ := List.getElem?_eq_some_iff.1 h
  rw [List.take_succ_eq_append_getElem hk, List.filter_append]
  congr 1
  split
  · rename_i hz; rw [List.filter_cons_of_pos hz]; rfl
  · rename_i hz; rw [List.filter_cons_of_neg hz]; rfl
end Go.Proofs.YtbhndnjlplibmaaDoor.lg
