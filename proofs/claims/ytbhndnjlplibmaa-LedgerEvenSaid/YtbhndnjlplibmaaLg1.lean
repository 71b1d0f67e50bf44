/- Balances and pairs in memory; rate.Cur, ledger.may, ledger.Get: what they answer. -/
import Derived.Test.YtbhndnjlplibmaaCmB
import Derived.WalkSpells
namespace Go.Proofs.Ytbhndnjlplibmaa.lg
open Go.RowKit

instance : Inhabited BalM := ⟨⟨0, ⟨#[]⟩, ⟨#[]⟩, 0⟩⟩
/-- the balances t lie at the slice's address -/
def BalsAt (w : World) (ao : Option Addr) (t : List BalM) : Prop :=
  t = [] ∨ ∃ b off, ao = some ⟨b, off, none⟩ ∧ b < w.heap.size ∧ ∀ (i : Nat) (x : BalM), t[i]? = some x →
    w.cell? ⟨b, off + i * 4, none⟩ = some (.int .i64 x.ent) ∧ w.cell? ⟨b, off + i * 4 + 1, none⟩ = some (.string x.acc) ∧ w.cell? ⟨b, off + i * 4 + 2, none⟩ = some (.string x.cur) ∧ w.cell? ⟨b, off + i * 4 + 3, none⟩ = some (.int .i64 x.amt)
theorem BalsAt.below {w w' : World} {ao : Option Addr} {t : List BalM} (h : BalsAt w ao t) (hb : Below w.heap.size w w') : BalsAt w' ao t := by
  rcases h with h | ⟨b, off, e, hlt, hc⟩
  · exact Or.inl h
  · refine Or.inr ⟨b, off, e, Nat.lt_of_lt_of_le hlt hb.size, fun i y hy => ?_⟩
    obtain ⟨h1, h2, h3, h4⟩ := hc i y hy
    exact ⟨(hb.cell (p := ⟨b, off + i * 4, none⟩) hlt).trans h1, (hb.cell (p := ⟨b, off + i * 4 + 1, none⟩) hlt).trans h2, (hb.cell (p := ⟨b, off + i * 4 + 2, none⟩) hlt).trans h3, (hb.cell (p := ⟨b, off + i * 4 + 3, none⟩) hlt).trans h4⟩
structure PairM where
  a : Int
  b : Int
  one : ByteArray
  other : ByteArray
  diff : ByteArray
def PairsAt (w : World) (ao : Option Addr) (t : List PairM) : Prop :=
  t = [] ∨ ∃ b off, ao = some ⟨b, off, none⟩ ∧ b < w.heap.size ∧ ∀ (i : Nat) (x : PairM), t[i]? = some x →
    w.cell? ⟨b, off + i * 5, none⟩ = some (.int .i64 x.a) ∧ w.cell? ⟨b, off + i * 5 + 1, none⟩ = some (.int .i64 x.b) ∧ w.cell? ⟨b, off + i * 5 + 2, none⟩ = some (.string x.one) ∧ w.cell? ⟨b, off + i * 5 + 3, none⟩ = some (.string x.other) ∧ w.cell? ⟨b, off + i * 5 + 4, none⟩ = some (.string x.diff)
theorem PairsAt.below {w w' : World} {ao : Option Addr} {t : List PairM} (h : PairsAt w ao t) (hb : Below w.heap.size w w') : PairsAt w' ao t := by
  rcases h with h | ⟨b, off, e, hlt, hc⟩
  · exact Or.inl h
  · refine Or.inr ⟨b, off, e, Nat.lt_of_lt_of_le hlt hb.size, fun i y hy => ?_⟩
    obtain ⟨h1, h2, h3, h4, h5⟩ := hc i y hy
    exact ⟨(hb.cell (p := ⟨b, off + i * 5, none⟩) hlt).trans h1, (hb.cell (p := ⟨b, off + i * 5 + 1, none⟩) hlt).trans h2, (hb.cell (p := ⟨b, off + i * 5 + 2, none⟩) hlt).trans h3, (hb.cell (p := ⟨b, off + i * 5 + 3, none⟩) hlt).trans h4, (hb.cell (p := ⟨b, off + i * 5 + 4, none⟩) hlt).trans h5⟩
theorem getElem?_ex {α : Type} {l : List α} {k : Nat} (h : k < l.length) : ∃ x, l[k]? = some x := ⟨l[k], by simp [h]⟩
theorem bool_not {b : Bool} (h : ¬ b = true) : b = false := by cases b <;> simp_all

/-- may it be a balance? -/
def mayB (n : Int) : Bool := decide (-1000000000000000000 ≤ n) && decide (n ≤ 1000000000000000000)
theorem mayB_iff {n : Int} : mayB n = true ↔ -1000000000000000000 ≤ n ∧ n ≤ 1000000000000000000 := by simp [mayB]
theorem may_any (n : Int) (w : World) : Calls Try.prog 31 #[.int .i64 n] w fun e w' => e = .returned (.bool (mayB n)) ∧ w = w' := by
  by_cases h1 : -1000000000000000000 ≤ n
  · by_cases h2 : n ≤ 1000000000000000000
    · have hb : Hid (mayB n = true) := by show _ = _; simp [mayB, h1, h2]
      go_enter Try.func31, Try.ntmps31
      go_wp2
      go_ret
      exact ⟨ret_bool hb.out.symm, rfl⟩
    · have hb : Hid (mayB n = false) := by show _ = _; simp [mayB, h2]
      go_enter Try.func31, Try.ntmps31
      go_wp2
      go_ret
      exact ⟨ret_bool hb.out.symm, rfl⟩
  · have hb : Hid (mayB n = false) := by show _ = _; simp [mayB, h1]
    go_enter Try.func31, Try.ntmps31
    go_wp2
    go_ret
    exact ⟨ret_bool hb.out.symm, rfl⟩

end Go.Proofs.Ytbhndnjlplibmaa.lg
