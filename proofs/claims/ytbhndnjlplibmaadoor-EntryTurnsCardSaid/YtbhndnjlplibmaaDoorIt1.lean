/- Items in memory; rate.Period, entry.Amount, entry.Ref: what they answer. -/
import Derived.Test.YtbhndnjlplibmaaDoorItL
import Derived.Test.YtbhndnjlplibmaaDoorGen
import Derived.RegionTactic
import Derived.ChangeAlike
import Derived.WalkSpells
namespace Go.Proofs.YtbhndnjlplibmaaDoor.mt
open Go.RowKit

theorem getElem?_ex {α : Type} {l : List α} {k : Nat} (h : k < l.length) : ∃ x, l[k]? = some x := ⟨l[k], by simp [h]⟩
theorem bool_not {b : Bool} (h : ¬ b = true) : b = false := by cases b <;> simp_all

/-- The items lie at the slice's address, in a block below B. -/
def ItemsAt (B : Nat) (w : World) (ao : Option Addr) (its : List ItemM) : Prop :=
  its = [] ∨ ∃ b off, ao = some ⟨b, off, none⟩ ∧ b < B ∧ ∀ i x, its[i]? = some x →
    w.cell? ⟨b, off + i * 3, none⟩ = some (.string x.ref) ∧ w.cell? ⟨b, off + i * 3 + 1, none⟩ = some (.int .i64 x.per) ∧ w.cell? ⟨b, off + i * 3 + 2, none⟩ = some (.int .i64 x.amt)
theorem ItemsAt.later {B B' : Nat} {w w' : World} {ao : Option Addr} {its : List ItemM} (h : ItemsAt B w ao its) (hb : Below B w w') (hB : B ≤ B') : ItemsAt B' w' ao its := by
  rcases h with h | ⟨b, off, e, hlt, hc⟩
  · exact Or.inl h
  · refine Or.inr ⟨b, off, e, Nat.lt_of_lt_of_le hlt hB, fun i x hx => ?_⟩
    obtain ⟨h1, h2, h3⟩ := hc i x hx
    exact ⟨(hb.cell (p := ⟨b, _, none⟩) hlt).trans h1, (hb.cell (p := ⟨b, _, none⟩) hlt).trans h2, (hb.cell (p := ⟨b, _, none⟩) hlt).trans h3⟩
def itemCells (x : ItemM) : List Value := [.string x.ref, .int .i64 x.per, .int .i64 x.amt]

theorem period_any (n : Int) (w : World) : Calls Tryd.prog 51 #[.int .i64 n] w fun e w' => e = .returned (.bool (perB n)) ∧ w = w' := by
  by_cases h1 : 1 ≤ n
  · by_cases h2 : n ≤ 120
    · have hb : Hid (perB n = true) := by show _ = _; simp [perB, h1, h2]
      go_enter Tryd.func51, Tryd.ntmps51
      go_wp2
      go_ret
      exact ⟨ret_bool hb.out.symm, rfl⟩
    · have hb : Hid (perB n = false) := by show _ = _; simp [perB, h2]
      go_enter Tryd.func51, Tryd.ntmps51
      go_wp2
      go_ret
      exact ⟨ret_bool hb.out.symm, rfl⟩
  · have hb : Hid (perB n = false) := by show _ = _; simp [perB, h1]
    go_enter Tryd.func51, Tryd.ntmps51
    go_wp2
    go_ret
    exact ⟨ret_bool hb.out.symm, rfl⟩
theorem amount_any (n : Int) (w : World) : Calls Tryd.prog 55 #[.int .i64 n] w fun e w' => e = .returned (.bool (amtB n)) ∧ w = w' := by
  by_cases h1 : -1000000000000000 ≤ n
  · by_cases h2 : n ≤ 1000000000000000
    · have hb : Hid (amtB n = true) := by show _ = _; simp [amtB, h1, h2]
      go_enter Tryd.func55, Tryd.ntmps55
      go_wp2
      go_ret
      exact ⟨ret_bool hb.out.symm, rfl⟩
    · have hb : Hid (amtB n = false) := by show _ = _; simp [amtB, h2]
      go_enter Tryd.func55, Tryd.ntmps55
      go_wp2
      go_ret
      exact ⟨ret_bool hb.out.symm, rfl⟩
  · have hb : Hid (amtB n = false) := by show _ = _; simp [amtB, h1]
    go_enter Tryd.func55, Tryd.ntmps55
    go_wp2
    go_ret
    exact ⟨ret_bool hb.out.symm, rfl⟩

/-! a text that may be a reference -/
def refCut : ByteArray := ⟨#[97, 98, 99, 100, 101, 102, 103, 104, 105, 106, 107, 108, 109, 110, 111, 112, 113, 114, 115, 116, 117, 118, 119, 120, 121, 122, 48, 49, 50, 51, 52, 53, 54, 55, 56, 57, 45]⟩
theorem refCut_small : ∀ y : Fin 256, refCut.data.toList.contains (UInt8.ofNat y.val) = refC (UInt8.ofNat y.val) := by decide +kernel
theorem refCut_has (c : UInt8) : refCut.data.toList.contains c = refC c := by
  have := refCut_small ⟨c.toNat, c.toNat_lt⟩
  simpa using this
theorem ref_none {s : ByteArray} (h : s.data.toList = []) : refB s = false := by unfold refB; rw [h]; rfl
theorem refL_cons (c : UInt8) (r : List UInt8) : refL (c :: r) = (decide ((c :: r).length ≤ 12) && !(c == 45) && (c :: r).all refC) := rfl
theorem ref_long {s : ByteArray} (h : 12 < s.data.toList.length) : refB s = false := by
  unfold refB
  cases hl : s.data.toList with
  | nil => rfl
  | cons c r => rw [hl] at h; rw [refL_cons, decide_eq_false (Nat.not_le.2 h)]; rfl
theorem ref_dash {s : ByteArray} {r : List UInt8} (h : s.data.toList = 45 :: r) : refB s = false := by
  unfold refB; rw [h, refL_cons]; simp
theorem ref_trim {s : ByteArray} {c : UInt8} {r : List UInt8} (h : s.data.toList = c :: r) (hc : c ≠ 45) (hl : (c :: r).length ≤ 12) : refB s = true ↔ Lib.trimS s.data.toList refCut.data.toList = [] := by
  rw [trim_nil]
  unfold refB
  rw [h]
  have e : (fun x => refCut.data.toList.contains x) = refC := funext refCut_has
  rw [e]
  rw [refL_cons, decide_eq_true hl]
  have : (c == 45) = false := beq_eq_false_iff_ne.2 hc
  rw [this]
  simp
end Go.Proofs.YtbhndnjlplibmaaDoor.mt
