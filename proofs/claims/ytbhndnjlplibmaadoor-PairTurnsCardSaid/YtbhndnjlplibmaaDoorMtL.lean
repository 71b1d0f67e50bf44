/- Items turned contrary: what is wrong with them, what is set off and what is open. -/
import Derived.Test.YtbhndnjlplibmaaDoorItM
namespace Go.Proofs.YtbhndnjlplibmaaDoor
open Go.RowKit

def turnI (x : ItemM) : ItemM := ⟨x.ref, x.per, -x.amt⟩
def turnF (its : List ItemM) : List ItemM := its.map turnI
theorem turnF_len (its : List ItemM) : (turnF its).length = its.length := by simp [turnF]
theorem turnF_per (its : List ItemM) (k : Nat) : ((turnF its).getD k default).per = (its.getD k default).per := by
  unfold turnF
  simp only [List.getD_eq_getElem?_getD, List.getElem?_map]
  cases its[k]? <;> rfl
theorem turnF_ref (its : List ItemM) (k : Nat) : ((turnF its).getD k default).ref = (its.getD k default).ref := by
  unfold turnF
  simp only [List.getD_eq_getElem?_getD, List.getElem?_map]
  cases its[k]? <;> rfl
theorem turn_one (its : List ItemM) (k : Nat) (x : ItemM) : itOne (turnF its) k (turnI x) = itOne its k x := by
  unfold itOne
  rw [turnF_per]
  show (if refB x.ref = false then 2 else if perB x.per = false ∨ -x.amt = 0 ∨ amtB (-x.amt) = false then 1 else if 0 < k ∧ x.per < _ then 5 else 0) = _
  rw [amtB_neg]
  have : (-x.amt = 0) ↔ (x.amt = 0) := by omega
  simp only [this]
theorem turn_from (its : List ItemM) : ∀ (l : List ItemM) (k : Nat), itFrom (turnF its) (turnF l) k = itFrom its l k
  | [], _ => rfl
  | x :: r, k => by
    show (if itOne (turnF its) k (turnI x) = 0 then itFrom (turnF its) (turnF r) (k + 1) else itOne (turnF its) k (turnI x)) = _
    rw [turn_one, turn_from its r (k + 1)]
    rfl
theorem turn_items (its : List ItemM) : itemsF (turnF its) = itemsF its := by
  unfold itemsF
  rw [turnF_len, turn_from]
theorem turn_amts (its : List ItemM) : amts (turnF its) = (amts its).map (- ·) := by
  simp [amts, turnF, turnI]
theorem turn_sets (its : List ItemM) : setsF (turnF its) = setsF its := by
  unfold setsF
  rw [turn_amts, turnF_len, fifo.outer_neg]
theorem turn_left (its : List ItemM) : leftF (turnF its) = (leftF its).map (- ·) := by
  unfold leftF
  rw [turn_amts, turnF_len, fifo.outer_neg]
theorem turn_openTo (its : List ItemM) (L : List Int) : ∀ k, openTo (turnF its) (L.map (- ·)) k = turnF (openTo its L k)
  | 0 => rfl
  | k + 1 => by
    rw [openTo, openTo, turn_openTo its L k, fifo.getD_neg, turnF_per, turnF_ref]
    unfold turnF
    rw [List.map_append]
    congr 1
    by_cases h : L.getD k 0 = 0
    · rw [if_pos h, if_pos (by omega)]; rfl
    · rw [if_neg h, if_neg (by omega)]; rfl
theorem turn_open (its : List ItemM) : openF (turnF its) = turnF (openF its) := by
  unfold openF
  rw [turn_left, turnF_len, turn_openTo]

/-- what Fifo answers: nothing where something is wrong -/
def setsA (its : List ItemM) : List (Nat × Nat × Int) := if itemsF its = 0 then setsF its else []
def openA (its : List ItemM) : List ItemM := if itemsF its = 0 then openF its else []
theorem turn_setsA (its : List ItemM) : setsA (turnF its) = setsA its := by
  unfold setsA; rw [turn_items, turn_sets]
theorem turn_openA (its : List ItemM) : openA (turnF its) = turnF (openA its) := by
  unfold openA; rw [turn_items, turn_open]; split <;> rfl
theorem openA_len (its : List ItemM) : (openA its).length ≤ 200 := by
  unfold openA
  split
  · rename_i h
    have := (itemsF_zero h).1
    have := openTo_len its (leftF its) its.length
    unfold openF; omega
  · exact Nat.zero_le _
theorem setsA_len (its : List ItemM) : (setsA its).length ≤ 40000 := by
  unfold setsA
  split
  · rename_i h
    have h1 := (itemsF_zero h).1
    have h2 := outer_cnt (amts its) its.length
    have h3 : its.length * its.length ≤ 200 * 200 := Nat.mul_le_mul h1 h1
    unfold setsF; omega
  · exact Nat.zero_le _
end Go.Proofs.YtbhndnjlplibmaaDoor
