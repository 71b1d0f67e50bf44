/- What MatchRests holds in memory, in plain terms; sums and their bounds. -/
import Derived.Test.YtbhndnjlplibmaaDoorMaL
namespace Go.Proofs.YtbhndnjlplibmaaDoor
open Go.RowKit

def absL (T : List Int) (N k : Nat) : List Int := (T.take k).map fifo.absN ++ List.replicate (N - k) 0
theorem absL_zero (T : List Int) (N : Nat) : absL T N 0 = List.replicate N 0 := by simp [absL]
theorem absL_len {T : List Int} {N k : Nat} (h : k ≤ N) (ht : T.length = N) : (absL T N k).length = N := by simp [absL, ht]; omega
theorem absL_set {T : List Int} {N k : Nat} (h : k < N) (ht : T.length = N) : (absL T N k).set k (fifo.absN (T.getD k 0)) = absL T N (k + 1) := by
  have hl : ((T.take k).map fifo.absN).length = k := by simp [ht]; omega
  unfold absL
  rw [show N - k = (N - (k + 1)) + 1 by omega, List.replicate_succ, List.set_append_right _ _ (by omega), hl, Nat.sub_self, List.set_cons_zero, List.take_succ_eq_append_getElem (by omega), List.map_append, List.append_assoc]
  have : T[k]'(by omega) = T.getD k 0 := by simp [show k < T.length by omega]
  rw [this]
  rfl
theorem absL_end {T : List Int} {N : Nat} (ht : T.length = N) : absL T N N = T.map fifo.absN := by
  unfold absL
  rw [Nat.sub_self, List.take_of_length_le (by omega)]
  simp
theorem take_sum_bd (B : Int) (hB : 0 ≤ B) : ∀ (L : List Int), (∀ x ∈ L, -B ≤ x ∧ x ≤ B) → ∀ k : Nat, -((k : Int) * B) ≤ (L.take k).sum ∧ (L.take k).sum ≤ (k : Int) * B
  | [], _, k => by
    have : 0 ≤ (k : Int) * B := Int.mul_nonneg (by omega) hB
    simp only [List.take_nil, List.sum_nil]; omega
  | x :: L, h, 0 => by simp
  | x :: L, h, k + 1 => by
    have ih := take_sum_bd B hB L (fun y hy => h y (by simp [hy])) k
    have hx := h x (by simp)
    have e : ((k + 1 : Nat) : Int) * B = (k : Int) * B + B := by rw [Int.natCast_add, Int.add_mul]; simp
    rw [List.take_succ_cons, List.sum_cons, e]
    omega
theorem amts_bd {its : List ItemM} (h : ∀ x ∈ its, amtB x.amt = true) : ∀ y ∈ amts its, -1000000000000000 ≤ y ∧ y ≤ 1000000000000000 := by
  intro y hy
  obtain ⟨x, hx, rfl⟩ := List.mem_map.1 hy
  exact amtB_iff.1 (h x hx)
theorem items_amt {its : List ItemM} (h : itemsF its = 0) : ∀ x ∈ its, amtB x.amt = true := by
  intro x hx
  obtain ⟨i, hi, rfl⟩ := List.getElem_of_mem hx
  exact ((itemsF_zero h).2 i _ (List.getElem?_eq_getElem hi)).2.2.2.1
theorem agesN_mem {o : List ItemM} (period : Int) (bs : List Int) (h : ∀ x ∈ o, amtB x.amt = true) (hl : o.length ≤ 200) : ∀ y ∈ agesN o period bs o.length, -200000000000000000 ≤ y ∧ y ≤ 200000000000000000 := by
  intro y hy
  obtain ⟨i, hi, rfl⟩ := List.getElem_of_mem hy
  have := agesN_bound period bs h o.length i (Nat.le_refl _)
  have e : (agesN o period bs o.length).getD i 0 = (agesN o period bs o.length)[i] := by simp [hi]
  rw [e] at this
  omega
end Go.Proofs.YtbhndnjlplibmaaDoor
