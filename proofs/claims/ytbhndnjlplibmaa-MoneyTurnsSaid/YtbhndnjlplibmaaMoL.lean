/- MoneyTurns: the plain part. -/
import Derived.Test.YtbhndnjlplibmaaBg20
namespace Go.Proofs.Ytbhndnjlplibmaa.big
open Go.RowKit

theorem rev_take (l : List Int) {k : Nat} (h : k < l.length) : l.reverse.take (k + 1) = l.reverse.take k ++ [l.getD (l.length - 1 - k) 0] := by
  rw [List.take_succ_eq_append_getElem (by simpa using h)]
  congr 1
  simp [show l.length - 1 - k < l.length by omega]
theorem rev_sum (l : List Int) : l.reverse.sum = l.sum := by
  induction l with
  | nil => rfl
  | cons a l ih => rw [List.reverse_cons, List.sum_append, ih]; simp; omega
theorem cut_sum (l : List Int) (k : Nat) : (l.take k).sum + (l.drop k).sum = l.sum := by
  rw [← List.sum_append, List.take_append_drop]
theorem In64.rev {l : List Int} (h : In64 l) : In64 l.reverse := fun x hx => h x (List.mem_reverse.1 hx)
theorem In64.take {l : List Int} (h : In64 l) (k : Nat) : In64 (l.take k) := fun x hx => h x (List.mem_of_mem_take hx)
theorem In64.drop {l : List Int} (h : In64 l) (k : Nat) : In64 (l.drop k) := fun x hx => h x (List.mem_of_mem_drop hx)
theorem fits_iff {V : Int} : fits V = true ↔ -9223372036854775808 ≤ V ∧ V ≤ 9223372036854775807 := by simp [fits]
theorem smallV_fit {V : Int} (h : fits V = true) : smallV V = .tuple #[.int .i64 V, .nilIface] := if_pos h
theorem smallV_not {V : Int} (h : fits V = false) : smallV V = .tuple #[.int .i64 0, .iface 23 (.int .i64 10)] := if_neg (by rw [h]; simp)
theorem ints_take {w : World} {ao : Option Addr} {l : List Int} (h : IntsAt w ao l) (k : Nat) : IntsAt w ao (l.take k) := by
  rcases h with h | ⟨b, off, e, hc⟩
  · exact Or.inl (by rw [h]; simp)
  · refine Or.inr ⟨b, off, e, fun i hi => ?_⟩
    have h1 : i < k ∧ i < l.length := by rw [List.length_take] at hi; omega
    rw [hc i h1.2]
    simp [List.getElem?_take, h1.1]
theorem ints_drop {w : World} {b off : Nat} {l : List Int} (hc : ∀ i, i < l.length → w.cell? ⟨b, off + i, none⟩ = some (.int .i64 (l.getD i 0))) (k : Nat) : IntsAt w (some ⟨b, off + k, none⟩) (l.drop k) := by
  refine Or.inr ⟨b, off + k, rfl, fun i hi => ?_⟩
  rw [List.length_drop] at hi
  rw [Nat.add_assoc, hc (k + i) (by omega)]
  simp [List.getElem?_drop]
end Go.Proofs.Ytbhndnjlplibmaa.big
