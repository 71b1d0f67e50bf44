/- MatchFinds: the plain part. -/
import Derived.Test.YtbhndnjlplibmaaDoorEx2
import Derived.Test.YtbhndnjlplibmaaDoorInts
namespace Go.Proofs.YtbhndnjlplibmaaDoor.mt
open Go.RowKit

theorem slx_form {w : World} {v : Value} {x : List Nat} (h : SlX w v x) : ∃ xo xc, v = .slice xo x.length xc ∧ IntsAt w xo (x.map fun n : Nat => (n : Int)) := by
  rcases h with ⟨rfl, rfl⟩ | ⟨g, cap, rfl, hi⟩
  · exact ⟨none, 0, rfl, Or.inl rfl⟩
  · refine ⟨_, cap, rfl, Or.inr ⟨g, 0, rfl, fun i hi2 => ?_⟩⟩
    have := hi i (.int .i64 ((x.map fun n : Nat => (n : Int)).getD i 0)) (by
      rw [List.length_map] at hi2
      simp [natV, hi2])
    rw [addr_add] at this
    exact this
/-- the part of x's first k -/
def part (t : List Int) (x : List Nat) (k : Nat) : Int := ((x.take k).map fun j => t.getD j 0).sum
theorem part_zero (t : List Int) (x : List Nat) : part t x 0 = 0 := rfl
theorem part_succ (t : List Int) (x : List Nat) {k : Nat} (h : k < x.length) : part t x (k + 1) = part t x k + t.getD (x.getD k 0) 0 := by
  unfold part
  rw [List.take_succ_eq_append_getElem h, List.map_append, List.sum_append]
  simp [h]
theorem part_all (t : List Int) (x : List Nat) : part t x x.length = (x.map fun j => t.getD j 0).sum := by unfold part; rw [List.take_of_length_le (Nat.le_refl _)]
theorem sum_bound {t : List Int} (hb : Bound t) : ∀ x : List Nat, -(1000000000000000 * (x.length : Int)) ≤ (x.map fun j => t.getD j 0).sum ∧ (x.map fun j => t.getD j 0).sum ≤ 1000000000000000 * (x.length : Int)
  | [] => by simp
  | a :: r => by
    have := sum_bound hb r
    have := hb a
    rw [List.map_cons, List.sum_cons, List.length_cons]
    omega
theorem part_bound {t : List Int} (hb : Bound t) (x : List Nat) {k : Nat} (h : k ≤ x.length) : -(1000000000000000 * (k : Int)) ≤ part t x k ∧ part t x k ≤ 1000000000000000 * (k : Int) := by
  have := sum_bound hb (x.take k)
  rw [List.length_take, Nat.min_eq_left h] at this
  exact this
/-- those that are called for among the first k -/
def idxB (B : Nat → Bool) (k : Nat) : List Nat := (List.range k).filter B
theorem idxB_succ (B : Nat → Bool) (k : Nat) : idxB B (k + 1) = idxB B k ++ if B k = true then [k] else [] := by
  unfold idxB
  rw [List.range_succ, List.filter_append, List.filter_cons, List.filter_nil]
theorem idxB_len (B : Nat → Bool) (k : Nat) : (idxB B k).length ≤ k := by
  have := List.length_filter_le B (List.range k)
  rw [List.length_range] at this
  exact this
theorem idxB_way (t : List Int) (B : Nat → Bool) {k : Nat} (h : k ≤ t.length) : Way t (idxB B k).length 0 ((idxB B k).map fun j => t.getD j 0).sum (idxB B k) :=
  way_of (List.Pairwise.filter _ List.pairwise_lt_range) (fun j hj => ⟨Nat.zero_le _, by
    have := List.mem_range.1 (List.mem_filter.1 hj).1
    omega⟩)
theorem bound_of {its : List ItemM} (h : itemsF its = 0) : Bound (amts its) := fun j => by
  by_cases hj : j < its.length
  · rw [amts_get its j its[j] (by simp)]
    exact amtB_iff.1 ((itemsF_zero h).2 j its[j] (by simp)).2.2.2.1
  · rw [List.getD_eq_getElem?_getD, List.getElem?_eq_none (by rw [amts_len]; omega)]
    exact ⟨by decide, by decide⟩
/-- what is there is a way -/
theorem exX_way {its : List ItemM} {want : Int} (h : exX its want ≠ []) : itemsF its = 0 ∧ its.length ≤ 16 ∧ Way (amts its) (exX its want).length 0 want (exX its want) := by
  unfold exX at h ⊢
  split at h
  · exact absurd rfl h
  · split at h
    · exact absurd rfl h
    · rename_i h1 h2
      cases he : exactM (amts its) want with
      | none => rw [he] at h; exact absurd rfl h
      | some x =>
        simp only [h1, h2, if_false, he, Option.getD_some]
        exact ⟨by omega, by omega, exact_way he⟩
theorem exC_way {its : List ItemM} {want : Int} (h : exC its want = 0) : itemsF its = 0 ∧ its.length ≤ 16 ∧ Way (amts its) (exX its want).length 0 want (exX its want) := by
  unfold exC at h
  unfold exX
  split at h
  · rename_i h1; exact absurd h h1
  · split at h
    · cases h
    · rename_i h1 h2
      split at h
      · cases h
      · rename_i h3
        cases he : exactM (amts its) want with
        | none => exact absurd he h3
        | some x =>
          simp only [h1, h2, if_false, Option.getD_some]
          exact ⟨by omega, by omega, exact_way he⟩
theorem ex_finds {its : List ItemM} (h : itemsF its = 0) (hl : its.length ≤ 16) {m : Nat} {want : Int} {y : List Nat} (hy : Way (amts its) m 0 want y) : exC its want = 0 ∧ (exX its want).length ≤ m := by
  obtain ⟨x, hx, hle⟩ := exact_least (bound_of h) (by rw [amts_len]; omega) hy
  have hyl := hy.len
  unfold exC exX
  rw [if_neg (by rw [h]; simp), if_neg (by omega), if_neg (by rw [hx]; simp), if_neg (by rw [h]; simp), if_neg (by omega), hx]
  refine ⟨rfl, ?_⟩
  show x.length ≤ m
  omega
/-- lb bools lie there -/
def BoolsAt (B0 : Nat) (w : World) (bo : Option Addr) (lb : Nat) (B : Nat → Bool) : Prop := lb = 0 ∨ ∃ b off, bo = some ⟨b, off, none⟩ ∧ b < B0 ∧ ∀ i, i < lb → w.cell? ⟨b, off + i, none⟩ = some (.bool (B i))
theorem bools_of {w : World} {a : Addr} {len cap : Nat} {B : Nat → Bool} (hl : len ≤ cap) (hc : ∀ i, i < cap → w.cell? (a.add i) = some (.bool (B i))) : BoolsAt w.heap.size w (some a) len B := by
  by_cases h0 : len = 0
  · exact Or.inl h0
  · obtain ⟨b, off, sp⟩ := a
    have h1 := hc 0 (by omega)
    have e : (⟨b, off, sp⟩ : Addr).add 0 = ⟨b, off, sp⟩ := by simp [Addr.add]
    rw [e] at h1
    obtain rfl : sp = none := by
      cases sp with
      | none => rfl
      | some k => simp only [World.cell?] at h1; split at h1 <;> cases h1
    refine Or.inr ⟨b, off, rfl, cell_block h1, fun i hi => ?_⟩
    rw [← addr_add]
    exact hc i (by omega)
end Go.Proofs.YtbhndnjlplibmaaDoor.mt
