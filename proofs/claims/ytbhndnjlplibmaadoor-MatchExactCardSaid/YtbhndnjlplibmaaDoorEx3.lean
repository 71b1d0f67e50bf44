/- dayref3.Exact: the plain part: all ways, the least of them. -/
import Derived.Test.YtbhndnjlplibmaaDoorMfnL
namespace Go.Proofs.YtbhndnjlplibmaaDoor.mt
open Go.RowKit

def sumL (t : List Int) (x : List Nat) : Int := (x.map fun j => t.getD j 0).sum
/-- at the first place where they part: is x the lesser? -/
def lexB : List Nat → List Nat → Bool
  | a :: r, b :: s => if a = b then lexB r s else decide (a < b)
  | _, _ => false
def betB (st : Bool × List Nat) (s : List Nat) : Bool := !st.1 || decide (s.length < st.2.length) || (decide (s.length = st.2.length) && lexB s st.2)
def exStep (t : List Int) (want : Int) (st : Bool × List Nat) (s : List Nat) : Bool × List Nat := if sumL t s = want then (if betB st s = true then (true, s) else st) else st
def bitsN (n w : Nat) : List Nat := idxB (fun i => w.testBit i) n
def exSt (t : List Int) (want : Int) : Nat → Bool × List Nat
  | 0 => (false, [])
  | k + 1 => exStep t want (exSt t want k) (bitsN t.length k)

/-- fewer, or as many and the lesser -/
def Le (x y : List Nat) : Prop := x.length < y.length ∨ (x.length = y.length ∧ LexLe x y)
theorem Le.refl (x : List Nat) : Le x x := Or.inr ⟨rfl, LexLe.refl x⟩
theorem lexLe_trans : ∀ {x y z : List Nat}, x.length = y.length → y.length = z.length → LexLe x y → LexLe y z → LexLe x z
  | [], _, _, _, _, _, _ => trivial
  | _ :: _, [], _, h, _, _, _ => by cases h
  | _ :: _, _ :: _, [], _, h, _, _ => by cases h
  | a :: r, b :: s, c :: u, h1, h2, h, k => by
    simp only [List.length_cons, Nat.add_right_cancel_iff] at h1 h2
    rcases h with h | ⟨rfl, h⟩
    · rcases k with k | ⟨rfl, _⟩
      · exact Or.inl (by omega)
      · exact Or.inl h
    · rcases k with k | ⟨rfl, k⟩
      · exact Or.inl k
      · exact Or.inr ⟨rfl, lexLe_trans h1 h2 h k⟩
theorem Le.trans {x y z : List Nat} (h : Le x y) (k : Le y z) : Le x z := by
  rcases h with h | ⟨h1, h⟩
  · rcases k with k | ⟨k1, _⟩
    · exact Or.inl (by omega)
    · exact Or.inl (by omega)
  · rcases k with k | ⟨k1, k⟩
    · exact Or.inl (by omega)
    · exact Or.inr ⟨by omega, lexLe_trans h1 k1 h k⟩
theorem lexB_true : ∀ {x y : List Nat}, lexB x y = true → LexLe x y
  | [], _, _ => trivial
  | _ :: _, [], h => by cases h
  | a :: r, b :: s, h => by
    unfold lexB at h
    split at h
    · rename_i e; exact Or.inr ⟨e, lexB_true h⟩
    · exact Or.inl (of_decide_eq_true h)
theorem lexB_false : ∀ {x y : List Nat}, x.length = y.length → lexB x y = false → LexLe y x
  | _, [], _, _ => trivial
  | [], _ :: _, h, _ => by cases h
  | a :: r, b :: s, hl, h => by
    simp only [List.length_cons, Nat.add_right_cancel_iff] at hl
    unfold lexB at h
    split at h
    · rename_i e; exact Or.inr ⟨e.symm, lexB_false hl h⟩
    · rename_i e
      have := of_decide_eq_false h
      exact Or.inl (by omega)
theorem betB_true {st : Bool × List Nat} {s : List Nat} (h : betB st s = true) (hf : st.1 = true) : Le s st.2 := by
  unfold betB at h
  rw [hf] at h
  simp only [Bool.not_true, Bool.false_or, Bool.or_eq_true, Bool.and_eq_true, decide_eq_true_eq] at h
  rcases h with h | ⟨h, k⟩
  · exact Or.inl h
  · exact Or.inr ⟨h, lexB_true k⟩
theorem betB_false {st : Bool × List Nat} {s : List Nat} (h : betB st s = false) : st.1 = true ∧ Le st.2 s := by
  unfold betB at h
  simp only [Bool.or_eq_false_iff, Bool.and_eq_false_iff, Bool.not_eq_false', decide_eq_false_iff_not] at h
  obtain ⟨⟨h1, h2⟩, h3⟩ := h
  refine ⟨h1, ?_⟩
  rcases h3 with h3 | h3
  · exact Or.inl (by omega)
  · by_cases e : s.length = st.2.length
    · exact Or.inr ⟨e.symm, lexB_false e h3⟩
    · exact Or.inl (by omega)

/-- what has been found among the first k -/
structure Found (t : List Int) (want : Int) (k : Nat) (st : Bool × List Nat) : Prop where
  no : st.1 = false → st.2 = [] ∧ ∀ w, w < k → sumL t (bitsN t.length w) ≠ want
  yes : st.1 = true → (∃ w, w < k ∧ st.2 = bitsN t.length w ∧ sumL t st.2 = want) ∧ ∀ w, w < k → sumL t (bitsN t.length w) = want → Le st.2 (bitsN t.length w)
theorem found_any (t : List Int) (want : Int) : ∀ k, Found t want k (exSt t want k)
  | 0 => ⟨fun _ => ⟨rfl, fun w hw => absurd hw (Nat.not_lt_zero _)⟩, fun h => (by cases h)⟩
  | k + 1 => by
    have ih := found_any t want k
    show Found t want (k + 1) (exStep t want (exSt t want k) (bitsN t.length k))
    unfold exStep
    split
    · rename_i hs
      split
      · rename_i hb
        refine ⟨fun h => (by cases h), fun _ => ⟨⟨k, by omega, rfl, hs⟩, fun w hw he => ?_⟩⟩
        by_cases e : w = k
        · subst e; exact Le.refl _
        · have hw' : w < k := by omega
          cases hf : (exSt t want k).1 with
          | false => exact absurd he ((ih.no hf).2 w hw')
          | true => exact (betB_true hb hf).trans ((ih.yes hf).2 w hw' he)
      · rename_i hb
        obtain ⟨hf, hle⟩ := betB_false (bool_not hb)
        refine ⟨fun h => (by rw [hf] at h; cases h), fun _ => ⟨?_, fun w hw he => ?_⟩⟩
        · obtain ⟨w, hw, a, b⟩ := (ih.yes hf).1
          exact ⟨w, by omega, a, b⟩
        · by_cases e : w = k
          · subst e; exact hle
          · exact (ih.yes hf).2 w (by omega) he
    · rename_i hs
      refine ⟨fun h => ⟨(ih.no h).1, fun w hw => ?_⟩, fun h => ⟨?_, fun w hw he => ?_⟩⟩
      · by_cases e : w = k
        · subst e; exact hs
        · exact (ih.no h).2 w (by omega)
      · obtain ⟨w, hw, a, b⟩ := (ih.yes h).1
        exact ⟨w, by omega, a, b⟩
      · by_cases e : w = k
        · subst e; exact absurd he hs
        · exact (ih.yes h).2 w (by omega) he

/-! every way is one of the numbers' -/
theorem sorted_ext : ∀ {x y : List Nat}, x.Pairwise (· < ·) → y.Pairwise (· < ·) → (∀ k, k ∈ x ↔ k ∈ y) → x = y
  | [], [], _, _, _ => rfl
  | [], b :: s, _, _, h => by have := (h b).2 (List.mem_cons_self ..); cases this
  | a :: r, [], _, _, h => by have := (h a).1 (List.mem_cons_self ..); cases this
  | a :: r, b :: s, hx, hy, h => by
    obtain ⟨hx1, hx2⟩ := List.pairwise_cons.1 hx
    obtain ⟨hy1, hy2⟩ := List.pairwise_cons.1 hy
    have hab : a = b := by
      rcases List.mem_cons.1 ((h a).1 (List.mem_cons_self ..)) with e | e
      · exact e
      · rcases List.mem_cons.1 ((h b).2 (List.mem_cons_self ..)) with e' | e'
        · exact e'.symm
        · have := hy1 a e; have := hx1 b e'; omega
    subst hab
    rw [sorted_ext hx2 hy2 (fun k => ?_)]
    constructor
    · intro hk
      rcases List.mem_cons.1 ((h k).1 (List.mem_cons_of_mem _ hk)) with e | e
      · have := hx1 k hk; omega
      · exact e
    · intro hk
      rcases List.mem_cons.1 ((h k).2 (List.mem_cons_of_mem _ hk)) with e | e
      · have := hy1 k hk; omega
      · exact e
theorem mask_ex (p : Nat → Bool) : ∀ n, ∃ w, w < 2 ^ n ∧ ∀ i, i < n → w.testBit i = p i
  | 0 => ⟨0, by decide, fun i hi => by omega⟩
  | n + 1 => by
    obtain ⟨w, hw, hb⟩ := mask_ex p n
    cases hp : p n with
    | false =>
      refine ⟨w, by rw [Nat.pow_succ]; omega, fun i hi => ?_⟩
      by_cases e : i = n
      · subst e; rw [hp]; exact Nat.testBit_lt_two_pow hw
      · exact hb i (by omega)
    | true =>
      refine ⟨2 ^ n + w, by rw [Nat.pow_succ]; omega, fun i hi => ?_⟩
      by_cases e : i = n
      · subst e; rw [hp, Nat.testBit_two_pow_add_eq, Nat.testBit_lt_two_pow hw]; rfl
      · rw [Nat.testBit_two_pow_add_gt (by omega)]
        exact hb i (by omega)
theorem way_bits {t : List Int} {m : Nat} {want : Int} {y : List Nat} (h : Way t m 0 want y) : ∃ w, w < 2 ^ t.length ∧ bitsN t.length w = y := by
  obtain ⟨w, hw, hb⟩ := mask_ex (fun i => decide (i ∈ y)) t.length
  refine ⟨w, hw, sorted_ext (List.Pairwise.filter _ List.pairwise_lt_range) h.rises (fun k => ?_)⟩
  unfold bitsN idxB
  rw [List.mem_filter, List.mem_range]
  constructor
  · rintro ⟨h1, h2⟩
    rw [hb k h1] at h2
    exact of_decide_eq_true h2
  · intro hk
    have := h.all k hk
    exact ⟨this.2, by rw [hb k this.2]; exact decide_eq_true hk⟩
/-- all ways tried: what pick finds -/
theorem exSt_all {t : List Int} (hb : Bound t) (ht : t.length ≤ 1000) (want : Int) : exSt t want (2 ^ t.length) = ((exactM t want).isSome, (exactM t want).getD []) := by
  have hf := found_any t want (2 ^ t.length)
  have hbw : ∀ w, Way t (bitsN t.length w).length 0 (sumL t (bitsN t.length w)) (bitsN t.length w) := fun w => idxB_way t _ (Nat.le_refl _)
  cases he : exactM t want with
  | none =>
    cases h1 : (exSt t want (2 ^ t.length)).1 with
    | false => exact Prod.ext h1 (hf.no h1).1
    | true =>
      obtain ⟨w, _, e, hs⟩ := (hf.yes h1).1
      have hw := hbw w
      rw [← e, hs] at hw
      obtain ⟨x, hx, _⟩ := exact_least hb ht hw
      rw [hx] at he; cases he
  | some x =>
    have hx := exact_way he
    obtain ⟨w0, hw0, e0⟩ := way_bits hx
    have hs0 : sumL t (bitsN t.length w0) = want := by rw [e0]; exact hx.sum
    cases h1 : (exSt t want (2 ^ t.length)).1 with
    | false => exact absurd hs0 ((hf.no h1).2 w0 hw0)
    | true =>
      refine Prod.ext h1 ?_
      show _ = x
      obtain ⟨⟨w, _, e, hs⟩, hle⟩ := hf.yes h1
      have l1 := hle w0 hw0 hs0
      rw [e0] at l1
      have hw := hbw w
      rw [← e, hs] at hw
      obtain ⟨z, hz, l2⟩ := exact_least hb ht hw
      rw [he] at hz
      injection hz with hz
      subst hz
      rcases l1 with l1 | ⟨l1, l1'⟩
      · rcases l2 with l2 | ⟨l2, _⟩ <;> omega
      · rcases l2 with l2 | ⟨l2, l2'⟩
        · omega
        · exact LexLe.antisymm l1 l1' l2'
end Go.Proofs.YtbhndnjlplibmaaDoor.mt
