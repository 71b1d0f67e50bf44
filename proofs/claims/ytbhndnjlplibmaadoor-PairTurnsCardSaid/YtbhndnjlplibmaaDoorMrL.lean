/- What is open is what is not paid, in plain terms. -/
import Derived.Test.YtbhndnjlplibmaaDoorMtL
namespace Go.Proofs.YtbhndnjlplibmaaDoor
open Go.RowKit
namespace fifo

theorem outerOk (its : List ItemM) : OuterOk (amts its) its.length := outer_ok _ _ (by rw [amts_len]; exact Nat.le_refl _)
theorem setsF_at {its : List ItemM} {j : Nat} {p : Nat × Nat × Int} (h : (setsF its)[j]? = some p) : p.1 < p.2.1 ∧ p.2.1 < its.length ∧ 1 ≤ p.2.2 ∧ opp ((amts its).getD p.1 0) ((amts its).getD p.2.1 0) = true :=
  (outerOk its).pairs p (List.mem_of_getElem? h)
/-- of contrary signs: one above 0, the other not -/
theorem opp_sign {a n : Int} (h : opp a n = true) : (decide (0 < a) == decide (0 < n)) = false := by
  rw [opp_iff] at h
  rcases h with ⟨h1, h2⟩ | ⟨h1, h2⟩
  · rw [decide_eq_false (by omega), decide_eq_true h1]; rfl
  · rw [decide_eq_true h2, decide_eq_false (by omega)]; rfl

theorem used_take_succ (S : List (Nat × Nat × Int)) {j : Nat} {p : Nat × Nat × Int} (h : S[j]? = some p) (x : Nat) : used (S.take (j + 1)) x = used (S.take j) x + if p.1 = x ∨ p.2.1 = x then p.2.2 else 0 := by
  obtain ⟨hj, rfl⟩ := List.getElem?_eq_some_iff.1 h
  rw [List.take_succ_eq_append_getElem hj, used_append]
  simp [used]
theorem used_nonneg (S : List (Nat × Nat × Int)) (h : ∀ p ∈ S, 1 ≤ p.2.2) (x : Nat) : 0 ≤ used S x := by
  induction S with
  | nil => exact Int.le_refl 0
  | cons p S ih =>
    have h1 := h p (by simp)
    have h2 := ih (fun q hq => h q (by simp [hq]))
    unfold used at h2 ⊢
    rw [List.map_cons, List.sum_cons]
    split <;> omega
theorem used_take_le (S : List (Nat × Nat × Int)) (h : ∀ p ∈ S, 1 ≤ p.2.2) (j x : Nat) : used (S.take j) x ≤ used S x := by
  have e : used S x = used (S.take j) x + used (S.drop j) x := by rw [← used_append, List.take_append_drop]
  have := used_nonneg (S.drop j) (fun p hp => h p (List.mem_of_mem_drop hp)) x
  omega
/-- what is not yet set off of each, behind j sets -/
def remL (its : List ItemM) (j : Nat) : List Int := (List.range its.length).map fun x => absN ((amts its).getD x 0) - used ((setsF its).take j) x
theorem remL_len (its : List ItemM) (j : Nat) : (remL its j).length = its.length := by simp [remL]
theorem remL_get (its : List ItemM) (j : Nat) {x : Nat} (h : x < its.length) : (remL its j).getD x 0 = absN ((amts its).getD x 0) - used ((setsF its).take j) x := by simp [remL, h]
theorem remL_bound (its : List ItemM) (j : Nat) {x : Nat} (h : x < its.length) : 0 ≤ (remL its j).getD x 0 ∧ (remL its j).getD x 0 ≤ absN ((amts its).getD x 0) := by
  rw [remL_get its j h]
  have ho := outerOk its
  have h1 := ho.use x h
  have hp : ∀ p ∈ setsF its, 1 ≤ p.2.2 := fun p hp => (ho.pairs p hp).2.2.1
  have h2 := used_take_le (setsF its) hp j x
  have h3 := used_nonneg ((setsF its).take j) (fun p hq => hp p (List.mem_of_mem_take hq)) x
  have h4 := absN_pos (ho.less x h)
  have h5 : used (outer (amts its) its.length).2 x = used (setsF its) x := rfl
  omega
theorem remL_zero (its : List ItemM) : remL its 0 = (amts its).map absN := by
  apply List.ext_getElem?
  intro i
  simp only [remL, List.getElem?_map]
  by_cases h : i < its.length
  · rw [List.getElem?_range h]
    have : (amts its)[i]? = some ((amts its).getD i 0) := by simp [amts, h]
    rw [this]
    simp [used]
  · rw [List.getElem?_eq_none (by simpa using h), List.getElem?_eq_none (by rw [amts_len]; omega)]
    rfl
theorem getD_eq_ext {A B : List Int} (hl : A.length = B.length) (h : ∀ i, i < A.length → A.getD i 0 = B.getD i 0) : A = B := by
  apply List.ext_getElem hl
  intro i h1 h2
  have := h i h1
  simpa [h1, h2] using this
theorem remL_step (its : List ItemM) {j : Nat} {a b : Nat} {n : Int} (h : (setsF its)[j]? = some (a, b, n)) :
    remL its (j + 1) = ((remL its j).set a ((remL its j).getD a 0 - n)).set b ((remL its j).getD b 0 - n) := by
  obtain ⟨h1, h2, _, _⟩ := setsF_at h
  simp only [] at h1 h2
  apply getD_eq_ext
  · simp [remL_len]
  · intro x hx
    rw [remL_len] at hx
    rw [remL_get its (j + 1) hx, used_take_succ _ h]
    by_cases hb : x = b
    · subst hb
      rw [getD_set_same (by simp [remL_len]; omega), remL_get its j hx, if_pos (Or.inr rfl)]
      simp only []; omega
    · rw [getD_set_ne (fun e => hb e.symm)]
      by_cases ha : x = a
      · subst ha
        rw [getD_set_same (by rw [remL_len]; omega), remL_get its j hx, if_pos (Or.inl rfl)]
        simp only []; omega
      · rw [getD_set_ne (fun e => ha e.symm), remL_get its j hx, if_neg (by simp only []; omega)]
        omega
end fifo

/-! what is open -/
theorem sum_snoc (A : List Int) (x : Int) : (A ++ [x]).sum = A.sum + x := by simp
theorem take_sum_succ (L : List Int) {k : Nat} (h : k < L.length) : (L.take (k + 1)).sum = (L.take k).sum + L.getD k 0 := by
  rw [List.take_succ_eq_append_getElem h, sum_snoc]
  simp [h]
theorem openTo_sum (its : List ItemM) (L : List Int) : ∀ k, k ≤ L.length → (amts (openTo its L k)).sum = (L.take k).sum
  | 0, _ => by simp [openTo, amts]
  | k + 1, h => by
    have ih := openTo_sum its L k (by omega)
    rw [take_sum_succ L (by omega), ← ih, openTo]
    unfold amts
    rw [List.map_append, List.sum_append]
    split
    · rename_i h0; simp; rw [List.getD_eq_getElem?_getD] at h0; omega
    · simp
theorem openF_sum (its : List ItemM) : (amts (openF its)).sum = (amts its).sum := by
  unfold openF
  rw [openTo_sum its _ _ (by rw [leftF_len]; exact Nat.le_refl _), List.take_of_length_le (by rw [leftF_len]; exact Nat.le_refl _)]
  have := (fifo.outerOk its).sum
  rw [List.take_of_length_le (by rw [amts_len]; exact Nat.le_refl _)] at this
  exact this
/-- each that is open is one of those given, with what is left of it -/
theorem openTo_mem {its : List ItemM} {L : List Int} : ∀ {k : Nat} {x : ItemM}, x ∈ openTo its L k → ∃ i, i < k ∧ x = ⟨(its.getD i default).ref, (its.getD i default).per, L.getD i 0⟩ ∧ L.getD i 0 ≠ 0
  | 0, x, h => by cases h
  | k + 1, x, h => by
    rw [openTo] at h
    rcases List.mem_append.1 h with h | h
    · obtain ⟨i, hi, hx⟩ := openTo_mem h
      exact ⟨i, by omega, hx⟩
    · split at h
      · cases h
      · rename_i h0
        rw [List.mem_singleton] at h
        exact ⟨k, by omega, h, h0⟩
theorem getD_get {its : List ItemM} {i : Nat} (h : i < its.length) : its[i]? = some (its.getD i default) := by simp [h]
theorem amts_at (its : List ItemM) (i : Nat) : (amts its).getD i 0 = (its.getD i default).amt := by
  unfold amts
  simp only [List.getD_eq_getElem?_getD, List.getElem?_map]
  cases its[i]? <;> rfl

/-- periods rise -/
theorem per_le {its : List ItemM} (h : itemsF its = 0) : ∀ (d i : Nat), i + d < its.length → (its.getD i default).per ≤ (its.getD (i + d) default).per
  | 0, i, _ => Int.le_refl _
  | d + 1, i, hd => by
    have ih := per_le h d i (by omega)
    have h1 := ((itemsF_zero h).2 (i + (d + 1)) _ (getD_get hd)).2.2.2.2 (by omega)
    rw [show i + (d + 1) - 1 = i + d by omega] at h1
    exact Int.le_trans ih h1
theorem per_mono {its : List ItemM} (h : itemsF its = 0) {i j : Nat} (hij : i ≤ j) (hj : j < its.length) : (its.getD i default).per ≤ (its.getD j default).per := by
  have := per_le h (j - i) i (by omega)
  rwa [show i + (j - i) = j by omega] at this

/-- rising, and no later than p -/
def risesTo (l : List ItemM) (p : Int) : Prop := (∀ x ∈ l, x.per ≤ p) ∧ ∀ k, k + 1 < l.length → (l.getD k default).per ≤ (l.getD (k + 1) default).per
theorem risesTo_snoc {l : List ItemM} {p : Int} (h : risesTo l p) (x : ItemM) (hx : p ≤ x.per) : risesTo (l ++ [x]) x.per := by
  refine ⟨fun y hy => ?_, fun k hk => ?_⟩
  · rcases List.mem_append.1 hy with hy | hy
    · exact Int.le_trans (h.1 y hy) hx
    · rw [List.mem_singleton.1 hy]; exact Int.le_refl _
  · rw [List.length_append, List.length_singleton] at hk
    have hk0 : (l ++ [x]).getD k default = l.getD k default := by simp [List.getElem?_append_left (show k < l.length by omega)]
    rw [hk0]
    by_cases h1 : k + 1 < l.length
    · have : (l ++ [x]).getD (k + 1) default = l.getD (k + 1) default := by simp [List.getElem?_append_left h1]
      rw [this]; exact h.2 k h1
    · have e : k + 1 = l.length := by omega
      have : (l ++ [x]).getD (k + 1) default = x := by rw [e]; simp
      rw [this]
      have hm : l.getD k default ∈ l := by
        have : k < l.length := by omega
        simp [this]
      exact Int.le_trans (h.1 _ hm) hx
theorem risesTo_more {l : List ItemM} {p q : Int} (h : risesTo l p) (hq : p ≤ q) : risesTo l q := ⟨fun x hx => Int.le_trans (h.1 x hx) hq, h.2⟩
theorem openTo_rises {its : List ItemM} (h : itemsF its = 0) (L : List Int) : ∀ k, k < its.length → risesTo (openTo its L (k + 1)) (its.getD k default).per
  | 0, h0 => by
    rw [openTo]
    have h1 : risesTo (openTo its L 0) (its.getD 0 default).per := ⟨fun x hx => (by cases hx), fun k hk => (by simp [openTo] at hk)⟩
    split
    · rw [List.append_nil]; exact h1
    · exact risesTo_snoc h1 _ (Int.le_refl _)
  | k + 1, h1 => by
    have ih := openTo_rises h L k (by omega)
    have hm := per_mono h (show k ≤ k + 1 by omega) h1
    rw [openTo]
    split
    · rw [List.append_nil]; exact risesTo_more ih hm
    · exact risesTo_snoc ih _ hm
theorem open_rises {its : List ItemM} (h : itemsF its = 0) : ∀ k, k + 1 < (openF its).length → ((openF its).getD k default).per ≤ ((openF its).getD (k + 1) default).per := by
  intro k hk
  unfold openF at hk ⊢
  cases hn : its.length with
  | zero => rw [hn] at hk; simp [openTo] at hk
  | succ n => rw [hn] at hk; exact (openTo_rises h (leftF its) n (by omega)).2 k hk
theorem openF_len_le (its : List ItemM) : (openF its).length ≤ its.length := openTo_len _ _ _
theorem open_good {its : List ItemM} (h : itemsF its = 0) : ∀ x ∈ openF its, refB x.ref = true ∧ perB x.per = true ∧ x.amt ≠ 0 ∧ amtB x.amt = true := by
  intro x hx
  obtain ⟨i, hi, rfl, h0⟩ := openTo_mem hx
  obtain ⟨g1, g2, g3, g4, _⟩ := (itemsF_zero h).2 i _ (getD_get hi)
  refine ⟨g1, g2, h0, ?_⟩
  have hl := (fifo.outerOk its).less i hi
  rw [amts_at] at hl
  show amtB ((fifo.outer (amts its) its.length).1.getD i 0) = true
  rw [amtB_iff] at g4 ⊢
  exact fifo.less_bound hl g4
theorem open_items {its : List ItemM} (h : itemsF its = 0) : itemsF (openF its) = 0 := by
  have hl := openF_len_le its
  have hn := (itemsF_zero h).1
  rw [itemsF, if_neg (by omega)]
  apply itFrom_all
  intro i x hx
  rw [Nat.zero_add]
  obtain ⟨g1, g2, g3, g4⟩ := open_good h x (List.mem_of_getElem? hx)
  obtain ⟨hi, hxe⟩ := List.getElem?_eq_some_iff.1 hx
  unfold itOne
  rw [if_neg (by rw [g1]; simp), if_neg (by rw [g2, g4]; simp [g3]), if_neg]
  rintro ⟨hi0, hlt⟩
  have := open_rises h (i - 1) (by omega)
  rw [show i - 1 + 1 = i by omega] at this
  have e : (openF its).getD i default = x := by simp [hx]
  rw [e] at this
  omega
theorem open_sign {its : List ItemM} : fifo.oneSign (amts (openF its)) := by
  have hs := (fifo.outerOk its).sign
  rcases hs with hs | hs
  · left
    intro j
    by_cases hj : j < (openF its).length
    · rw [amts_at]
      have hm : (openF its).getD j default ∈ openF its := by simp [hj]
      obtain ⟨i, _, e, _⟩ := openTo_mem hm
      rw [e]; exact hs i
    · rw [fifo.getD_ge (by rw [amts_len]; omega)]; exact Int.le_refl 0
  · right
    intro j
    by_cases hj : j < (openF its).length
    · rw [amts_at]
      have hm : (openF its).getD j default ∈ openF its := by simp [hj]
      obtain ⟨i, _, e, _⟩ := openTo_mem hm
      rw [e]; exact hs i
    · rw [fifo.getD_ge (by rw [amts_len]; omega)]; exact Int.le_refl 0
/-- all that is open has one sign -/
theorem open_alike {its : List ItemM} (h : itemsF its = 0) {i : Nat} (hi : i < (openF its).length) : (decide (0 < ((openF its).getD i default).amt) != decide (0 < ((openF its).getD 0 default).amt)) = false := by
  have hm : ∀ j, j < (openF its).length → ((openF its).getD j default).amt ≠ 0 := fun j hj => (open_good h _ (by simp [hj])).2.2.1
  have h1 := hm i hi
  have h2 := hm 0 (by omega)
  have hs := open_sign (its := its)
  rcases hs with hs | hs
  · have a := hs i; have b := hs 0
    rw [amts_at] at a b
    rw [decide_eq_true (by omega), decide_eq_true (by omega)]; rfl
  · have a := hs i; have b := hs 0
    rw [amts_at] at a b
    rw [decide_eq_false (by omega), decide_eq_false (by omega)]; rfl
theorem open_again (its : List ItemM) : setsF (openF its) = [] ∧ leftF (openF its) = amts (openF its) := by
  have := fifo.outer_same (amts (openF its)) open_sign (openF its).length (by rw [amts_len]; exact Nat.le_refl _)
  unfold setsF leftF
  rw [this]
  exact ⟨rfl, List.take_of_length_le (by rw [amts_len]; exact Nat.le_refl _)⟩
theorem openTo_all {its : List ItemM} (h : ∀ x ∈ its, x.amt ≠ 0) : ∀ k, k ≤ its.length → openTo its (amts its) k = its.take k
  | 0, _ => rfl
  | k + 1, hk => by
    have h0 : (its.getD k default).amt ≠ 0 := h _ (by have : k < its.length := by omega
                                                      simp [this])
    rw [openTo, openTo_all h k (by omega), amts_at, if_neg h0, List.take_succ_eq_append_getElem (by omega)]
    have : its.getD k default = its[k] := by have : k < its.length := by omega
                                             simp [this]
    rw [this]
theorem open_twice {its : List ItemM} (h : itemsF its = 0) : openF (openF its) = openF its := by
  have e := (open_again its).2
  show openTo (openF its) (leftF (openF its)) (openF its).length = openF its
  rw [e, openTo_all (fun x hx => (open_good h x hx).2.2.1) _ (Nat.le_refl _), List.take_of_length_le (Nat.le_refl _)]
end Go.Proofs.YtbhndnjlplibmaaDoor
