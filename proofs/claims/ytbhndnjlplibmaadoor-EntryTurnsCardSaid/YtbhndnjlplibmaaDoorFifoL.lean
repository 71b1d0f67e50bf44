/- What match.Fifo computes, in plain terms, and what holds of it. -/
import Derived.Test.YtbhndnjlplibmaaDoorBase
namespace Go.Proofs.YtbhndnjlplibmaaDoor
open Go.RowKit
namespace fifo

/-- of contrary signs -/
def opp (a n : Int) : Bool := (decide (0 < n) && decide (a < 0)) || (decide (n < 0) && decide (0 < a))
def absN (a : Int) : Int := if a < 0 then -a else a
def cutN (a n : Int) : Int := if absN a < absN n then absN a else absN n
def mvA (a n : Int) : Int := if 0 < n then a + cutN a n else a - cutN a n
def mvN (a n : Int) : Int := if 0 < n then n - cutN a n else n + cutN a n
/-- an item of n among k that are left -/
def inner (L : List Int) (n : Int) : Nat → List Int × Int × List (Nat × Int)
  | 0 => (L, n, [])
  | k + 1 =>
    let r := inner L n k
    if opp (r.1.getD k 0) r.2.1 = true then (r.1.set k (mvA (r.1.getD k 0) r.2.1), mvN (r.1.getD k 0) r.2.1, r.2.2 ++ [(k, cutN (r.1.getD k 0) r.2.1)]) else r
/-- what is left of the first i, and what was set off -/
def outer (t : List Int) : Nat → List Int × List (Nat × Nat × Int)
  | 0 => ([], [])
  | i + 1 =>
    let r := outer t i
    let s := inner r.1 (t.getD i 0) i
    (s.1 ++ [s.2.1], r.2 ++ s.2.2.map fun p => (p.1, i, p.2))

theorem opp_iff {a n : Int} : opp a n = true ↔ (0 < n ∧ a < 0) ∨ (n < 0 ∧ 0 < a) := by simp [opp]
theorem opp_not {a n : Int} : opp a n = false ↔ ¬ ((0 < n ∧ a < 0) ∨ (n < 0 ∧ 0 < a)) := by rw [← opp_iff]; simp

theorem inner_len (L : List Int) (n : Int) : ∀ k, (inner L n k).1.length = L.length
  | 0 => rfl
  | k + 1 => by
    have ih := inner_len L n k
    rw [inner]
    split
    · simpa using ih
    · exact ih
theorem outer_len (t : List Int) : ∀ i, (outer t i).1.length = i
  | 0 => rfl
  | i + 1 => by simp [outer, inner_len, outer_len t i]

/-- the later ones are untouched -/
theorem inner_later (L : List Int) (n : Int) : ∀ k j, k ≤ j → (inner L n k).1.getD j 0 = L.getD j 0
  | 0, _, _ => rfl
  | k + 1, j, h => by
    have ih := inner_later L n k j (by omega)
    rw [inner]
    split
    · simp only [List.getD_eq_getElem?_getD, List.getElem?_set] at ih ⊢
      rw [if_neg (by omega)]; exact ih
    · exact ih

/-- a is what is left of b -/
def lessOf (a b : Int) : Prop := (0 ≤ a ∧ a ≤ b) ∨ (b ≤ a ∧ a ≤ 0)
theorem lessOf.refl (a : Int) : lessOf a a := by unfold lessOf; omega
theorem lessOf.trans {a b c : Int} (h : lessOf a b) (k : lessOf b c) : lessOf a c := by unfold lessOf at *; omega
theorem step_less {a n : Int} (h : opp a n = true) : lessOf (mvA a n) a ∧ lessOf (mvN a n) n ∧ 1 ≤ cutN a n ∧ mvA a n + mvN a n = a + n ∧ (mvA a n = 0 ∨ mvN a n = 0) ∧ absN a - absN (mvA a n) = cutN a n ∧ absN n - absN (mvN a n) = cutN a n := by
  rw [opp_iff] at h
  unfold lessOf mvA mvN cutN absN
  rcases h with ⟨h1, h2⟩ | ⟨h1, h2⟩ <;> (repeat' split) <;> omega

theorem getD_set_same {L : List Int} {k : Nat} (h : k < L.length) (x : Int) : (L.set k x).getD k 0 = x := by simp [h]
theorem getD_set_ne {L : List Int} {k j : Nat} (h : k ≠ j) (x : Int) : (L.set k x).getD j 0 = L.getD j 0 := by simp [h]

/-- what is so behind k rounds -/
structure InnerOk (L : List Int) (n : Int) (k : Nat) : Prop where
  n_ : lessOf (inner L n k).2.1 n
  l_ : ∀ j, lessOf ((inner L n k).1.getD j 0) (L.getD j 0)
  done : ∀ j, j < k → opp ((inner L n k).1.getD j 0) (inner L n k).2.1 = false
  pairs : ∀ p ∈ (inner L n k).2.2, p.1 < k ∧ 1 ≤ p.2 ∧ opp (L.getD p.1 0) n = true
theorem inner_ok (L : List Int) (n : Int) : ∀ k, k ≤ L.length → InnerOk L n k
  | 0, _ => ⟨lessOf.refl _, fun _ => lessOf.refl _, fun j h => absurd h (by omega), fun p h => by cases h⟩
  | k + 1, hk => by
    have ih := inner_ok L n k (by omega)
    have hlen := inner_len L n k
    have hlat := inner_later L n k k (Nat.le_refl _)
    by_cases ho : opp ((inner L n k).1.getD k 0) (inner L n k).2.1 = true
    · have e : inner L n (k + 1) = ((inner L n k).1.set k (mvA ((inner L n k).1.getD k 0) (inner L n k).2.1), mvN ((inner L n k).1.getD k 0) (inner L n k).2.1, (inner L n k).2.2 ++ [(k, cutN ((inner L n k).1.getD k 0) (inner L n k).2.1)]) := by rw [inner, if_pos ho]
      obtain ⟨s1, s2, s3, s4, s5, _⟩ := step_less ho
      refine ⟨?_, fun j => ?_, fun j hj => ?_, fun p hp => ?_⟩
      · rw [e]; exact s2.trans ih.n_
      · rw [e]
        by_cases hj : k = j
        · subst hj
          show lessOf (List.getD (List.set _ _ _) _ _) _
          rw [getD_set_same (by omega)]
          exact s1.trans (ih.l_ k)
        · show lessOf (List.getD (List.set _ _ _) _ _) _
          rw [getD_set_ne hj]; exact ih.l_ j
      · rw [e]
        by_cases hjk : k = j
        · subst hjk
          show opp (List.getD (List.set _ _ _) _ _) _ = false
          rw [getD_set_same (by omega), opp_not]
          show ¬ ((0 < mvN _ _ ∧ _) ∨ (mvN _ _ < 0 ∧ _))
          omega
        · show opp (List.getD (List.set _ _ _) _ _) _ = false
          rw [getD_set_ne hjk]
          have hd := ih.done j (by omega)
          rw [opp_not] at hd ⊢
          show ¬ ((0 < mvN _ _ ∧ _) ∨ (mvN _ _ < 0 ∧ _))
          unfold lessOf at s2
          omega
      · rw [e] at hp
        rcases List.mem_append.1 hp with hp | hp
        · obtain ⟨a, b, c⟩ := ih.pairs p hp
          exact ⟨by omega, b, c⟩
        · rw [List.mem_singleton] at hp
          subst hp
          refine ⟨by simp, s3, ?_⟩
          rw [← hlat]
          have h1 := ih.n_
          rw [opp_iff] at ho ⊢
          unfold lessOf at h1
          omega
    · have e : inner L n (k + 1) = inner L n k := by rw [inner, if_neg ho]
      have ho' : opp ((inner L n k).1.getD k 0) (inner L n k).2.1 = false := by simpa using ho
      refine ⟨by rw [e]; exact ih.n_, fun j => by rw [e]; exact ih.l_ j, fun j hj => ?_, fun p hp => ?_⟩
      · rw [e]
        by_cases hjk : j = k
        · subst hjk; exact ho'
        · exact ih.done j (by omega)
      · rw [e] at hp
        obtain ⟨a, b, c⟩ := ih.pairs p hp
        exact ⟨by omega, b, c⟩

/-- how much of an item was set off -/
def used1 (S : List (Nat × Int)) (j : Nat) : Int := (S.map fun p => if p.1 = j then p.2 else 0).sum
def all1 (S : List (Nat × Int)) : Int := (S.map fun p => p.2).sum
theorem used1_snoc (S : List (Nat × Int)) (p : Nat × Int) (j : Nat) : used1 (S ++ [p]) j = used1 S j + if p.1 = j then p.2 else 0 := by simp [used1]
theorem all1_snoc (S : List (Nat × Int)) (p : Nat × Int) : all1 (S ++ [p]) = all1 S + p.2 := by simp [all1]
theorem inner_used (L : List Int) (n : Int) : ∀ k, k ≤ L.length → (∀ j, absN (L.getD j 0) - absN ((inner L n k).1.getD j 0) = used1 (inner L n k).2.2 j) ∧ absN n - absN (inner L n k).2.1 = all1 (inner L n k).2.2
  | 0, _ => ⟨fun j => by simp [inner, used1], by simp [inner, all1]⟩
  | k + 1, hk => by
    obtain ⟨i1, i2⟩ := inner_used L n k (by omega)
    have hlen := inner_len L n k
    by_cases ho : opp ((inner L n k).1.getD k 0) (inner L n k).2.1 = true
    · have e : inner L n (k + 1) = ((inner L n k).1.set k (mvA ((inner L n k).1.getD k 0) (inner L n k).2.1), mvN ((inner L n k).1.getD k 0) (inner L n k).2.1, (inner L n k).2.2 ++ [(k, cutN ((inner L n k).1.getD k 0) (inner L n k).2.1)]) := by rw [inner, if_pos ho]
      obtain ⟨_, _, _, _, _, s6, s7⟩ := step_less ho
      rw [e]
      refine ⟨fun j => ?_, ?_⟩
      · show absN _ - absN (List.getD (List.set _ _ _) _ _) = used1 (_ ++ [_]) j
        rw [used1_snoc]
        by_cases hj : k = j
        · subst hj
          rw [getD_set_same (by omega), if_pos rfl]
          have := i1 k
          omega
        · rw [getD_set_ne hj, if_neg (by simpa using hj)]
          have := i1 j
          omega
      · show absN n - absN (mvN _ _) = all1 (_ ++ [_])
        rw [all1_snoc]
        show _ = _ + cutN _ _
        omega
    · have e : inner L n (k + 1) = inner L n k := by rw [inner, if_neg ho]
      rw [e]; exact ⟨i1, i2⟩
theorem absN_pos {a b : Int} (h : lessOf a b) : absN a ≤ absN b ∧ 0 ≤ absN a := by
  unfold lessOf at h; unfold absN
  constructor <;> (repeat' split) <;> omega

theorem inner_sum (L : List Int) (n : Int) : ∀ k, k ≤ L.length → (inner L n k).1.sum + (inner L n k).2.1 = L.sum + n
  | 0, _ => rfl
  | k + 1, hk => by
    have ih := inner_sum L n k (by omega)
    have hlen := inner_len L n k
    by_cases ho : opp ((inner L n k).1.getD k 0) (inner L n k).2.1 = true
    · have e : inner L n (k + 1) = ((inner L n k).1.set k (mvA ((inner L n k).1.getD k 0) (inner L n k).2.1), mvN ((inner L n k).1.getD k 0) (inner L n k).2.1, (inner L n k).2.2 ++ [(k, cutN ((inner L n k).1.getD k 0) (inner L n k).2.1)]) := by rw [inner, if_pos ho]
      obtain ⟨_, _, _, s4, _, _, _⟩ := step_less ho
      rw [e]
      show (List.set _ _ _).sum + mvN _ _ = _
      have hset : ∀ (M : List Int) (i : Nat) (x : Int), i < M.length → (M.set i x).sum = M.sum - M.getD i 0 + x := by
        intro M
        induction M with
        | nil => intro i x h; simp at h
        | cons a M ihM =>
          intro i x h
          cases i with
          | zero => simp; omega
          | succ i =>
            have := ihM i x (by simpa using h)
            simp only [List.set_cons_succ, List.sum_cons, List.getD_cons_succ, this]
            omega
      rw [hset _ _ _ (by omega)]
      omega
    · have e : inner L n (k + 1) = inner L n k := by rw [inner, if_neg ho]
      rw [e]; exact ih

/-- all have one sign, or none -/
def oneSign (L : List Int) : Prop := (∀ j, 0 ≤ L.getD j 0) ∨ (∀ j, L.getD j 0 ≤ 0)
theorem getD_snoc (L : List Int) (x : Int) (j : Nat) : (L ++ [x]).getD j 0 = if j < L.length then L.getD j 0 else if j = L.length then x else 0 := by
  simp only [List.getD_eq_getElem?_getD]
  by_cases h : j < L.length
  · rw [if_pos h, List.getElem?_append_left h]
  · rw [if_neg h, List.getElem?_append_right (by omega)]
    by_cases h2 : j = L.length
    · rw [if_pos h2, h2]; simp
    · rw [if_neg h2, List.getElem?_eq_none (by simp; omega)]; rfl
theorem getD_ge {L : List Int} {j : Nat} (h : L.length ≤ j) : L.getD j 0 = 0 := by simp [List.getElem?_eq_none h]
theorem inner_sign (L : List Int) (n : Int) (h : oneSign L) : oneSign ((inner L n L.length).1 ++ [(inner L n L.length).2.1]) := by
  have ho := inner_ok L n L.length (Nat.le_refl _)
  have hl := inner_len L n L.length
  have hdone := ho.done
  have hless := ho.l_
  clear ho
  generalize inner L n L.length = r at *
  have h0 : ∀ j, L.length ≤ j → r.1.getD j 0 = 0 := fun j hj => getD_ge (by omega)
  have key : ∀ j, ¬ ((0 < r.2.1 ∧ r.1.getD j 0 < 0) ∨ (r.2.1 < 0 ∧ 0 < r.1.getD j 0)) := fun j => by
    by_cases hj : j < L.length
    · exact opp_not.1 (hdone j hj)
    · rw [h0 j (by omega)]; omega
  unfold oneSign
  by_cases hp : 0 < r.2.1
  · left
    intro j
    have := key j
    rw [getD_snoc]
    split
    · omega
    · split <;> omega
  · by_cases hn : r.2.1 < 0
    · right
      intro j
      have := key j
      rw [getD_snoc]
      split
      · omega
      · split <;> omega
    · rcases h with h | h
      · left
        intro j
        have h1 := hless j
        have h2 := h j
        unfold lessOf at h1
        rw [getD_snoc]
        split
        · omega
        · split <;> omega
      · right
        intro j
        have h1 := hless j
        have h2 := h j
        unfold lessOf at h1
        rw [getD_snoc]
        split
        · omega
        · split <;> omega

def used (S : List (Nat × Nat × Int)) (j : Nat) : Int := (S.map fun p => if p.1 = j ∨ p.2.1 = j then p.2.2 else 0).sum
theorem used_append (S T : List (Nat × Nat × Int)) (j : Nat) : used (S ++ T) j = used S j + used T j := by simp [used]
theorem used_map (S : List (Nat × Int)) (i j : Nat) (hj : j < i) : used (S.map fun p => (p.1, i, p.2)) j = used1 S j := by
  unfold used used1
  rw [List.map_map]
  congr 1
  apply List.map_congr_left
  intro p _
  simp only [Function.comp]
  by_cases h : p.1 = j
  · rw [if_pos (Or.inl h), if_pos h]
  · rw [if_neg (by omega), if_neg h]
theorem used_self (S : List (Nat × Int)) (i : Nat) : used (S.map fun p => (p.1, i, p.2)) i = all1 S := by
  unfold used all1
  rw [List.map_map]
  congr 1
  apply List.map_congr_left
  intro p _
  simp
theorem used_none (S : List (Nat × Nat × Int)) (j : Nat) (h : ∀ p ∈ S, p.1 < j ∧ p.2.1 < j) : used S j = 0 := by
  induction S with
  | nil => rfl
  | cons p S ih =>
    have h1 := h p (by simp)
    have h2 := ih (fun q hq => h q (by simp [hq]))
    unfold used at h2 ⊢
    rw [List.map_cons, List.sum_cons, h2, if_neg (by omega)]
    rfl

structure OuterOk (t : List Int) (i : Nat) : Prop where
  less : ∀ j, j < i → lessOf ((outer t i).1.getD j 0) (t.getD j 0)
  sign : oneSign (outer t i).1
  pairs : ∀ p ∈ (outer t i).2, p.1 < p.2.1 ∧ p.2.1 < i ∧ 1 ≤ p.2.2 ∧ opp (t.getD p.1 0) (t.getD p.2.1 0) = true
  use : ∀ j, j < i → absN (t.getD j 0) - absN ((outer t i).1.getD j 0) = used (outer t i).2 j
  sum : (outer t i).1.sum = (t.take i).sum
theorem outer_ok (t : List Int) : ∀ i, i ≤ t.length → OuterOk t i
  | 0, _ => ⟨fun j h => absurd h (by omega), Or.inl (fun j => by simp [outer]), (fun p h => by cases h), fun j h => absurd h (by omega), by simp [outer]⟩
  | i + 1, hi => by
    have ih := outer_ok t i (by omega)
    have hl := outer_len t i
    have hI := inner_ok (outer t i).1 (t.getD i 0) i (by omega)
    obtain ⟨hU1, hU2⟩ := inner_used (outer t i).1 (t.getD i 0) i (by omega)
    have hS := inner_sum (outer t i).1 (t.getD i 0) i (by omega)
    have hG := inner_sign (outer t i).1 (t.getD i 0) ih.sign
    have hil := inner_len (outer t i).1 (t.getD i 0) i
    rw [hl] at hG
    have e : outer t (i + 1) = ((inner (outer t i).1 (t.getD i 0) i).1 ++ [(inner (outer t i).1 (t.getD i 0) i).2.1], (outer t i).2 ++ (inner (outer t i).1 (t.getD i 0) i).2.2.map fun p => (p.1, i, p.2)) := rfl
    rw [hl] at hil
    refine ⟨fun j hj => ?_, by rw [e]; exact hG, fun p hp => ?_, fun j hj => ?_, ?_⟩
    · rw [e]
      show lessOf (List.getD (_ ++ [_]) _ _) _
      rw [getD_snoc, hil]
      by_cases h : j < i
      · rw [if_pos h]; exact (hI.l_ j).trans (ih.less j h)
      · rw [if_neg h, if_pos (by omega)]
        have : j = i := by omega
        subst this
        exact hI.n_
    · rw [e] at hp
      rcases List.mem_append.1 hp with hp | hp
      · obtain ⟨a, b, c, d⟩ := ih.pairs p hp
        exact ⟨a, by omega, c, d⟩
      · obtain ⟨q, hq, rfl⟩ := List.mem_map.1 hp
        obtain ⟨a, b, c⟩ := hI.pairs q hq
        refine ⟨a, by simp, b, ?_⟩
        have h1 := ih.less q.1 a
        show opp (t.getD q.1 0) (t.getD i 0) = true
        rw [opp_iff] at c ⊢
        unfold lessOf at h1
        omega
    · rw [e]
      show absN _ - absN (List.getD (_ ++ [_]) _ _) = used (_ ++ _) j
      rw [getD_snoc, hil, used_append]
      by_cases h : j < i
      · rw [if_pos h, used_map _ _ _ h]
        have h1 := hU1 j
        have h2 := ih.use j h
        omega
      · rw [if_neg h, if_pos (by omega)]
        have : j = i := by omega
        subst this
        rw [used_self, used_none _ _ (fun p hp => by obtain ⟨a, b, _⟩ := ih.pairs p hp; omega)]
        omega
    · rw [e]
      show (_ ++ [_]).sum = _
      have ht : t.take (i + 1) = t.take i ++ [t.getD i 0] := by
        rw [List.take_succ_eq_append_getElem (by omega)]
        simp [List.getElem?_eq_getElem (show i < t.length by omega)]
      rw [ht, List.sum_append, List.sum_append, ← ih.sum]
      simp only [List.sum_cons, List.sum_nil]
      omega

/-! turned contrary -/
theorem opp_neg (a n : Int) : opp (-a) (-n) = opp a n := by
  rw [Bool.eq_iff_iff, opp_iff, opp_iff]; omega
theorem absN_neg (a : Int) : absN (-a) = absN a := by unfold absN; (repeat' split) <;> omega
theorem cutN_neg (a n : Int) : cutN (-a) (-n) = cutN a n := by unfold cutN; rw [absN_neg, absN_neg]
theorem mv_neg {a n : Int} (h : opp a n = true) : mvA (-a) (-n) = -mvA a n ∧ mvN (-a) (-n) = -mvN a n := by
  rw [opp_iff] at h
  unfold mvA mvN
  rw [cutN_neg]
  generalize cutN a n = x
  (repeat' split) <;> omega
theorem getD_neg (L : List Int) (k : Nat) : (L.map (- ·)).getD k 0 = -(L.getD k 0) := by
  simp only [List.getD_eq_getElem?_getD, List.getElem?_map]
  cases L[k]? <;> simp
theorem inner_neg (L : List Int) (n : Int) : ∀ k, inner (L.map (- ·)) (-n) k = ((inner L n k).1.map (- ·), -(inner L n k).2.1, (inner L n k).2.2)
  | 0 => rfl
  | k + 1 => by
    have ih := inner_neg L n k
    rw [inner, ih, inner]
    simp only [getD_neg, opp_neg, cutN_neg]
    by_cases ho : opp ((inner L n k).1.getD k 0) (inner L n k).2.1 = true
    · rw [if_pos ho, if_pos ho, (mv_neg ho).1, (mv_neg ho).2, List.map_set]
    · rw [if_neg ho, if_neg ho]
theorem outer_neg (t : List Int) : ∀ i, outer (t.map (- ·)) i = ((outer t i).1.map (- ·), (outer t i).2)
  | 0 => rfl
  | i + 1 => by
    have ih := outer_neg t i
    rw [outer, ih, outer]
    simp only [getD_neg, inner_neg, List.map_append, List.map_cons, List.map_nil]

/-! set off once more -/
theorem inner_same (L : List Int) (n : Int) (h : ∀ j, opp (L.getD j 0) n = false) : ∀ k, inner L n k = (L, n, [])
  | 0 => rfl
  | k + 1 => by
    rw [inner, inner_same L n h k]
    simp only [h k, Bool.false_eq_true, if_false]
theorem outer_same (t : List Int) (h : oneSign t) : ∀ i, i ≤ t.length → outer t i = (t.take i, [])
  | 0, _ => by simp [outer]
  | i + 1, hi => by
    rw [outer, outer_same t h i (by omega)]
    have h1 : ∀ j, (t.take i).getD j 0 = if j < i then t.getD j 0 else 0 := fun j => by
      simp only [List.getD_eq_getElem?_getD, List.getElem?_take]
      split <;> rfl
    have hs : ∀ j, opp ((t.take i).getD j 0) (t.getD i 0) = false := fun j => by
      rw [opp_not, h1]
      rcases h with h | h
      · have a := h j; have b := h i; split <;> omega
      · have a := h j; have b := h i; split <;> omega
    simp only [inner_same _ _ hs i]
    rw [List.take_succ_eq_append_getElem (by omega)]
    simp [List.getElem?_eq_getElem (show i < t.length by omega)]
end fifo
end Go.Proofs.YtbhndnjlplibmaaDoor
