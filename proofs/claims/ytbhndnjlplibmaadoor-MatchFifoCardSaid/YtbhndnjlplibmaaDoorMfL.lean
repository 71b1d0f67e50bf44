/- dayref3.Fifo holds what is left in a row that grows: the plain part. -/
import Derived.Test.YtbhndnjlplibmaaDoorItM
import Derived.Test.YtbhndnjlplibmaaDoorMaL
namespace Go.Proofs.YtbhndnjlplibmaaDoor
open Go.RowKit
namespace fifo

/-- what is left ahead of i, within round i behind k -/
def iL (t : List Int) (i k : Nat) : List Int := (inner (outer t i).1 (t.getD i 0) k).1
theorem iL_len (t : List Int) (i k : Nat) : (iL t i k).length = i := by rw [iL, inner_len, outer_len]
theorem iL_zero (t : List Int) (i : Nat) : iL t i 0 = (outer t i).1 := rfl
theorem inN_zero (t : List Int) (i : Nat) : inN t i 0 = t.getD i 0 := rfl
theorem iL_at (t : List Int) (i k : Nat) : (iL t i k).getD k 0 = inA t i k := rfl
theorem outer_next (t : List Int) (i : Nat) : (outer t (i + 1)).1 = iL t i i ++ [inN t i i] := rfl
theorem iL_skip (t : List Int) {i k : Nat} (h : opp (inA t i k) (inN t i k) = false) : iL t i (k + 1) = iL t i k ∧ inS t i (k + 1) = inS t i k ∧ inN t i (k + 1) = inN t i k := by
  have e : inner (outer t i).1 (t.getD i 0) (k + 1) = inner (outer t i).1 (t.getD i 0) k := by
    rw [inner, if_neg (by unfold inA inN at h; rw [h]; simp)]
  unfold iL inS inN
  rw [e]
  exact ⟨rfl, rfl, rfl⟩
theorem iL_move (t : List Int) {i k : Nat} (h : opp (inA t i k) (inN t i k) = true) :
    iL t i (k + 1) = (iL t i k).set k (mvA (inA t i k) (inN t i k)) ∧ inN t i (k + 1) = mvN (inA t i k) (inN t i k) := by
  have e : inner (outer t i).1 (t.getD i 0) (k + 1) = ((inner (outer t i).1 (t.getD i 0) k).1.set k (mvA (inA t i k) (inN t i k)), mvN (inA t i k) (inN t i k), (inner (outer t i).1 (t.getD i 0) k).2.2 ++ [(k, cutN (inA t i k) (inN t i k))]) := by
    rw [inner, if_pos (by unfold inA inN at h; exact h)]; rfl
  constructor
  · unfold iL
    rw [e]
  · show (inner (outer t i).1 (t.getD i 0) (k + 1)).2.1 = _
    rw [e]
/-- the four ways in which two are set off -/
theorem opp_kinds {a n : Int} (h : opp a n = true) :
    (decide (0 < n) = true ∧ decide (a < 0) = true ∧ decide (n < 0) = false ∧ decide (0 < a) = false ∧ decide (-a < n) = true ∧ cutN a n = -a ∧ mvA a n = 0 ∧ mvN a n = n + a ∧ 0 < n ∧ a < 0) ∨
    (decide (0 < n) = true ∧ decide (a < 0) = true ∧ decide (n < 0) = false ∧ decide (0 < a) = false ∧ decide (-a < n) = false ∧ cutN a n = n ∧ mvA a n = a + n ∧ mvN a n = 0 ∧ 0 < n ∧ a < 0) ∨
    (decide (0 < n) = false ∧ decide (a < 0) = false ∧ decide (n < 0) = true ∧ decide (0 < a) = true ∧ decide (a < -n) = true ∧ cutN a n = a ∧ mvA a n = 0 ∧ mvN a n = n + a ∧ n < 0 ∧ 0 < a) ∨
    (decide (0 < n) = false ∧ decide (a < 0) = false ∧ decide (n < 0) = true ∧ decide (0 < a) = true ∧ decide (a < -n) = false ∧ cutN a n = -n ∧ mvA a n = a + n ∧ mvN a n = 0 ∧ n < 0 ∧ 0 < a) := by
  rw [opp_iff] at h
  simp only [decide_eq_true_eq, decide_eq_false_iff_not]
  have hc : cutN a n = if absN a < absN n then absN a else absN n := rfl
  have ha : absN a = if a < 0 then -a else a := rfl
  have hn : absN n = if n < 0 then -n else n := rfl
  have h1 : mvA a n = if 0 < n then a + cutN a n else a - cutN a n := rfl
  have h2 : mvN a n = if 0 < n then n - cutN a n else n + cutN a n := rfl
  generalize cutN a n = c at *
  generalize absN a = x at *
  generalize absN n = y at *
  generalize mvA a n = p at *
  generalize mvN a n = q at *
  rcases h with ⟨h3, h4⟩ | ⟨h3, h4⟩
  · rw [if_pos h4] at ha
    rw [if_neg (by omega)] at hn
    rw [if_pos h3] at h1 h2
    by_cases h5 : x < y
    · rw [if_pos h5] at hc; left; omega
    · rw [if_neg h5] at hc; right; left; omega
  · rw [if_neg (by omega)] at ha
    rw [if_pos h3] at hn
    rw [if_neg (by omega)] at h1 h2
    by_cases h5 : x < y
    · rw [if_pos h5] at hc; right; right; left; omega
    · rw [if_neg h5] at hc; right; right; right; omega
end fifo

/-- the last is the latest: every one is in time just if the last is -/
theorem per_rises {its : List ItemM} (h : itemsF its = 0) {i : Nat} {x : ItemM} (hx : its[i]? = some x) : ∀ j y, its[i + j]? = some y → x.per ≤ y.per
  | 0, y, hy => by rw [Nat.add_zero, hx] at hy; injection hy with hy; subst hy; exact Int.le_refl _
  | j + 1, y, hy => by
    have hlt : i + (j + 1) < its.length := (List.getElem?_eq_some_iff.1 hy).1
    have h1 := per_rises h hx j its[i + j] (List.getElem?_eq_getElem (by omega))
    have h2 := ((itemsF_zero h).2 (i + (j + 1)) y hy).2.2.2.2 (by omega)
    have h3 : its.getD (i + (j + 1) - 1) default = its[i + j] := by simp [show i + (j + 1) - 1 = i + j by omega, show i + j < its.length by omega]
    rw [h3] at h2
    omega
theorem per_last {its : List ItemM} (h : itemsF its = 0) {i : Nat} {x : ItemM} (hx : its[i]? = some x) : x.per ≤ lastPer its := by
  have hlt : i < its.length := (List.getElem?_eq_some_iff.1 hx).1
  refine per_rises h hx (its.length - 1 - i) _ ?_
  rw [show i + (its.length - 1 - i) = its.length - 1 by omega]
  exact getD_get (by omega)

/-- the last bound that is no more than d, of the first j: how many come up to it -/
def ageJ (d : Int) (bs : List Int) : Nat → Nat
  | 0 => 0
  | j + 1 => if bs.getD j 0 ≤ d then j + 1 else ageJ d bs j
theorem bnd_rises {bs : List Int} : ∀ {l : List Int} {k : Nat}, bs.drop k = l → bndFrom bs l k = 0 → ∀ i, k + i < bs.length → 0 < k + i → bs.getD (k + i - 1) 0 < bs.getD (k + i) 0
  | [], k, hd, _, i, hi, _ => by
    have := congrArg List.length hd
    simp at this; omega
  | b :: r, k, hd, hz, i, hi, h0 => by
    have hk : k < bs.length := by omega
    have hb : bs.getD k 0 = b := by
      have := congrArg (fun l => l[0]?) hd
      simp at this
      simp [this]
    have hr : bs.drop (k + 1) = r := by
      have := congrArg List.tail hd
      simpa using this
    rw [bndFrom] at hz
    split at hz
    · cases hz
    · rename_i hn
      cases i with
      | zero =>
        rw [Nat.add_zero] at *
        rw [hb]
        rcases Int.lt_or_le (bs.getD (k - 1) 0) b with h | h
        · exact h
        · exact absurd (Or.inr ⟨h0, h⟩) hn
      | succ i =>
        have := bnd_rises hr hz i (by omega) (by omega)
        rwa [show k + 1 + i = k + (i + 1) by omega] at this
theorem age_same {bs : List Int} (d : Int) (h : bndFrom bs bs 0 = 0) : ∀ n k, n + k = bs.length → (∀ i, i < k → bs.getD i 0 ≤ d) → (∀ j, j < k → True) → k + ageK d (bs.drop k) = ageJ d bs bs.length
  | 0, k, hn, hle, _ => by
    have hk : k = bs.length := by omega
    subst hk
    rw [List.drop_length]
    cases hl : bs.length with
    | zero => rfl
    | succ m => rw [ageJ, if_pos (hle m (by omega))]; rfl
  | n + 1, k, hn, hle, ht => by
    have hk : k < bs.length := by omega
    rw [ageK_drop d bs hk]
    by_cases hb : bs.getD k 0 ≤ d
    · rw [if_pos hb]
      have := age_same d h n (k + 1) (by omega) (fun i hi => by
        rcases Nat.lt_or_ge i k with h1 | h1
        · exact hle i h1
        · rw [show i = k by omega]; exact hb) (fun _ _ => trivial)
      omega
    · rw [if_neg hb, Nat.add_zero]
      have hup : ∀ m, k + m < bs.length → d < bs.getD (k + m) 0 := by
        intro m
        induction m with
        | zero => intro _; rw [Nat.add_zero]; omega
        | succ m ih =>
          intro hm
          have h1 := ih (by omega)
          have h2 := bnd_rises (bs := bs) (l := bs) (k := 0) rfl h (k + (m + 1)) (by omega) (by omega)
          rw [show 0 + (k + (m + 1)) - 1 = k + m by omega, show 0 + (k + (m + 1)) = k + (m + 1) by omega] at h2
          omega
      have hj : ∀ m, k + m ≤ bs.length → ageJ d bs (k + m) = k := by
        intro m
        induction m with
        | zero =>
          intro _
          cases k with
          | zero => rfl
          | succ k => rw [Nat.add_zero, ageJ, if_pos (hle k (by omega))]
        | succ m ih =>
          intro hm
          rw [show k + (m + 1) = (k + m) + 1 by omega, ageJ, if_neg (by have := hup m (by omega); omega)]
          exact ih (by omega)
      have := hj (bs.length - k) (by omega)
      rw [show k + (bs.length - k) = bs.length by omega] at this
      exact this.symm
theorem age_eq {bs : List Int} (d : Int) (h : bndFrom bs bs 0 = 0) : ageJ d bs bs.length = ageK d bs := by
  have := age_same d h bs.length 0 (by omega) (fun i hi => absurd hi (by omega)) (fun _ _ => trivial)
  rw [Nat.zero_add, List.drop_zero] at this
  exact this.symm
theorem ageJ_le (d : Int) (bs : List Int) : ∀ j, ageJ d bs j ≤ j
  | 0 => Nat.le_refl _
  | j + 1 => by
    have := ageJ_le d bs j
    rw [ageJ]; split <;> omega
end Go.Proofs.YtbhndnjlplibmaaDoor
