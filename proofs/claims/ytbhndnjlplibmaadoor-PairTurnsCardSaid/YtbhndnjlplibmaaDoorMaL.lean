/- How old is what is open, in plain terms. -/
import Derived.Test.YtbhndnjlplibmaaDoorMrL
namespace Go.Proofs.YtbhndnjlplibmaaDoor
open Go.RowKit

/-- how many bounds are no more than d, from the first on -/
def ageK (d : Int) : List Int → Nat
  | [] => 0
  | b :: r => if b ≤ d then ageK d r + 1 else 0
theorem ageK_le (d : Int) : ∀ bs, ageK d bs ≤ bs.length
  | [] => Nat.le_refl _
  | b :: r => by
    have := ageK_le d r
    rw [ageK, List.length_cons]
    split <;> omega
theorem ageK_drop (d : Int) (bs : List Int) {k : Nat} (h : k < bs.length) : ageK d (bs.drop k) = if bs.getD k 0 ≤ d then ageK d (bs.drop (k + 1)) + 1 else 0 := by
  rw [List.drop_eq_getElem_cons h, ageK]
  simp [h]
/-- what is open by age, of the first n -/
def agesN (o : List ItemM) (period : Int) (bs : List Int) : Nat → List Int
  | 0 => List.replicate (bs.length + 1) 0
  | n + 1 => (agesN o period bs n).set (ageK (period - (o.getD n default).per) bs) ((agesN o period bs n).getD (ageK (period - (o.getD n default).per) bs) 0 + (o.getD n default).amt)
theorem agesN_len (o : List ItemM) (period : Int) (bs : List Int) : ∀ n, (agesN o period bs n).length = bs.length + 1
  | 0 => by simp [agesN]
  | n + 1 => by rw [agesN, List.length_set, agesN_len o period bs n]
theorem set_sum : ∀ (M : List Int) (i : Nat) (x : Int), i < M.length → (M.set i x).sum = M.sum - M.getD i 0 + x
  | [], _, _, h => by simp at h
  | a :: M, 0, x, _ => by simp; omega
  | a :: M, i + 1, x, h => by
    have := set_sum M i x (by simpa using h)
    simp only [List.set_cons_succ, List.sum_cons, List.getD_cons_succ, this]
    omega
theorem agesN_sum (o : List ItemM) (period : Int) (bs : List Int) : ∀ n, n ≤ o.length → (agesN o period bs n).sum = ((amts o).take n).sum
  | 0, _ => by simp [agesN]
  | n + 1, h => by
    have ih := agesN_sum o period bs n (by omega)
    have hk := ageK_le (period - (o.getD n default).per) bs
    rw [agesN, set_sum _ _ _ (by rw [agesN_len]; omega), take_sum_succ _ (by rw [amts_len]; omega), amts_at, ih]
    omega
theorem ages_sum (o : List ItemM) (period : Int) (bs : List Int) : (agesN o period bs o.length).sum = (amts o).sum := by
  rw [agesN_sum o period bs _ (Nat.le_refl _), List.take_of_length_le (by rw [amts_len]; exact Nat.le_refl _)]
/-- each is bounded -/
theorem agesN_bound {o : List ItemM} (period : Int) (bs : List Int) (h : ∀ x ∈ o, amtB x.amt = true) : ∀ n j, n ≤ o.length → -(n * 1000000000000000 : Int) ≤ (agesN o period bs n).getD j 0 ∧ (agesN o period bs n).getD j 0 ≤ n * 1000000000000000
  | 0, j, _ => by
    have : (agesN o period bs 0).getD j 0 = 0 := by
      simp only [agesN, List.getD_eq_getElem?_getD, List.getElem?_replicate]; split <;> rfl
    rw [this]; simp
  | n + 1, j, hn => by
    have ih := fun j => agesN_bound (o := o) period bs h n j (by omega)
    have hk := ageK_le (period - (o.getD n default).per) bs
    have hb := h (o.getD n default) (by have : n < o.length := by omega
                                        simp [this])
    rw [amtB_iff] at hb
    have e : ((n + 1 : Nat) : Int) * 1000000000000000 = (n : Int) * 1000000000000000 + 1000000000000000 := by rw [Int.natCast_add, Int.add_mul]; rfl
    rw [agesN, e]
    by_cases hj : ageK (period - (o.getD n default).per) bs = j
    · subst hj
      rw [fifo.getD_set_same (by rw [agesN_len]; omega)]
      have := ih (ageK (period - (o.getD n default).per) bs)
      omega
    · rw [fifo.getD_set_ne hj]
      have := ih j
      omega

/-- what is wrong with bounds -/
def bndFrom (bs : List Int) : List Int → Nat → Int
  | [], _ => 0
  | b :: r, k => if b < 0 ∨ (0 < k ∧ b ≤ bs.getD (k - 1) 0) then 5 else bndFrom bs r (k + 1)
theorem bnd_drop (bs : List Int) {k : Nat} (h : k < bs.length) : bndFrom bs (bs.drop k) k = if bs.getD k 0 < 0 ∨ (0 < k ∧ bs.getD k 0 ≤ bs.getD (k - 1) 0) then 5 else bndFrom bs (bs.drop (k + 1)) (k + 1) := by
  rw [List.drop_eq_getElem_cons h, bndFrom]
  simp [h]
def lastPer (its : List ItemM) : Int := (its.getD (its.length - 1) default).per
/-- what is wrong with items, a period and bounds -/
def agesC (its : List ItemM) (period : Int) (bs : List Int) : Int :=
  if itemsF its ≠ 0 then itemsF its else if perB period = false then 1 else if 20 < bs.length then 4 else if bndFrom bs bs 0 ≠ 0 then bndFrom bs bs 0 else if 0 < its.length ∧ period < lastPer its then 7 else 0
def agesA (its : List ItemM) (period : Int) (bs : List Int) : List Int := if agesC its period bs = 0 then agesN (openF its) period bs (openF its).length else []
theorem agesA_len (its : List ItemM) (period : Int) (bs : List Int) : (agesA its period bs).length ≤ 21 := by
  unfold agesA
  split
  · rename_i h
    rw [agesN_len]
    unfold agesC at h
    split at h
    · rename_i h1; exact absurd h h1
    · split at h
      · cases h
      · split at h
        · cases h
        · omega
  · exact Nat.zero_le _
theorem ages_rests {its : List ItemM} (h : itemsF its = 0) : agesC its 120 [0, 3] = 0 := by
  have hb : bndFrom [0, 3] [0, 3] 0 = 0 := by decide
  unfold agesC
  rw [if_neg (by rw [h]; simp), if_neg (by decide), if_neg (by decide), hb, if_neg (by simp), if_neg]
  rintro ⟨h1, h2⟩
  have := ((itemsF_zero h).2 (its.length - 1) _ (getD_get (by omega))).2.1
  rw [perB_iff] at this
  unfold lastPer at h2
  omega
end Go.Proofs.YtbhndnjlplibmaaDoor
