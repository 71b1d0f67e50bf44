/- What match.Fifo holds in memory from round to round, in plain terms. -/
import Derived.Test.YtbhndnjlplibmaaDoorItL
namespace Go.Proofs.YtbhndnjlplibmaaDoor
open Go.RowKit
namespace fifo

/-- all of left, at round i's head -/
def fullL (t : List Int) (N i : Nat) : List Int := (outer t i).1 ++ List.replicate (N - i) 0
/-- all of left, and the sets, within round i behind k -/
def inL (t : List Int) (N i k : Nat) : List Int := (inner (outer t i).1 (t.getD i 0) k).1 ++ (inner (outer t i).1 (t.getD i 0) k).2.1 :: List.replicate (N - i - 1) 0
def inS (t : List Int) (i k : Nat) : List (Nat × Nat × Int) := (outer t i).2 ++ (inner (outer t i).1 (t.getD i 0) k).2.2.map fun p => (p.1, i, p.2)
def inN (t : List Int) (i k : Nat) : Int := (inner (outer t i).1 (t.getD i 0) k).2.1
def inA (t : List Int) (i k : Nat) : Int := (inner (outer t i).1 (t.getD i 0) k).1.getD k 0

theorem getD_left {A B : List Int} {k : Nat} (h : k < A.length) : (A ++ B).getD k 0 = A.getD k 0 := by simp [List.getElem?_append_left h]
theorem set_two {A B : List Int} {k i : Nat} {n x y : Int} (h : k < i) (hl : A.length = i) : ((A ++ n :: B).set k x).set i y = A.set k x ++ y :: B := by
  rw [List.set_append_left _ _ (by omega), List.set_append_right _ _ (by simp; omega), List.length_set, hl, Nat.sub_self, List.set_cons_zero]
theorem fullL_len (t : List Int) {N i : Nat} (h : i ≤ N) : (fullL t N i).length = N := by simp [fullL, outer_len]; omega
theorem inL_len (t : List Int) {N i k : Nat} (h : i < N) : (inL t N i k).length = N := by simp [inL, inner_len, outer_len]; omega
theorem fullL_zero (t : List Int) (N : Nat) : fullL t N 0 = List.replicate N 0 := by simp [fullL, outer]
theorem fullL_set (t : List Int) {N i : Nat} (h : i < N) : (fullL t N i).set i (t.getD i 0) = inL t N i 0 := by
  have hl := outer_len t i
  have e : N - i = (N - i - 1) + 1 := by omega
  unfold fullL inL
  rw [e, List.replicate_succ, List.set_append_right _ _ (by omega), hl, Nat.sub_self, List.set_cons_zero]
  rfl
theorem inL_end (t : List Int) {N i : Nat} : inL t N i i = fullL t N (i + 1) := by
  unfold inL fullL
  rw [outer, List.append_assoc, Nat.sub_sub]
  rfl
theorem inS_zero (t : List Int) (i : Nat) : inS t i 0 = (outer t i).2 := by simp [inS, inner]
theorem inS_end (t : List Int) (i : Nat) : inS t i i = (outer t (i + 1)).2 := rfl
theorem inL_at_i (t : List Int) {N i k : Nat} : (inL t N i k).getD i 0 = inN t i k := by
  have hl : (inner (outer t i).1 (t.getD i 0) k).1.length = i := by rw [inner_len, outer_len]
  unfold inL inN
  rw [List.getD_eq_getElem?_getD, List.getElem?_append_right (by omega), hl, Nat.sub_self]
  rfl
theorem inL_at_k (t : List Int) {N i k : Nat} (h : k < i) : (inL t N i k).getD k 0 = inA t i k := by
  have hl : (inner (outer t i).1 (t.getD i 0) k).1.length = i := by rw [inner_len, outer_len]
  unfold inL inA
  exact getD_left (by omega)
theorem in_skip (t : List Int) {N i k : Nat} (h : opp (inA t i k) (inN t i k) = false) : inL t N i (k + 1) = inL t N i k ∧ inS t i (k + 1) = inS t i k ∧ inN t i (k + 1) = inN t i k := by
  have e : inner (outer t i).1 (t.getD i 0) (k + 1) = inner (outer t i).1 (t.getD i 0) k := by
    rw [inner, if_neg (by unfold inA inN at h; rw [h]; simp)]
  unfold inL inS inN
  rw [e]
  exact ⟨rfl, rfl, rfl⟩
theorem in_move (t : List Int) {N i k : Nat} (hk : k < i) (h : opp (inA t i k) (inN t i k) = true) :
    inL t N i (k + 1) = ((inL t N i k).set k (mvA (inA t i k) (inN t i k))).set i (mvN (inA t i k) (inN t i k)) ∧ inS t i (k + 1) = inS t i k ++ [(k, i, cutN (inA t i k) (inN t i k))] := by
  have hl : (inner (outer t i).1 (t.getD i 0) k).1.length = i := by rw [inner_len, outer_len]
  have e : inner (outer t i).1 (t.getD i 0) (k + 1) = ((inner (outer t i).1 (t.getD i 0) k).1.set k (mvA (inA t i k) (inN t i k)), mvN (inA t i k) (inN t i k), (inner (outer t i).1 (t.getD i 0) k).2.2 ++ [(k, cutN (inA t i k) (inN t i k))]) := by
    rw [inner, if_pos (by unfold inA inN at h; exact h)]; rfl
  refine ⟨?_, ?_⟩
  · unfold inL
    rw [e]
    exact (set_two hk hl).symm
  · unfold inS
    rw [e]
    simp
/-- nothing is left: nothing more is set off -/
theorem inner_stop (L : List Int) (n : Int) (k : Nat) (h : (inner L n k).2.1 = 0) : ∀ j, inner L n (k + j) = inner L n k
  | 0 => rfl
  | j + 1 => by
    have ih := inner_stop L n k h j
    rw [show k + (j + 1) = (k + j) + 1 by omega, inner, ih, if_neg]
    rw [h]; simp [opp]
theorem in_stop (t : List Int) {N i k : Nat} (hk : k ≤ i) (h : inN t i k = 0) : inL t N i i = inL t N i k ∧ inS t i i = inS t i k := by
  have := inner_stop (outer t i).1 (t.getD i 0) k h (i - k)
  rw [show k + (i - k) = i by omega] at this
  unfold inL inS
  rw [this]
  exact ⟨rfl, rfl⟩
/-- bounds -/
theorem less_bound {a b : Int} (h : lessOf a b) (hb : -1000000000000000 ≤ b ∧ b ≤ 1000000000000000) : -1000000000000000 ≤ a ∧ a ≤ 1000000000000000 := by unfold lessOf at h; omega
theorem in_bound (t : List Int) (ht : ∀ j, -1000000000000000 ≤ t.getD j 0 ∧ t.getD j 0 ≤ 1000000000000000) {i k : Nat} (hi : i < t.length) (hk : k ≤ i) :
    (-1000000000000000 ≤ inN t i k ∧ inN t i k ≤ 1000000000000000) ∧ (-1000000000000000 ≤ inA t i k ∧ inA t i k ≤ 1000000000000000) := by
  have ho := outer_ok t i (by omega)
  have hI := inner_ok (outer t i).1 (t.getD i 0) k (by rw [outer_len]; exact hk)
  refine ⟨less_bound hI.n_ (ht i), ?_⟩
  rcases Nat.lt_or_ge k i with h | h
  · exact less_bound ((hI.l_ k).trans (ho.less k h)) (ht k)
  · have : inA t i k = 0 := by unfold inA; rw [getD_ge (by rw [inner_len, outer_len]; exact h)]
    rw [this]; omega
theorem cut_nonneg (a n : Int) : 0 ≤ cutN a n ∧ cutN a n ≤ absN a ∧ cutN a n ≤ absN n := by
  unfold cutN absN; (repeat' split) <;> omega
theorem absN_max (a : Int) : absN a = max a (-a) := by unfold absN; split <;> omega
theorem cutN_min (a n : Int) : cutN a n = min (absN a) (absN n) := by unfold cutN; split <;> omega
/-- the sets within a round are few -/
theorem inS_cnt (t : List Int) {i k : Nat} (hk : k ≤ i) (hi : i ≤ 200) : (inS t i k).length ≤ 40400 := by
  have h1 := outer_cnt t i
  have h2 := inner_cnt (outer t i).1 (t.getD i 0) k
  unfold inS
  rw [List.length_append, List.length_map]
  have : i * i ≤ 200 * 200 := Nat.mul_le_mul hi hi
  omega
def setCells (s : Nat × Nat × Int) : List Value := [.int .i64 (s.1 : Int), .int .i64 (s.2.1 : Int), .int .i64 s.2.2]
theorem inS_snoc (t : List Int) {N i k : Nat} (hk : k < i) (h : opp (inA t i k) (inN t i k) = true) : (inS t i (k + 1)).flatMap setCells = (inS t i k).flatMap setCells ++ [.int .i64 (k : Int), .int .i64 (i : Int), .int .i64 (cutN (inA t i k) (inN t i k))] ∧ (inS t i (k + 1)).length = (inS t i k).length + 1 := by
  rw [(in_move t (N := N) hk h).2]
  simp [setCells]
end fifo
end Go.Proofs.YtbhndnjlplibmaaDoor
