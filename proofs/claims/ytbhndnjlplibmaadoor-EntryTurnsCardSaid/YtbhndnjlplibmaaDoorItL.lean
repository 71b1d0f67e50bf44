/- Items of package match in plain terms: what is wrong with some, what is set off, what is open. -/
import Derived.Test.YtbhndnjlplibmaaDoorFifoL
import Derived.Lib.SlTrimSet
namespace Go.Proofs.YtbhndnjlplibmaaDoor
open Go.RowKit

structure ItemM where
  ref : ByteArray
  per : Int
  amt : Int
instance : Inhabited ItemM := ⟨⟨⟨#[]⟩, 0, 0⟩⟩

/-- may a byte stand in a reference? -/
def refC (c : UInt8) : Bool := c == 45 || (decide (48 ≤ c) && decide (c ≤ 57)) || (decide (97 ≤ c) && decide (c ≤ 122))
def refL (l : List UInt8) : Bool := match l with
  | [] => false
  | c :: r => decide ((c :: r).length ≤ 12) && !(c == 45) && (c :: r).all refC
def refB (s : ByteArray) : Bool := refL s.data.toList
def perB (n : Int) : Bool := decide (1 ≤ n) && decide (n ≤ 120)
def amtB (n : Int) : Bool := decide (-1000000000000000 ≤ n) && decide (n ≤ 1000000000000000)
theorem perB_iff {n : Int} : perB n = true ↔ 1 ≤ n ∧ n ≤ 120 := by simp [perB]
theorem amtB_iff {n : Int} : amtB n = true ↔ -1000000000000000 ≤ n ∧ n ≤ 1000000000000000 := by simp [amtB]
theorem amtB_neg (n : Int) : amtB (-n) = amtB n := by
  rw [Bool.eq_iff_iff, amtB_iff, amtB_iff]; omega

theorem dropWhile_nil {α : Type} (p : α → Bool) : ∀ l : List α, l.dropWhile p = [] ↔ l.all p = true
  | [] => by simp
  | a :: r => by
    rw [List.dropWhile_cons]
    by_cases h : p a = true
    · simp [h, dropWhile_nil p r]
    · simp [h]
/-- a text is nothing behind Trim just if all its bytes are of the set -/
theorem trim_nil (l cs : List UInt8) : Lib.trimS l cs = [] ↔ l.all (cs.contains ·) = true := by
  have hr : (Lib.trimRightS l cs).all (cs.contains ·) = true ↔ l.all (cs.contains ·) = true := by
    unfold Lib.trimRightS
    have e := List.takeWhile_append_dropWhile (p := (cs.contains ·)) (l := l.reverse)
    have ht : (l.reverse.takeWhile (cs.contains ·)).all (cs.contains ·) = true := by
      rw [List.all_eq_true]
      exact fun x hx => List.all_eq_true.1 List.all_takeWhile x hx
    have h2 : l.all (cs.contains ·) = ((l.reverse.takeWhile (cs.contains ·)) ++ (l.reverse.dropWhile (cs.contains ·))).all (cs.contains ·) := by rw [e, List.all_reverse]
    rw [h2, List.all_append, ht, List.all_reverse]
    simp
  unfold Lib.trimS Lib.trimLeftS
  rw [dropWhile_nil, hr]

/-- what is wrong with the k-th, those ahead being right -/
def itOne (its : List ItemM) (k : Nat) (x : ItemM) : Int :=
  if refB x.ref = false then 2 else if perB x.per = false ∨ x.amt = 0 ∨ amtB x.amt = false then 1 else if 0 < k ∧ x.per < (its.getD (k - 1) default).per then 5 else 0
def itFrom (its : List ItemM) : List ItemM → Nat → Int
  | [], _ => 0
  | x :: r, k => if itOne its k x = 0 then itFrom its r (k + 1) else itOne its k x
/-- what is wrong with items -/
def itemsF (its : List ItemM) : Int := if 200 < its.length then 4 else itFrom its its 0

theorem itFrom_drop (its : List ItemM) (k : Nat) (x : ItemM) (hk : its[k]? = some x) : itFrom its (its.drop k) k = if itOne its k x = 0 then itFrom its (its.drop (k + 1)) (k + 1) else itOne its k x := by
  obtain ⟨hk', rfl⟩ := List.getElem?_eq_some_iff.1 hk
  rw [List.drop_eq_getElem_cons hk', itFrom]
/-- the first that is wrong decides -/
theorem it_stop {its : List ItemM} {k : Nat} {x : ItemM} {c r : Int} (hc : itOne its k x = c) (h0 : c ≠ 0) (hi : itFrom its its 0 = itFrom its (its.drop k) k) (hd : itFrom its (its.drop k) k = if itOne its k x = 0 then itFrom its (its.drop (k + 1)) (k + 1) else itOne its k x) (hr : itFrom its its 0 = r) : r = c := by
  rw [hi, hd, hc, if_neg h0] at hr
  exact hr.symm
theorem it_next {its : List ItemM} {k : Nat} {x : ItemM} (hc : itOne its k x = 0) (hi : itFrom its its 0 = itFrom its (its.drop k) k) (hd : itFrom its (its.drop k) k = if itOne its k x = 0 then itFrom its (its.drop (k + 1)) (k + 1) else itOne its k x) :
    itFrom its its 0 = itFrom its (its.drop (k + 1)) (k + 1) := by
  rw [hi, hd, if_pos hc]
theorem itFrom_zero {its : List ItemM} : ∀ {l : List ItemM} {k : Nat}, itFrom its l k = 0 → ∀ i x, l[i]? = some x → itOne its (k + i) x = 0
  | [], _, _, i, x, h => by simp at h
  | y :: r, k, hz, i, x, hx => by
    rw [itFrom] at hz
    split at hz
    · rename_i h0
      cases i with
      | zero => simp at hx; subst hx; exact h0
      | succ i =>
        have := itFrom_zero hz i x (by simpa using hx)
        rwa [show k + 1 + i = k + (i + 1) by omega] at this
    · rename_i h0; exact absurd hz h0
theorem itOne_zero {its : List ItemM} {k : Nat} {x : ItemM} (h : itOne its k x = 0) : refB x.ref = true ∧ perB x.per = true ∧ x.amt ≠ 0 ∧ amtB x.amt = true ∧ (0 < k → (its.getD (k - 1) default).per ≤ x.per) := by
  unfold itOne at h
  split at h
  · cases h
  · split at h
    · cases h
    · split at h
      · cases h
      · rename_i h1 h2 h3
        refine ⟨by simpa using h1, ?_, fun e => h2 (Or.inr (Or.inl e)), ?_, fun hk => ?_⟩
        · cases hp : perB x.per
          · exact absurd (Or.inl hp) h2
          · rfl
        · cases hp : amtB x.amt
          · exact absurd (Or.inr (Or.inr hp)) h2
          · rfl
        · rcases Int.lt_or_le x.per (its.getD (k - 1) default).per with hl | hl
          · exact absurd ⟨hk, hl⟩ h3
          · exact hl
theorem itemsF_zero {its : List ItemM} (h : itemsF its = 0) : its.length ≤ 200 ∧ ∀ i x, its[i]? = some x → refB x.ref = true ∧ perB x.per = true ∧ x.amt ≠ 0 ∧ amtB x.amt = true ∧ (0 < i → (its.getD (i - 1) default).per ≤ x.per) := by
  unfold itemsF at h
  split at h
  · cases h
  · rename_i hn
    refine ⟨by omega, fun i x hx => itOne_zero ?_⟩
    have := itFrom_zero h i x hx
    rwa [Nat.zero_add] at this
theorem itFrom_all {its : List ItemM} : ∀ {l : List ItemM} {k : Nat}, (∀ i x, l[i]? = some x → itOne its (k + i) x = 0) → itFrom its l k = 0
  | [], _, _ => rfl
  | y :: r, k, h => by
    have h0 := h 0 y rfl
    rw [Nat.add_zero] at h0
    rw [itFrom, if_pos h0]
    exact itFrom_all (fun i x hx => by have := h (i + 1) x (by simpa using hx); rwa [show k + (i + 1) = k + 1 + i by omega] at this)

def amts (its : List ItemM) : List Int := its.map (·.amt)
theorem amts_len (its : List ItemM) : (amts its).length = its.length := by simp [amts]
theorem amts_get (its : List ItemM) (i : Nat) (x : ItemM) (h : its[i]? = some x) : (amts its).getD i 0 = x.amt := by simp [amts, h]
/-- what is left of each -/
def leftF (its : List ItemM) : List Int := (fifo.outer (amts its) its.length).1
def setsF (its : List ItemM) : List (Nat × Nat × Int) := (fifo.outer (amts its) its.length).2
/-- what is open of the first k -/
def openTo (its : List ItemM) (L : List Int) : Nat → List ItemM
  | 0 => []
  | k + 1 => openTo its L k ++ if L.getD k 0 = 0 then [] else [⟨(its.getD k default).ref, (its.getD k default).per, L.getD k 0⟩]
def openF (its : List ItemM) : List ItemM := openTo its (leftF its) its.length
theorem leftF_len (its : List ItemM) : (leftF its).length = its.length := fifo.outer_len _ _
theorem openTo_len (its : List ItemM) (L : List Int) : ∀ k, (openTo its L k).length ≤ k
  | 0 => Nat.le_refl _
  | k + 1 => by
    have := openTo_len its L k
    rw [openTo, List.length_append]
    split <;> simp <;> omega

/-! how many are set off -/
theorem inner_cnt (L : List Int) (n : Int) : ∀ k, (fifo.inner L n k).2.2.length ≤ k
  | 0 => Nat.le_refl _
  | k + 1 => by
    have := inner_cnt L n k
    rw [fifo.inner]
    split
    · simp; omega
    · omega
theorem outer_cnt (t : List Int) : ∀ i, (fifo.outer t i).2.length ≤ i * i
  | 0 => Nat.le_refl _
  | i + 1 => by
    have h1 := outer_cnt t i
    have h2 := inner_cnt (fifo.outer t i).1 (t.getD i 0) i
    rw [fifo.outer]
    simp only [List.length_append, List.length_map]
    have : (i + 1) * (i + 1) = i * i + 2 * i + 1 := by rw [Nat.add_mul, Nat.mul_add]; omega
    omega
end Go.Proofs.YtbhndnjlplibmaaDoor
