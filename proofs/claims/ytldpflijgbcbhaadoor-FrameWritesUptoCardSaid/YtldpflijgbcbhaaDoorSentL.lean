/- The first fault of an entry, and of balances, line by line. -/
import Derived.Test.YtldpflijgbcbhaaDoorFent
import Derived.Test.YtldpflijgbcbhaaDoorFbal
namespace Go.Proofs.YtldpflijgbcbhaaDoor
open Go.RowKit

theorem firstOf_append : ∀ {l : List Int} (m : List Int), firstOf l = 0 → firstOf (l ++ m) = firstOf m
  | [], _, _ => rfl
  | c :: t, m, h => by
    rw [firstOf] at h
    rw [List.cons_append, firstOf]
    by_cases hc : c = 0
    · rw [if_pos hc] at h ⊢; exact firstOf_append m h
    · rw [if_neg hc] at h; exact absurd h hc
theorem firstOf_stop : ∀ {l : List Int} (m : List Int), firstOf l ≠ 0 → firstOf (l ++ m) = firstOf l
  | [], _, h => absurd rfl h
  | c :: t, m, h => by
    rw [firstOf] at h
    rw [List.cons_append, firstOf, firstOf]
    by_cases hc : c = 0
    · rw [if_pos hc] at h ⊢; rw [if_pos hc]; exact firstOf_stop m h
    · rw [if_neg hc, if_neg hc]
theorem head_code (x : EntryM) : firstOf x.hcodes = if 24 < x.ref.size then 4 else if (itemB x.ent && itemB x.per) = true then 0 else 1 := by
  unfold EntryM.hcodes textC numC
  cases itemB x.ent <;> cases itemB x.per <;> (by_cases h : 24 < x.ref.size <;> simp [firstOf, h])
theorem line_code (y : LineM) : firstOf y.codes = if 24 < y.acc.size ∨ 24 < y.cur.size then 4 else numC (amtB y.amt) := by
  unfold LineM.codes textC
  by_cases h : 24 < y.acc.size
  · simp [firstOf, h]
  · by_cases h2 : 24 < y.cur.size
    · simp [firstOf, h, h2]
    · simp only [firstOf, h, h2, if_false, if_true, or_self]
      split <;> simp_all
theorem ent_split {x : EntryM} {k : Nat} {y : LineM} (h : x.lines[k]? = some y) : x.codes = (x.hcodes ++ (x.lines.take k).flatMap LineM.codes) ++ (y.codes ++ (x.lines.drop (k + 1)).flatMap LineM.codes) := by
  obtain ⟨hk, hy⟩ := List.getElem?_eq_some_iff.1 h
  unfold EntryM.codes
  rw [show [textC x.ref, numC (itemB x.ent), numC (itemB x.per)] = x.hcodes from rfl, List.append_assoc]
  congr 1
  conv => lhs; rw [← List.take_append_drop k x.lines]
  rw [List.flatMap_append, List.drop_eq_getElem_cons hk, hy, List.flatMap_cons]
theorem ent_stop {x : EntryM} {k : Nat} {y : LineM} (h : x.lines[k]? = some y) (h0 : firstOf (x.hcodes ++ (x.lines.take k).flatMap LineM.codes) = 0) (hc : firstOf y.codes ≠ 0) : firstOf x.codes = firstOf y.codes := by
  rw [ent_split h, firstOf_append _ h0, firstOf_stop _ hc]
theorem ent_next {x : EntryM} {k : Nat} {y : LineM} (h : x.lines[k]? = some y) (h0 : firstOf (x.hcodes ++ (x.lines.take k).flatMap LineM.codes) = 0) (hc : firstOf y.codes = 0) : firstOf (x.hcodes ++ (x.lines.take (k + 1)).flatMap LineM.codes) = 0 := by
  rw [flat_succ _ h, ← List.append_assoc, firstOf_append _ h0, hc]
theorem ent_hstop {x : EntryM} (hc : firstOf x.hcodes ≠ 0) : firstOf x.codes = firstOf x.hcodes := by
  unfold EntryM.codes
  rw [show [textC x.ref, numC (itemB x.ent), numC (itemB x.per)] = x.hcodes from rfl, firstOf_stop _ hc]
theorem ent_done {x : EntryM} (h : firstOf (x.hcodes ++ (x.lines.take x.lines.length).flatMap LineM.codes) = 0) : firstOf x.codes = 0 := by
  rw [List.take_length] at h
  exact h

theorem bal_code (p : Option BalM) (x : BalM) : firstOf (x.codes p) = if itemB x.ent = false then 1 else if 24 < x.acc.size ∨ 24 < x.cur.size then 4 else if amtB x.amt = false then 1 else ordC p x := by
  unfold BalM.codes textC numC
  cases itemB x.ent <;> cases amtB x.amt <;> (by_cases h : 24 < x.acc.size <;> by_cases h2 : 24 < x.cur.size <;> simp [firstOf, h, h2]) <;> intro h3 <;> exact h3.symm
theorem balCodes_ex : ∀ (a b : List BalM) (p : Option BalM), ∃ r, balCodes p (a ++ b) = balCodes p a ++ r
  | [], b, p => ⟨balCodes p b, rfl⟩
  | x :: a, b, p => by
    obtain ⟨r, hr⟩ := balCodes_ex a b (some x)
    exact ⟨r, by rw [List.cons_append, balCodes, balCodes, hr, List.append_assoc]⟩
theorem bal_stop {t : List BalM} {k : Nat} {y : BalM} (h : t[k]? = some y) (h0 : firstOf (balCodes none (t.take k)) = 0) (hc : firstOf (y.codes (prevB t k)) ≠ 0) : firstOf (balCodes none t) = firstOf (y.codes (prevB t k)) := by
  obtain ⟨r, hr⟩ := balCodes_ex (t.take (k + 1)) (t.drop (k + 1)) none
  rw [List.take_append_drop, balCodes_take h] at hr
  rw [hr, List.append_assoc, firstOf_append _ h0, firstOf_stop _ hc]
theorem bal_next {t : List BalM} {k : Nat} {y : BalM} (h : t[k]? = some y) (h0 : firstOf (balCodes none (t.take k)) = 0) (hc : firstOf (y.codes (prevB t k)) = 0) : firstOf (balCodes none (t.take (k + 1))) = 0 := by
  rw [balCodes_take h, firstOf_append _ h0, hc]
end Go.Proofs.YtldpflijgbcbhaaDoor
