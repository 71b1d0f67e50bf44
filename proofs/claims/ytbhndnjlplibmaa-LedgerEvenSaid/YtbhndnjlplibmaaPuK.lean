/- A balance put to others, in its place: the plain law. -/
import Derived.Test.YtbhndnjlplibmaaOrd
namespace Go.Proofs.Ytbhndnjlplibmaa.lg
open Go.RowKit

theorem wrap64_eq (n : Int) : wrap64 n = (n + 9223372036854775808) % 18446744073709551616 - 9223372036854775808 := by unfold wrap64; omega
def ahB (y x : BalM) : Bool := decide (balCmp y x < 0)
/-- how many stand ahead of it -/
def posB (x : BalM) : List BalM → Nat
  | [] => 0
  | y :: r => if ahB y x = true then posB x r + 1 else 0
theorem posB_le (x : BalM) : ∀ l, posB x l ≤ l.length
  | [] => Nat.le_refl _
  | y :: r => by
    unfold posB
    have := posB_le x r
    split <;> simp <;> omega
theorem posB_drop {x y : BalM} {l : List BalM} {k : Nat} (h : l[k]? = some y) : k + posB x (l.drop k) = if ahB y x = true then (k + 1) + posB x (l.drop (k + 1)) else k := by
  obtain ⟨hk, rfl⟩ := List.getElem?_eq_some_iff.1 h
  rw [List.drop_eq_getElem_cons hk, posB]
  split <;> omega
def addB (y x : BalM) : BalM := { y with amt := wrap64 (y.amt + x.amt) }
def putB (l : List BalM) (x : BalM) : List BalM := match l[posB x l]? with
  | some y => if ahB x y = true then l.take (posB x l) ++ x :: l.drop (posB x l) else l.set (posB x l) (addB y x)
  | none => l ++ [x]
theorem put_in {l : List BalM} {x y : BalM} {k : Nat} (hk : posB x l = k) (h : l[k]? = some y) (ha : ahB x y = true) : putB l x = l.take k ++ x :: l.drop k := by
  unfold putB; rw [hk, h]; simp only [ha, if_true]
theorem put_add {l : List BalM} {x y : BalM} {k : Nat} (hk : posB x l = k) (h : l[k]? = some y) (ha : ahB x y = false) : putB l x = l.set k (addB y x) := by
  unfold putB; rw [hk, h]; simp only [ha]; rfl
theorem put_end {l : List BalM} {x : BalM} {k : Nat} (hk : posB x l = k) (h : l.length ≤ k) : putB l x = l.take k ++ x :: l.drop k := by
  unfold putB; rw [hk, List.getElem?_eq_none h, List.take_of_length_le h, List.drop_of_length_le h]
theorem ahB_iff {y x : BalM} : ahB y x = true ↔ ltK (plOf y) (plOf x) := by unfold ahB; rw [decide_eq_true_iff, balCmp_lt]
theorem put_cons (y x : BalM) (r : List BalM) : putB (y :: r) x = if ahB y x = true then y :: putB r x else if ahB x y = true then x :: y :: r else addB y x :: r := by
  by_cases h : ahB y x = true
  · have e1 : posB x (y :: r) = posB x r + 1 := by
      show (if ahB y x = true then posB x r + 1 else 0) = _
      rw [if_pos h]
    rw [if_pos h]
    unfold putB
    rw [e1, List.getElem?_cons_succ]
    cases r[posB x r]? with
    | none => rfl
    | some z =>
      simp only
      split <;> rfl
  · have e1 : posB x (y :: r) = 0 := by
      show (if ahB y x = true then posB x r + 1 else 0) = _
      rw [if_neg h]
    rw [if_neg h]
    unfold putB
    rw [e1, List.getElem?_cons_zero]
    simp only
    split <;> simp
theorem put_mem {x z : BalM} : ∀ {l : List BalM}, z ∈ putB l x → z ∈ l ∨ plOf z = plOf x ∨ ∃ y ∈ l, plOf z = plOf y
  | [], h => by
    have : z ∈ [x] := h
    rw [List.mem_singleton.1 this]
    exact Or.inr (Or.inl rfl)
  | y :: r, h => by
    rw [put_cons] at h
    split at h
    · rcases List.mem_cons.1 h with rfl | h
      · exact Or.inl (List.mem_cons_self ..)
      · rcases put_mem h with h | h | ⟨u, hu, e⟩
        · exact Or.inl (List.mem_cons_of_mem _ h)
        · exact Or.inr (Or.inl h)
        · exact Or.inr (Or.inr ⟨u, List.mem_cons_of_mem _ hu, e⟩)
    · split at h
      · rcases List.mem_cons.1 h with rfl | h
        · exact Or.inr (Or.inl rfl)
        · exact Or.inl h
      · rcases List.mem_cons.1 h with rfl | h
        · exact Or.inr (Or.inr ⟨y, List.mem_cons_self .., rfl⟩)
        · exact Or.inl (List.mem_cons_of_mem _ h)
theorem put_rises {x : BalM} : ∀ {l : List BalM}, Rises l → Rises (putB l x)
  | [], _ => by show Rises [x]; exact List.pairwise_singleton _ _
  | y :: r, h => by
    have h' := List.pairwise_cons.1 h
    rw [put_cons]
    split
    · rename_i hyx
      refine List.pairwise_cons.2 ⟨fun z hz => ?_, put_rises h'.2⟩
      rcases put_mem hz with hz | e | ⟨u, hu, e⟩
      · exact h'.1 z hz
      · rw [e]; exact ahB_iff.1 hyx
      · rw [e]; exact h'.1 u hu
    · split
      · rename_i _ hxy
        refine List.pairwise_cons.2 ⟨fun z hz => ?_, h⟩
        rcases List.mem_cons.1 hz with rfl | hz
        · exact ahB_iff.1 hxy
        · exact ltK_trans (ahB_iff.1 hxy) (h'.1 z hz)
      · exact List.pairwise_cons.2 ⟨h'.1, h'.2⟩
theorem put_keysB {x : BalM} : ∀ {l : List BalM}, ∀ p, p ∈ (putB l x).map plOf ↔ p ∈ l.map plOf ∨ p = plOf x
  | [], p => by show p ∈ [x].map plOf ↔ _; simp
  | y :: r, p => by
    rw [put_cons]
    split
    · rw [List.map_cons, List.mem_cons, put_keysB p, List.map_cons, List.mem_cons, or_assoc]
    · split
      · simp only [List.map_cons, List.mem_cons]
        constructor
        · rintro (h | h | h)
          · exact Or.inr h
          · exact Or.inl (Or.inl h)
          · exact Or.inl (Or.inr h)
        · rintro ((h | h) | h)
          · exact Or.inr (Or.inl h)
          · exact Or.inr (Or.inr h)
          · exact Or.inl h
      · rename_i h1 h2
        have e : plOf y = plOf x := by
          rcases Classical.em (plOf y = plOf x) with h | h
          · exact h
          · rcases ltK_total h with h3 | h3
            · exact absurd (ahB_iff.2 h3) h1
            · exact absurd (ahB_iff.2 h3) h2
        show p ∈ plOf y :: r.map plOf ↔ _
        rw [List.map_cons, List.mem_cons, e]
        constructor
        · intro h; exact Or.inl h
        · rintro (h | h)
          · exact h
          · exact Or.inl h
theorem put_sum {x : BalM} : ∀ {l : List BalM}, Rises l → (∀ p, wrap64 (sumAt l p) = sumAt l p) → wrap64 x.amt = x.amt → ∀ p, sumAt (putB l x) p = if plOf x = p then wrap64 (sumAt l p + x.amt) else sumAt l p
  | [], _, _, hx, p => by
    show sumAt [x] p = _
    rw [sumAt_cons, sumAt_nil]
    split
    · rw [Int.zero_add, hx]; omega
    · rfl
  | y :: r, h, hw, hx, p => by
    have h' := List.pairwise_cons.1 h
    have hyr : sumAt r (plOf y) = 0 := sumAt_none (fun z hz e => ltK_irrefl _ (e ▸ h'.1 z hz))
    have hwr : ∀ p, wrap64 (sumAt r p) = sumAt r p := fun q => by
      have := hw q
      rw [sumAt_cons] at this
      by_cases e : plOf y = q
      · rw [← e, hyr, wrap64_eq]; rfl
      · rw [if_neg e, Int.zero_add] at this; exact this
    rw [put_cons]
    split
    · rename_i hyx
      have hne : plOf y ≠ plOf x := fun e => ltK_irrefl _ (e ▸ ahB_iff.1 hyx)
      rw [sumAt_cons, put_sum h'.2 hwr hx p, sumAt_cons]
      by_cases e : plOf x = p
      · rw [if_pos e, if_pos e, if_neg (fun e2 => hne (e2.trans e.symm)), Int.zero_add, Int.zero_add]
      · rw [if_neg e, if_neg e]
    · split
      · rename_i h1 hxy
        have hx0 : sumAt (y :: r) (plOf x) = 0 := sumAt_none (fun z hz e => by
          rcases List.mem_cons.1 hz with rfl | hz
          · exact ltK_irrefl _ (e ▸ ahB_iff.1 hxy)
          · exact ltK_irrefl _ (e ▸ ltK_trans (ahB_iff.1 hxy) (h'.1 z hz)))
        rw [sumAt_cons]
        by_cases e : plOf x = p
        · rw [if_pos e, if_pos e, ← e, hx0, Int.zero_add, hx, Int.add_zero]
        · rw [if_neg e, if_neg e, Int.zero_add]
      · rename_i h1 h2
        have e : plOf y = plOf x := by
          rcases Classical.em (plOf y = plOf x) with h | h
          · exact h
          · rcases ltK_total h with h3 | h3
            · exact absurd (ahB_iff.2 h3) h1
            · exact absurd (ahB_iff.2 h3) h2
        rw [sumAt_cons, sumAt_cons]
        show (if plOf y = p then wrap64 (y.amt + x.amt) else 0) + _ = _
        by_cases e2 : plOf x = p
        · rw [if_pos (e.trans e2), if_pos e2, if_pos (e.trans e2), ← e2, ← e, hyr, Int.add_zero, Int.add_zero]
        · rw [if_neg (fun e3 => e2 (e.symm.trans e3)), if_neg e2, if_neg (fun e3 => e2 (e.symm.trans e3))]
end Go.Proofs.Ytbhndnjlplibmaa.lg
