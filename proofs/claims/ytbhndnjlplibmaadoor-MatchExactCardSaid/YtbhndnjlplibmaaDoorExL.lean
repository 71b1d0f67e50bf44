/- Which of any amounts are an amount together: the search, and what it finds. No program in sight. -/
import Derived.Test.YtbhndnjlplibmaaDoorItL
namespace Go.Proofs.YtbhndnjlplibmaaDoor.mt

/-- does it lie in 64 bits? -/
def fit64 (V : Int) : Bool := decide (-9223372036854775808 ≤ V) && decide (V ≤ 9223372036854775807)
theorem fit64_iff {V : Int} : fit64 V = true ↔ -9223372036854775808 ≤ V ∧ V ≤ 9223372036854775807 := by simp [fit64]
/-- the loop of pick: n places at most from i on -/
def pickGo (t : List Int) (f : Nat → Int → Option (List Nat)) (m : Nat) (want : Int) : Nat → Nat → Option (List Nat)
  | 0, _ => none
  | n + 1, i =>
    if i + m ≤ t.length then
      if fit64 (want - t.getD i 0) = true then
        match f (i + 1) (want - t.getD i 0) with
        | some x => some (i :: x)
        | none => pickGo t f m want n (i + 1)
      else pickGo t f m want n (i + 1)
    else none
/-- pick: the first way to take m from i on that are want together -/
def pickM (t : List Int) : Nat → Nat → Int → Option (List Nat)
  | 0, _, want => if want = 0 then some [] else none
  | m + 1, i, want => pickGo t (pickM t m) (m + 1) want (t.length - i) i
def exGo (t : List Int) (want : Int) : Nat → Nat → Option (List Nat)
  | 0, _ => none
  | n + 1, m =>
    match pickM t m 0 want with
    | some x => some x
    | none => exGo t want n (m + 1)
def exactM (t : List Int) (want : Int) : Option (List Nat) := exGo t want (t.length + 1) 0

/-- x: m places from i on, rising, that are want together -/
def Way (t : List Int) : Nat → Nat → Int → List Nat → Prop
  | 0, _, want, x => x = [] ∧ want = 0
  | m + 1, i, want, x => ∃ j r, x = j :: r ∧ i ≤ j ∧ j < t.length ∧ Way t m (j + 1) (want - t.getD j 0) r
theorem Way.len {t : List Int} : ∀ {m i : Nat} {want : Int} {x : List Nat}, Way t m i want x → x.length = m
  | 0, _, _, _, h => by rw [h.1]; rfl
  | m + 1, _, _, _, ⟨j, r, hx, _, _, hw⟩ => by rw [hx, List.length_cons, hw.len]
theorem Way.room {t : List Int} : ∀ {m i : Nat} {want : Int} {x : List Nat}, Way t m i want x → i ≤ t.length → i + m ≤ t.length
  | 0, _, _, _, _, hi => hi
  | m + 1, _, _, _, ⟨j, r, _, h1, h2, hw⟩, _ => by have := hw.room (by omega); omega
theorem Way.sum {t : List Int} : ∀ {m i : Nat} {want : Int} {x : List Nat}, Way t m i want x → (x.map fun k => t.getD k 0).sum = want
  | 0, _, _, _, h => by rw [h.1, h.2]; rfl
  | m + 1, _, _, _, ⟨j, r, hx, _, _, hw⟩ => by have := hw.sum; rw [hx, List.map_cons, List.sum_cons, this]; omega
theorem Way.all {t : List Int} : ∀ {m i : Nat} {want : Int} {x : List Nat}, Way t m i want x → ∀ k ∈ x, i ≤ k ∧ k < t.length
  | 0, _, _, _, h, k, hk => by rw [h.1] at hk; cases hk
  | m + 1, _, _, _, ⟨j, r, hx, h1, h2, hw⟩, k, hk => by
    rw [hx] at hk
    rcases List.mem_cons.1 hk with rfl | hk
    · exact ⟨h1, h2⟩
    · have := hw.all k hk; omega
theorem Way.rises {t : List Int} : ∀ {m i : Nat} {want : Int} {x : List Nat}, Way t m i want x → x.Pairwise (· < ·)
  | 0, _, _, _, h => by rw [h.1]; exact List.Pairwise.nil
  | m + 1, _, _, _, ⟨j, r, hx, _, _, hw⟩ => by
    rw [hx]
    exact List.Pairwise.cons (fun k hk => by have := hw.all k hk; omega) hw.rises
theorem way_of {t : List Int} : ∀ {x : List Nat} {i : Nat}, x.Pairwise (· < ·) → (∀ k ∈ x, i ≤ k ∧ k < t.length) → Way t x.length i (x.map fun k => t.getD k 0).sum x
  | [], _, _, _ => ⟨rfl, rfl⟩
  | j :: r, i, hp, ha => by
    have h1 := ha j (List.mem_cons_self ..)
    refine ⟨j, r, rfl, h1.1, h1.2, ?_⟩
    rw [List.map_cons, List.sum_cons, show t.getD j 0 + (r.map fun k => t.getD k 0).sum - t.getD j 0 = (r.map fun k => t.getD k 0).sum by omega]
    refine way_of (List.Pairwise.of_cons hp) (fun k hk => ⟨?_, (ha k (List.mem_cons_of_mem _ hk)).2⟩)
    exact (List.pairwise_cons.1 hp).1 k hk

theorem pickGo_way {t : List Int} {f : Nat → Int → Option (List Nat)} {m : Nat} {want : Int} (hf : ∀ i r x, f i r = some x → Way t m i r x) :
    ∀ (n i : Nat) (x : List Nat), pickGo t f (m + 1) want n i = some x → Way t (m + 1) i want x := by
  intro n
  induction n with
  | zero => intro i x h; cases h
  | succ n ih =>
    intro i x h
    have next : ∀ y, pickGo t f (m + 1) want n (i + 1) = some y → Way t (m + 1) i want y := fun y hy => by
      obtain ⟨j, r, hx, h1, h2, hw⟩ := ih (i + 1) y hy
      exact ⟨j, r, hx, by omega, h2, hw⟩
    unfold pickGo at h
    split at h
    · rename_i hr
      split at h
      · split at h
        · rename_i y hy
          injection h with h
          subst h
          exact ⟨i, y, rfl, Nat.le_refl _, by omega, hf _ _ _ hy⟩
        · exact next x h
      · exact next x h
    · cases h
theorem pickM_way {t : List Int} : ∀ {m i : Nat} {want : Int} {x : List Nat}, pickM t m i want = some x → Way t m i want x
  | 0, i, want, x, h => by
    unfold pickM at h
    split at h
    · injection h with h; exact ⟨h.symm, by assumption⟩
    · cases h
  | m + 1, i, want, x, h => pickGo_way (fun _ _ _ h => pickM_way h) _ _ _ h

/-- x is y, or the lesser at the first place where they part -/
def LexLe : List Nat → List Nat → Prop
  | [], _ => True
  | a :: r, b :: s => a < b ∨ (a = b ∧ LexLe r s)
  | _ :: _, [] => False
theorem LexLe.refl : ∀ x, LexLe x x
  | [] => trivial
  | _ :: r => Or.inr ⟨rfl, LexLe.refl r⟩
theorem LexLe.antisymm : ∀ {x y : List Nat}, x.length = y.length → LexLe x y → LexLe y x → x = y
  | [], [], _, _, _ => rfl
  | [], _ :: _, h, _, _ => by cases h
  | _ :: _, [], h, _, _ => by cases h
  | a :: r, b :: s, hl, h, k => by
    simp only [List.length_cons, Nat.add_right_cancel_iff] at hl
    rcases h with h | ⟨rfl, h⟩
    · rcases k with k | ⟨e, _⟩ <;> omega
    · rcases k with k | ⟨_, k⟩
      · omega
      · rw [LexLe.antisymm hl h k]

def Bound (t : List Int) : Prop := ∀ j, -1000000000000000 ≤ t.getD j 0 ∧ t.getD j 0 ≤ 1000000000000000
theorem Way.bound {t : List Int} (hb : Bound t) : ∀ {m i : Nat} {want : Int} {x : List Nat}, Way t m i want x → -(1000000000000000 * (m : Int)) ≤ want ∧ want ≤ 1000000000000000 * (m : Int)
  | 0, _, _, _, h => by rw [h.2]; omega
  | m + 1, _, _, _, ⟨j, r, _, _, _, hw⟩ => by
    have := hw.bound hb
    have := hb j
    omega

theorem pickGo_least {t : List Int} {f : Nat → Int → Option (List Nat)} {m : Nat} {want : Int} {y : List Nat} {j : Nat} {r : List Nat} (hy : y = j :: r) (hfit : fit64 (want - t.getD j 0) = true) (hroom : j + (m + 1) ≤ t.length)
    (hf : ∃ x, f (j + 1) (want - t.getD j 0) = some x ∧ LexLe x r) :
    ∀ (n i : Nat), i ≤ j → j < i + n → ∃ x, pickGo t f (m + 1) want n i = some x ∧ LexLe x y := by
  intro n
  induction n with
  | zero => intro i h1 h2; omega
  | succ n ih =>
    intro i h1 h2
    unfold pickGo
    rw [if_pos (by omega)]
    by_cases hij : i = j
    · subst hij
      obtain ⟨x, hx, hl⟩ := hf
      rw [if_pos hfit, hx]
      exact ⟨_, rfl, by rw [hy]; exact Or.inr ⟨rfl, hl⟩⟩
    · have next := ih (i + 1) (by omega) (by omega)
      split
      · split
        · exact ⟨_, rfl, by rw [hy]; exact Or.inl (by omega)⟩
        · exact next
      · exact next
theorem pickM_least {t : List Int} (hb : Bound t) : ∀ {m i : Nat} {want : Int} {y : List Nat}, m ≤ 1000 → Way t m i want y → ∃ x, pickM t m i want = some x ∧ LexLe x y
  | 0, _, _, _, _, h => by
    unfold pickM
    rw [if_pos h.2]
    exact ⟨_, rfl, trivial⟩
  | m + 1, i, want, y, hm, ⟨j, r, hy, h1, h2, hw⟩ => by
    have hr := hw.room (by omega)
    have hbd := hw.bound hb
    refine pickGo_least hy (fit64_iff.2 (by omega)) (by omega) (pickM_least hb (by omega) hw) _ _ h1 (by omega)

theorem exGo_way {t : List Int} {want : Int} : ∀ (n m : Nat) (x : List Nat), exGo t want n m = some x → Way t x.length 0 want x ∧ m ≤ x.length ∧ pickM t x.length 0 want = some x ∧ ∀ k, m ≤ k → k < x.length → pickM t k 0 want = none := by
  intro n
  induction n with
  | zero => intro m x h; cases h
  | succ n ih =>
    intro m x h
    unfold exGo at h
    split at h
    · rename_i y hy
      injection h with h
      subst h
      have hw := pickM_way hy
      have := hw.len
      subst this
      exact ⟨hw, Nat.le_refl _, hy, fun k h1 h2 => by omega⟩
    · rename_i hn
      obtain ⟨a, b, c, d⟩ := ih (m + 1) x h
      refine ⟨a, by omega, c, fun k h1 h2 => ?_⟩
      by_cases e : k = m
      · subst e; exact hn
      · exact d k (by omega) h2
theorem exGo_none {t : List Int} {want : Int} : ∀ (n m : Nat), exGo t want n m = none → ∀ k, m ≤ k → k < m + n → pickM t k 0 want = none := by
  intro n
  induction n with
  | zero => intro m _ k h1 h2; omega
  | succ n ih =>
    intro m h k h1 h2
    unfold exGo at h
    split at h
    · cases h
    · rename_i hn
      by_cases e : k = m
      · subst e; exact hn
      · exact ih (m + 1) h k (by omega) (by omega)
theorem exact_way {t : List Int} {want : Int} {x : List Nat} (h : exactM t want = some x) : Way t x.length 0 want x := (exGo_way _ _ _ h).1
/-- what is found is the least: of the fewest the first -/
theorem exact_least {t : List Int} (hb : Bound t) (ht : t.length ≤ 1000) {want : Int} {m : Nat} {y : List Nat} (hy : Way t m 0 want y) :
    ∃ x, exactM t want = some x ∧ (x.length < y.length ∨ (x.length = y.length ∧ LexLe x y)) := by
  have hm := hy.room (Nat.zero_le _)
  obtain ⟨x, hx, hle⟩ := pickM_least hb (by omega) hy
  cases h : exactM t want with
  | none =>
    have := exGo_none _ _ h m (Nat.zero_le _) (by omega)
    rw [this] at hx; cases hx
  | some z =>
    refine ⟨z, rfl, ?_⟩
    obtain ⟨_, _, hz, hn⟩ := exGo_way _ _ _ h
    rw [hy.len]
    rcases Nat.lt_trichotomy z.length m with h1 | h1 | h1
    · exact Or.inl h1
    · rw [h1, hx] at hz
      injection hz with hz
      subst hz
      exact Or.inr ⟨h1, hle⟩
    · rw [hn m (Nat.zero_le _) h1] at hx; cases hx
end Go.Proofs.YtbhndnjlplibmaaDoor.mt
