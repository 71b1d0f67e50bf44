/- Lines put together: the plain law: line by line where they rise, or each into its place: the same. -/
import Derived.Test.YtbhndnjlplibmaaPuK
namespace Go.Proofs.Ytbhndnjlplibmaa.lg
open Go.RowKit

/-- a line as a balance of nobody -/
def toB (l : LineM) : BalM := ⟨0, l.acc, l.cur, l.amt⟩
theorem toB_inj {a b : LineM} (h : toB a = toB b) : a = b := by
  cases a; cases b
  simp only [toB, BalM.mk.injEq, true_and] at h
  simp [h]
theorem mapB_inj : ∀ {a b : List LineM}, a.map toB = b.map toB → a = b
  | [], [], _ => rfl
  | [], _ :: _, h => by simp at h
  | _ :: _, [], h => by simp at h
  | x :: a, y :: b, h => by
    simp only [List.map_cons, List.cons.injEq] at h
    rw [toB_inj h.1, mapB_inj h.2]
def lineCmp (x y : LineM) : Int := firstOf [cmpS x.acc y.acc, cmpS x.cur y.cur]
theorem lineCmp_bal (x y : LineM) : balCmp (toB x) (toB y) = lineCmp x y := by
  unfold balCmp lineCmp
  have h : cmpI (toB x).ent (toB y).ent = 0 := cmpI_zero.2 rfl
  rw [h]
  rfl
theorem balCmp_zero {x y : BalM} : balCmp x y = 0 ↔ plOf x = plOf y := by
  unfold balCmp plOf
  simp only [firstOf, PlM.mk.injEq]
  by_cases h1 : cmpI x.ent y.ent = 0
  · rw [if_pos h1]
    have e1 := cmpI_zero.1 h1
    by_cases h2 : cmpS x.acc y.acc = 0
    · rw [if_pos h2]
      have e2 := cmpS_zero.1 h2
      by_cases h3 : cmpS x.cur y.cur = 0
      · rw [if_pos h3]
        have e3 := cmpS_zero.1 h3
        simp [e1, e2, e3]
      · rw [if_neg h3]
        have e3 : x.cur ≠ y.cur := fun e => h3 (cmpS_zero.2 e)
        simp [h3, e3]
    · rw [if_neg h2]
      have e2 : x.acc ≠ y.acc := fun e => h2 (cmpS_zero.2 e)
      simp [h2, e2]
  · rw [if_neg h1]
    have e1 : x.ent ≠ y.ent := fun e => h1 (cmpI_zero.2 e)
    simp [h1, e1]

/-- two that rise, of the same places, and as much at each place, are one -/
theorem rises_keys_ext : ∀ {x y : List BalM}, Rises x → Rises y → (∀ p, p ∈ x.map plOf ↔ p ∈ y.map plOf) → (∀ p, sumAt x p = sumAt y p) → x = y
  | [], [], _, _, _, _ => rfl
  | [], b :: s, _, _, hk, _ => by have := (hk (plOf b)).2 (by simp); simp at this
  | a :: r, [], _, _, hk, _ => by have := (hk (plOf a)).1 (by simp); simp at this
  | a :: r, b :: s, hx, hy, hk, h => by
    obtain ⟨hx1, hx2⟩ := List.pairwise_cons.1 hx
    obtain ⟨hy1, hy2⟩ := List.pairwise_cons.1 hy
    have ha := sumAt_mem hx.nodup (List.mem_cons_self (a := a) (l := r))
    have hb := sumAt_mem hy.nodup (List.mem_cons_self (a := b) (l := s))
    have hpl : plOf a = plOf b := by
      obtain ⟨z, hz, ez⟩ := List.mem_map.1 ((hk (plOf a)).1 (by simp))
      obtain ⟨u, hu, eu⟩ := List.mem_map.1 ((hk (plOf b)).2 (by simp))
      rcases List.mem_cons.1 hz with rfl | hz
      · exact ez.symm
      · rcases List.mem_cons.1 hu with rfl | hu
        · exact eu
        · have l1 := hy1 z hz
          have l2 := hx1 u hu
          rw [ez] at l1
          rw [eu] at l2
          exact absurd (ltK_trans l1 l2) (ltK_irrefl _)
    have hamt : a.amt = b.amt := by rw [← ha, ← hb, hpl, h]
    have hab : a = b := by
      cases a; cases b
      simp only [plOf, PlM.mk.injEq] at hpl
      simp only at hamt
      simp [hpl, hamt]
    subst hab
    rw [rises_keys_ext hx2 hy2 (fun p => ?_) (fun p => by
      have := h p
      rw [sumAt_cons, sumAt_cons] at this
      omega)]
    constructor
    · intro hp
      have := (hk p).1 (by rw [List.map_cons]; exact List.mem_cons_of_mem _ hp)
      rw [List.map_cons] at this
      rcases List.mem_cons.1 this with e | hm
      · obtain ⟨u, hu, eu⟩ := List.mem_map.1 hp
        have := hx1 u hu
        rw [eu, e] at this
        exact absurd this (ltK_irrefl _)
      · exact hm
    · intro hp
      have := (hk p).2 (by rw [List.map_cons]; exact List.mem_cons_of_mem _ hp)
      rw [List.map_cons] at this
      rcases List.mem_cons.1 this with e | hm
      · obtain ⟨u, hu, eu⟩ := List.mem_map.1 hp
        have := hy1 u hu
        rw [eu, e] at this
        exact absurd this (ltK_irrefl _)
      · exact hm
/-- what each is, if none is great -/
theorem fold_puts : ∀ (l O : List BalM) (m : Nat), Rises O → (∀ p, -(1000000000000000 * (m : Int)) ≤ sumAt O p ∧ sumAt O p ≤ 1000000000000000 * (m : Int)) → (∀ x ∈ l, -1000000000000000 ≤ x.amt ∧ x.amt ≤ 1000000000000000) → m + l.length ≤ 1000 →
    Rises (l.foldl putB O) ∧ (∀ p, p ∈ (l.foldl putB O).map plOf ↔ p ∈ O.map plOf ∨ p ∈ l.map plOf) ∧ ∀ p, sumAt (l.foldl putB O) p = sumAt O p + sumAt l p
  | [], O, _, hO, _, _, _ => ⟨hO, fun p => by simp, fun p => by rw [sumAt_nil]; simp⟩
  | x :: r, O, m, hO, hs, hl, hm => by
    simp only [List.length_cons] at hm
    have hx := hl x (List.mem_cons_self ..)
    have hw : ∀ p, wrap64 (sumAt O p) = sumAt O p := fun p => by have := hs p; rw [wrap64_eq]; omega
    have hxw : wrap64 x.amt = x.amt := by rw [wrap64_eq]; omega
    have hp := put_sum (x := x) hO hw hxw
    have hp2 : ∀ p, sumAt (putB O x) p = sumAt O p + (if plOf x = p then x.amt else 0) := fun p => by
      rw [hp]
      have := hs p
      split
      · rw [wrap64_eq]; omega
      · omega
    obtain ⟨h1, h2, h3⟩ := fold_puts r (putB O x) (m + 1) (put_rises hO) (fun p => by
      have := hs p
      rw [hp2]
      split <;> omega) (fun y hy => hl y (List.mem_cons_of_mem _ hy)) (by omega)
    refine ⟨h1, fun p => ?_, fun p => ?_⟩
    · rw [List.foldl_cons, h2, put_keysB, List.map_cons, List.mem_cons, or_assoc]
    · rw [List.foldl_cons, h3, hp2, sumAt_cons]; omega
/-- the order does not matter -/
theorem puts_perm {l r : List BalM} (h : l.Perm r) (hl : ∀ x ∈ l, -1000000000000000 ≤ x.amt ∧ x.amt ≤ 1000000000000000) (hn : l.length ≤ 1000) : l.foldl putB [] = r.foldl putB [] := by
  have z : ∀ p, -(1000000000000000 * ((0 : Nat) : Int)) ≤ sumAt [] p ∧ sumAt [] p ≤ 1000000000000000 * ((0 : Nat) : Int) := fun p => by rw [sumAt_nil]; simp
  obtain ⟨a1, a2, a3⟩ := fold_puts l [] 0 List.Pairwise.nil z hl (by omega)
  obtain ⟨b1, b2, b3⟩ := fold_puts r [] 0 List.Pairwise.nil z (fun x hx => hl x (h.mem_iff.2 hx)) (by rw [← h.length_eq]; omega)
  refine rises_keys_ext a1 b1 (fun p => ?_) (fun p => ?_)
  · rw [a2, b2, (h.map plOf).mem_iff]
  · rw [a3, b3, sumAt_perm h]
/-- one more, where they rise -/
def stepG (out : List BalM) (x : BalM) : List BalM := match out.getLast? with
  | none => [x]
  | some y => if balCmp y x = 0 then out.dropLast ++ [addB y x] else out ++ [x]
theorem stepG_put {x : BalM} : ∀ {O : List BalM}, Rises O → (∀ y ∈ O, ¬ ltK (plOf x) (plOf y)) → putB O x = stepG O x
  | [], _, _ => rfl
  | [y], _, h => by
    have hy := h y (by simp)
    rw [put_cons]
    unfold stepG
    simp only [List.getLast?_singleton]
    by_cases e : balCmp y x = 0
    · have e2 := balCmp_zero.1 e
      rw [if_neg (by rw [ahB_iff, e2]; exact ltK_irrefl _), if_neg (by rw [ahB_iff, e2]; exact ltK_irrefl _), if_pos e]
      rfl
    · have e2 : plOf y ≠ plOf x := fun e' => e (balCmp_zero.2 e')
      rw [if_pos (ahB_iff.2 ((ltK_total e2).resolve_right hy)), if_neg e]
      rfl
  | y :: z :: r, hO, h => by
    have h' := List.pairwise_cons.1 hO
    have hyz := h'.1 z (by simp)
    have hyx : ahB y x = true := by
      rw [ahB_iff]
      have hz := h z (by simp)
      by_cases e : plOf z = plOf x
      · rw [← e]; exact hyz
      · exact ltK_trans hyz ((ltK_total e).resolve_right hz)
    rw [put_cons, if_pos hyx, stepG_put h'.2 (fun u hu => h u (List.mem_cons_of_mem _ hu))]
    unfold stepG
    rw [List.getLast?_cons_cons]
    cases hg : (z :: r).getLast? with
    | none => simp at hg
    | some u =>
      simp only
      split
      · rfl
      · rfl
/-- it rises, or stays -/
def Weak (l : List BalM) : Prop := l.Pairwise fun x y => ¬ ltK (plOf y) (plOf x)
theorem grp_puts : ∀ (l O : List BalM), Rises O → Weak l → (∀ y ∈ O, ∀ x ∈ l, ¬ ltK (plOf x) (plOf y)) → l.foldl stepG O = l.foldl putB O
  | [], _, _, _, _ => rfl
  | x :: r, O, hO, hl, h => by
    have hl' := List.pairwise_cons.1 hl
    have e := stepG_put hO (fun y hy => h y hy x (List.mem_cons_self ..))
    rw [List.foldl_cons, List.foldl_cons, ← e]
    refine grp_puts r (putB O x) (put_rises hO) hl'.2 (fun y hy u hu => ?_)
    rcases put_mem hy with hy | e2 | ⟨z, hz, e2⟩
    · exact h y hy u (List.mem_cons_of_mem _ hu)
    · rw [e2]; exact hl'.1 u hu
    · rw [e2]; exact h z hz u (List.mem_cons_of_mem _ hu)
/-- sorted, and put together, or each put into its place -/
theorem grp_eq {l s : List BalM} (h : s.Perm l) (hs : Weak s) (hl : ∀ x ∈ l, -1000000000000000 ≤ x.amt ∧ x.amt ≤ 1000000000000000) (hn : l.length ≤ 1000) : s.foldl stepG [] = l.foldl putB [] := by
  rw [grp_puts s [] List.Pairwise.nil hs (fun y hy => by cases hy)]
  exact puts_perm h (fun x hx => hl x (h.mem_iff.1 hx)) (by rw [h.length_eq]; exact hn)
end Go.Proofs.Ytbhndnjlplibmaa.lg
