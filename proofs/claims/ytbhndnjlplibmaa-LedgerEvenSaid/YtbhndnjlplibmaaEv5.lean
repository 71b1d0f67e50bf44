/- LedgerEven: the plain law. -/
import Derived.Test.YtbhndnjlplibmaaLp1
import Derived.Test.YtbhndnjlplibmaaEv4
namespace Go.Proofs.Ytbhndnjlplibmaa.lg
open Go.RowKit

/-- what is at some places, all together -/
def sumQ (Q : PlM → Bool) (l : List BalM) : Int := (l.map fun x => if Q (plOf x) = true then x.amt else 0).sum
theorem sumQ_cons (Q : PlM → Bool) (x : BalM) (l : List BalM) : sumQ Q (x :: l) = (if Q (plOf x) = true then x.amt else 0) + sumQ Q l := by unfold sumQ; rw [List.map_cons, List.sum_cons]
theorem sumQ_append (Q : PlM → Bool) (l r : List BalM) : sumQ Q (l ++ r) = sumQ Q l + sumQ Q r := by unfold sumQ; rw [List.map_append, List.sum_append]
theorem sumQ_part (Q : PlM → Bool) (p : PlM) : ∀ l : List BalM, sumQ Q l = (if Q p = true then sumAt l p else 0) + sumQ Q (l.filter fun x => decide (plOf x ≠ p))
  | [] => by simp [sumQ, sumAt_nil]
  | x :: r => by
    have ih := sumQ_part Q p r
    rw [sumQ_cons, ih, sumAt_cons]
    by_cases e : plOf x = p
    · rw [List.filter_cons_of_neg (by simp [e]), if_pos e, e]
      by_cases hq : Q p = true
      · rw [if_pos hq, if_pos hq, if_pos hq]; omega
      · rw [if_neg hq, if_neg hq, if_neg hq]; omega
    · rw [List.filter_cons_of_pos (by simp [e]), sumQ_cons, if_neg e, Int.zero_add]
      omega
theorem sumAt_part (p q : PlM) : ∀ l : List BalM, sumAt (l.filter fun x => decide (plOf x ≠ p)) q = if q = p then 0 else sumAt l q
  | [] => by simp [sumAt_nil]
  | x :: r => by
    have ih := sumAt_part p q r
    by_cases e : plOf x = p
    · rw [List.filter_cons_of_neg (by simp [e]), ih, sumAt_cons, e]
      by_cases h : q = p
      · rw [if_pos h, if_pos h]
      · rw [if_neg h, if_neg h, if_neg (fun h2 => h h2.symm)]; omega
    · rw [List.filter_cons_of_pos (by simp [e]), sumAt_cons, ih, sumAt_cons]
      by_cases h : q = p
      · rw [if_pos h, if_pos h, if_neg (fun h2 => e (h2.trans h))]; rfl
      · rw [if_neg h, if_neg h]
theorem sumQ_zero (Q : PlM → Bool) : ∀ (n : Nat) (l : List BalM), l.length ≤ n → (∀ p, sumAt l p % 18446744073709551616 = 0) → sumQ Q l % 18446744073709551616 = 0
  | _, [], _, _ => by simp [sumQ]
  | 0, _ :: _, h, _ => by simp at h
  | n + 1, x :: r, h, hz => by
    rw [sumQ_part Q (plOf x) (x :: r)]
    have hlen : ((x :: r).filter fun y => decide (plOf y ≠ plOf x)).length ≤ n := by
      rw [List.filter_cons_of_neg (by simp)]
      have := List.length_filter_le (fun y => decide (plOf y ≠ plOf x)) r
      simp only [List.length_cons] at h
      omega
    have h1 := sumQ_zero Q n _ hlen (fun p => by
      rw [sumAt_part]
      split
      · rfl
      · exact hz p)
    have h2 := hz (plOf x)
    split <;> omega
def negQ (x : BalM) : BalM := { x with amt := -x.amt }
theorem sumAt_neg (p : PlM) : ∀ l : List BalM, sumAt (l.map negQ) p = - sumAt l p
  | [] => rfl
  | x :: r => by
    rw [List.map_cons, sumAt_cons, sumAt_neg p r, sumAt_cons]
    show (if plOf x = p then -x.amt else 0) + _ = _
    split <;> omega
theorem sumQ_neg (Q : PlM → Bool) : ∀ l : List BalM, sumQ Q (l.map negQ) = - sumQ Q l
  | [] => rfl
  | x :: r => by
    rw [List.map_cons, sumQ_cons, sumQ_neg Q r, sumQ_cons]
    show (if Q (plOf x) = true then -x.amt else 0) + _ = _
    split <;> omega
theorem sumQ_same {Q : PlM → Bool} {l r : List BalM} (h : ∀ p, sumAt l p % 18446744073709551616 = sumAt r p % 18446744073709551616) : sumQ Q l % 18446744073709551616 = sumQ Q r % 18446744073709551616 := by
  have := sumQ_zero Q _ (l ++ r.map negQ) (Nat.le_refl _) (fun p => by
    rw [sumAt_append, sumAt_neg]
    have := h p
    omega)
  rw [sumQ_append, sumQ_neg] at this
  omega
def atEC (ent : Int) (cur : ByteArray) (p : PlM) : Bool := decide (p.ent = ent) && sameS p.cur cur
theorem even_ent {e : EntryM} (ent : Int) (cur : ByteArray) (h : ∀ cur, sumAt ((e.lines.map bare).map toB) ⟨0, ⟨#[]⟩, cur⟩ = 0) : sumQ (atEC ent cur) (entB e) = 0 := by
  have key : ∀ l : List LineM, sumQ (atEC ent cur) (l.map (lineB e)) = if e.ent = ent then sumAt ((l.map bare).map toB) ⟨0, ⟨#[]⟩, cur⟩ else 0 := fun l => by
    induction l with
    | nil => simp [sumQ, sumAt_nil]
    | cons x r ih =>
      rw [List.map_cons, sumQ_cons, ih, List.map_cons, List.map_cons, sumAt_cons]
      by_cases he : e.ent = ent
      · rw [if_pos he, if_pos he]
        by_cases hc : x.cur = cur
        · have h1 : atEC ent cur (plOf (lineB e x)) = true := by unfold atEC plOf lineB; simp [he, sameS_iff.2 hc]
          have h2 : plOf (toB (bare x)) = (⟨0, ⟨#[]⟩, cur⟩ : PlM) := by unfold plOf toB bare; simp [hc]
          rw [if_pos h1, if_pos h2]; rfl
        · have h1 : ¬ atEC ent cur (plOf (lineB e x)) = true := by
            unfold atEC plOf lineB
            simp only [Bool.and_eq_true, sameS_iff, not_and]
            exact fun _ => hc
          have h2 : ¬ plOf (toB (bare x)) = (⟨0, ⟨#[]⟩, cur⟩ : PlM) := by
            unfold plOf toB bare
            intro h3
            exact hc (by injection h3)
          rw [if_neg h1, if_neg h2]
      · have h1 : ¬ atEC ent cur (plOf (lineB e x)) = true := by
          unfold atEC plOf lineB
          simp only [Bool.and_eq_true, decide_eq_true_eq, not_and]
          exact fun h2 => absurd h2 he
        rw [if_neg he, if_neg he, if_neg h1]; rfl
  show sumQ (atEC ent cur) (e.lines.map (lineB e)) = 0
  rw [key, h]
  split <;> rfl
theorem even_some (pick : EntryM → Bool) (ent : Int) (cur : ByteArray) : ∀ {G : List EntryM}, (∀ e ∈ G, Good e) → sumQ (atEC ent cur) (someB pick G) = 0
  | [], _ => rfl
  | x :: r, h => by
    rw [someB_cons, sumQ_append, even_some pick ent cur (fun y hy => h y (List.mem_cons_of_mem _ hy))]
    split
    · rw [even_ent ent cur (h x (List.mem_cons_self ..)).even]; rfl
    · rfl
/-- each entity's balances of a currency are nothing together -/
theorem even_is {pick : EntryM → Bool} {G : List EntryM} {b : List BalM} {c : Int} (hg : ∀ e ∈ G, Good e) (h : SomeIs pick G c b) (c0 : c = 0) (ent : Int) (cur : ByteArray) : wrap64 (sumQ (atEC ent cur) b) = 0 := by
  have h1 := sumQ_same (Q := atEC ent cur) (l := b) (r := someB pick G) (fun p => by rw [h.sum c0]; exact wrap64_mod _)
  rw [even_some pick ent cur hg] at h1
  rw [wrap64_eq]
  omega
/-- what a period brought, entity by entity -/
def nthE (x : EntryM) (n : Int) : Nat → Int → Int
  | 0, _ => 0
  | k + 1, s => nthE x n k s + if pickTrial ((k : Int) + 1) n x = true then s else 0
def visE (G : List EntryM) (n : Int) : Nat → PlM → Int
  | 0, q => sumAt (someB (pickBal (n - 1)) G) q
  | k + 1, q => visE G n k q + sumAt (someB (pickTrial ((k : Int) + 1) n) G) q
theorem visE_cons (x : EntryM) (r : List EntryM) (n : Int) (q : PlM) : ∀ k, visE (x :: r) n k q = (if pickBal (n - 1) x = true then sumAt (entB x) q else 0) + nthE x n k (sumAt (entB x) q) + visE r n k q
  | 0 => by
    show sumAt (someB _ (x :: r)) q = _ + 0 + sumAt (someB _ r) q
    rw [sum_some]; omega
  | k + 1 => by
    show visE (x :: r) n k q + _ = _ + (nthE x n k _ + _) + (visE r n k q + _)
    rw [visE_cons x r n q k, sum_some]
    omega
theorem nthE_all {x : EntryM} (h : 1 ≤ x.ent ∧ x.ent ≤ 12) (n s : Int) : nthE x n 12 s = if x.per = n then s else 0 := by
  obtain ⟨h1, h2⟩ := h
  have he : x.ent = 1 ∨ x.ent = 2 ∨ x.ent = 3 ∨ x.ent = 4 ∨ x.ent = 5 ∨ x.ent = 6 ∨ x.ent = 7 ∨ x.ent = 8 ∨ x.ent = 9 ∨ x.ent = 10 ∨ x.ent = 11 ∨ x.ent = 12 := by omega
  by_cases hp : x.per = n
  · rw [if_pos hp]
    rcases he with he | he | he | he | he | he | he | he | he | he | he | he <;> simp [nthE, pickTrial, he, hp]
  · rw [if_neg hp]
    simp [nthE, pickTrial, hp]
theorem visE_all : ∀ {G : List EntryM}, (∀ x ∈ G, Good x) → ∀ n q, visE G n 12 q = sumAt (someB (pickBal n) G) q
  | [], _, n, q => by rfl
  | x :: r, h, n, q => by
    have hx := h x (List.mem_cons_self ..)
    rw [visE_cons, nthE_all hx.ent, sum_some, visE_all (fun y hy => h y (List.mem_cons_of_mem _ hy))]
    unfold pickBal
    simp only [decide_eq_true_eq]
    by_cases h1 : x.per = n
    · rw [if_neg (by omega), if_pos h1, if_pos (by omega)]; omega
    · by_cases h2 : x.per ≤ n - 1
      · rw [if_pos h2, if_neg h1, if_pos (by omega)]; omega
      · rw [if_neg h2, if_neg h1, if_neg (by omega)]; omega
def AllE (G : List EntryM) (n : Int) (k : Nat) (A : List BalM) : Prop := (0 < k → chkB A = 0) ∧ ∀ q, sumAt A q % 18446744073709551616 = visE G n k q % 18446744073709551616
theorem allE_start {G : List EntryM} {n : Int} {a : List BalM} {f : Int} (h : SomeIs (pickBal (n - 1)) G f a) (f0 : f = 0) : AllE G n 0 a := ⟨fun h => absurd h (Nat.lt_irrefl 0), fun q => by rw [h.sum f0]; exact wrap64_mod _⟩
theorem allE_next {G : List EntryM} {n : Int} {k : Nat} {A T M : List BalM} {c d : Int} (h : AllE G n k A) (ht : SomeIs (pickTrial ((k : Int) + 1) n) G c T) (hm : MergeIs A T d M) (c0 : c = 0) (d0 : d = 0) : AllE G n (k + 1) M := by
  refine ⟨fun _ => hm.chk d0, fun q => ?_⟩
  rw [hm.sum d0, ht.sum c0]
  show _ = (visE G n k q + _) % _
  have h1 := h.2 q
  have h2 := wrap64_mod (sumAt (someB (pickTrial ((k : Int) + 1) n) G) q)
  omega
theorem allE_end {G : List EntryM} {n : Int} {A W : List BalM} {c : Int} (hg : ∀ x ∈ G, Good x) (h : AllE G n 12 A) (hw : SomeIs (pickBal n) G c W) (c0 : c = 0) : A = W := by
  obtain ⟨_, h2, h3⟩ := chk_iff.1 (h.1 (by omega))
  refine rises_ext h2 hw.rises (fun x hx => (h3 x hx).2) hw.ne (fun p => ?_)
  have h4 := mayB_iff.1 (sum_small h2.nodup (fun x hx => (h3 x hx).1) p)
  have h5 := h.2 p
  have h6 := hw.sum c0 p
  have h7 := wrap64_in64 (sumAt (someB (pickBal n) G) p)
  have h8 := wrap64_mod (sumAt (someB (pickBal n) G) p)
  rw [visE_all hg] at h5
  omega
/-- the fact -/
theorem factE_is {ref a1 a2 cu : ByteArray} {c : Int} {L : List BalM} (hlt : lessS a1 a2 = true) (h : SomeIs (pickBal 1) [⟨ref, 1, 1, [⟨a1, cu, 5⟩, ⟨a2, cu, -5⟩]⟩] c L) : c = 0 ∧ L = [⟨1, a1, cu, 5⟩, ⟨1, a2, cu, -5⟩] := by
  have hb : someB (pickBal 1) [⟨ref, 1, 1, [⟨a1, cu, 5⟩, ⟨a2, cu, -5⟩]⟩] = [⟨1, a1, cu, 5⟩, ⟨1, a2, cu, -5⟩] := rfl
  have h0 : c = 0 := h.iff.2 ⟨by simp, by simp [badAll, badL, mayA], by
    rw [hb]
    exact Nat.le_trans (fold_le (m := [⟨1, a1, cu, 5⟩, ⟨1, a2, cu, -5⟩]) (fun x hx => ⟨x, hx, rfl⟩)) (by simp)⟩
  refine ⟨h0, ?_⟩
  have hr : Rises [⟨1, a1, cu, 5⟩, ⟨1, a2, cu, -5⟩] := by
    refine List.pairwise_cons.2 ⟨fun y hy => ?_, List.pairwise_singleton _ _⟩
    rw [List.mem_singleton.1 hy]
    exact Or.inr ⟨rfl, Or.inl hlt⟩
  refine rises_ext h.rises hr h.ne (fun x hx => ?_) (fun p => ?_)
  · simp only [List.mem_cons, List.not_mem_nil, or_false] at hx
    rcases hx with rfl | rfl
    · show (5 : Int) ≠ 0; decide
    · show (-5 : Int) ≠ 0; decide
  · rw [h.sum h0, hb, wrap64_eq]
    have hs : -5 ≤ sumAt [⟨1, a1, cu, 5⟩, ⟨1, a2, cu, -5⟩] p ∧ sumAt [⟨1, a1, cu, 5⟩, ⟨1, a2, cu, -5⟩] p ≤ 5 := by
      rw [sumAt_cons, sumAt_cons, sumAt_nil]
      simp only
      split <;> split <;> omega
    omega
end Go.Proofs.Ytbhndnjlplibmaa.lg
