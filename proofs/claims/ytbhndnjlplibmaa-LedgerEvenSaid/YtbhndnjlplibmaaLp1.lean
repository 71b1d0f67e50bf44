/- LedgerParts: the plain law. -/
import Derived.Test.YtbhndnjlplibmaaEn5
import Derived.Test.YtbhndnjlplibmaaLoL
namespace Go.Proofs.Ytbhndnjlplibmaa.lg
open Go.RowKit

/-- within the bounds -/
def inB (e : EntryM) : Prop := (1 ≤ e.ent ∧ e.ent ≤ 3) ∧ (1 ≤ e.per ∧ e.per ≤ 4)
theorem someB_cons (pick : EntryM → Bool) (x : EntryM) (r : List EntryM) : someB pick (x :: r) = (if pick x = true then entB x else []) ++ someB pick r := by
  unfold someB
  by_cases hp : pick x = true
  · rw [List.filter_cons_of_pos hp, if_pos hp, List.flatMap_cons]
  · rw [List.filter_cons_of_neg hp, if_neg hp, List.nil_append]
theorem sum_some (pick : EntryM → Bool) (x : EntryM) (r : List EntryM) (q : PlM) : sumAt (someB pick (x :: r)) q = (if pick x = true then sumAt (entB x) q else 0) + sumAt (someB pick r) q := by
  rw [someB_cons, sumAt_append]
  split <;> simp [sumAt_nil]
/-- the sums of the first k trials -/
def vis (G : List EntryM) : Nat → PlM → Int
  | 0, _ => 0
  | k + 1, q => vis G k q + sumAt (someB (pickTrial ((k / 4 + 1 : Nat) : Int) ((k % 4 + 1 : Nat) : Int)) G) q
def nth (x : EntryM) : Nat → Int → Int
  | 0, _ => 0
  | k + 1, s => nth x k s + if pickTrial ((k / 4 + 1 : Nat) : Int) ((k % 4 + 1 : Nat) : Int) x = true then s else 0
theorem vis_cons (x : EntryM) (r : List EntryM) (q : PlM) : ∀ k, vis (x :: r) k q = nth x k (sumAt (entB x) q) + vis r k q
  | 0 => rfl
  | k + 1 => by
    show vis (x :: r) k q + _ = nth x k _ + _ + (vis r k q + _)
    rw [vis_cons x r q k, sum_some]
    omega
theorem nth_all {x : EntryM} (h : inB x) (s : Int) : nth x 12 s = s := by
  obtain ⟨⟨h1, h2⟩, h3, h4⟩ := h
  have he : x.ent = 1 ∨ x.ent = 2 ∨ x.ent = 3 := by omega
  have hp : x.per = 1 ∨ x.per = 2 ∨ x.per = 3 ∨ x.per = 4 := by omega
  rcases he with he | he | he <;> rcases hp with hp | hp | hp | hp <;> simp [nth, pickTrial, he, hp]
theorem vis_all : ∀ {G : List EntryM}, (∀ x ∈ G, inB x) → ∀ q, vis G 12 q = sumAt (someB (pickBal 4) G) q
  | [], _, q => by rfl
  | x :: r, h, q => by
    have hx := h x (List.mem_cons_self ..)
    rw [vis_cons, nth_all hx, sum_some, vis_all (fun y hy => h y (List.mem_cons_of_mem _ hy))]
    rw [if_pos (by unfold pickBal; exact decide_eq_true hx.2.2)]
theorem none_all : ∀ {G : List EntryM}, (∀ x ∈ G, inB x) → someB (pickBal 0) G = []
  | [], _ => rfl
  | x :: r, h => by
    have hx := h x (List.mem_cons_self ..)
    rw [someB_cons, none_all (fun y hy => h y (List.mem_cons_of_mem _ hy)), if_neg]
    · rfl
    · unfold pickBal
      rw [decide_eq_true_eq]
      have := hx.2.1
      omega
/-- up to no period there are none -/
theorem none_is {G : List EntryM} {c d : Int} {W N : List BalM} (hg : ∀ x ∈ G, inB x) (hw : SomeIs (pickBal 4) G c W) (hn : SomeIs (pickBal 0) G d N) (h0 : c = 0) : d = 0 ∧ N = [] := by
  obtain ⟨h1, h2, _⟩ := hw.iff.1 h0
  have d0 : d = 0 := hn.iff.2 ⟨h1, h2, by rw [none_all hg]; exact Nat.zero_le _⟩
  refine ⟨d0, ?_⟩
  refine rises_ext hn.rises (by exact List.Pairwise.nil) hn.ne (fun x hx => by cases hx) (fun p => ?_)
  rw [hn.sum d0, none_all hg, sumAt_nil, wrap64_eq]
  rfl
/-- what is added up so far -/
def AllIs (G : List EntryM) (k : Nat) (A : List BalM) : Prop := chkB A = 0 ∧ ∀ q, sumAt A q % 18446744073709551616 = vis G k q % 18446744073709551616
theorem all_start (G : List EntryM) : AllIs G 0 [] := ⟨by decide, fun q => rfl⟩
theorem all_next {G : List EntryM} {k : Nat} {A T M : List BalM} {c d : Int} (h : AllIs G k A) (ht : SomeIs (pickTrial ((k / 4 + 1 : Nat) : Int) ((k % 4 + 1 : Nat) : Int)) G c T) (hm : MergeIs A T d M) (c0 : c = 0) (d0 : d = 0) : AllIs G (k + 1) M := by
  refine ⟨hm.chk d0, fun q => ?_⟩
  rw [hm.sum d0, ht.sum c0]
  show _ = (vis G k q + _) % _
  have h1 := h.2 q
  have h2 := wrap64_mod (sumAt (someB (pickTrial ((k / 4 + 1 : Nat) : Int) ((k % 4 + 1 : Nat) : Int)) G) q)
  omega
theorem all_end {G : List EntryM} {A W : List BalM} {c : Int} (hg : ∀ x ∈ G, inB x) (h : AllIs G 12 A) (hw : SomeIs (pickBal 4) G c W) (c0 : c = 0) : A = W := by
  obtain ⟨_, h2, h3⟩ := chk_iff.1 h.1
  refine rises_ext h2 hw.rises (fun x hx => (h3 x hx).2) hw.ne (fun p => ?_)
  have h4 := mayB_iff.1 (sum_small h2.nodup (fun x hx => (h3 x hx).1) p)
  have h5 := h.2 p
  have h6 := hw.sum c0 p
  have h7 := wrap64_in64 (sumAt (someB (pickBal 4) G) p)
  have h8 := wrap64_mod (sumAt (someB (pickBal 4) G) p)
  rw [vis_all hg] at h5
  omega
/-- the two lines of the fact -/
theorem fact_len {ref a1 a2 cu : ByteArray} {c : Int} {L : List BalM} (hne : a1 ≠ a2) (h : SomeIs (pickTrial 2 3) [⟨ref, 2, 3, [⟨a1, cu, 5⟩, ⟨a2, cu, -5⟩]⟩] c L) : c = 0 ∧ L.length = 2 := by
  have hb : someB (pickTrial 2 3) [⟨ref, 2, 3, [⟨a1, cu, 5⟩, ⟨a2, cu, -5⟩]⟩] = [⟨2, a1, cu, 5⟩, ⟨2, a2, cu, -5⟩] := rfl
  have h0 : c = 0 := h.iff.2 ⟨by simp, by simp [badAll, badL, mayA], by
    rw [hb]
    exact Nat.le_trans (fold_le (m := [⟨2, a1, cu, 5⟩, ⟨2, a2, cu, -5⟩]) (fun x hx => ⟨x, hx, rfl⟩)) (by simp)⟩
  refine ⟨h0, ?_⟩
  have hs := fun p => h.sum h0 p
  rw [hb] at hs
  have hp : (⟨2, a1, cu⟩ : PlM) ≠ ⟨2, a2, cu⟩ := fun e => hne (by injection e)
  have hin : ∀ p, sumAt L p ≠ 0 → p ∈ L.map plOf := fun p hp => by
    rcases Classical.em (∃ x ∈ L, plOf x = p) with ⟨x, hx, rfl⟩ | hn
    · exact List.mem_map.2 ⟨x, hx, rfl⟩
    · exact absurd (sumAt_none (fun x hx e => hn ⟨x, hx, e⟩)) hp
  have v1 : sumAt L ⟨2, a1, cu⟩ = 5 := by
    rw [hs, sumAt_cons, sumAt_cons, sumAt_nil]
    show wrap64 ((if (⟨2, a1, cu⟩ : PlM) = ⟨2, a1, cu⟩ then (5 : Int) else 0) + ((if (⟨2, a2, cu⟩ : PlM) = ⟨2, a1, cu⟩ then (-5 : Int) else 0) + 0)) = 5
    rw [if_pos rfl, if_neg hp.symm, wrap64_eq]; rfl
  have v2 : sumAt L ⟨2, a2, cu⟩ = -5 := by
    rw [hs, sumAt_cons, sumAt_cons, sumAt_nil]
    show wrap64 ((if (⟨2, a1, cu⟩ : PlM) = ⟨2, a2, cu⟩ then (5 : Int) else 0) + ((if (⟨2, a2, cu⟩ : PlM) = ⟨2, a2, cu⟩ then (-5 : Int) else 0) + 0)) = -5
    rw [if_pos rfl, if_neg hp, wrap64_eq]; rfl
  have hlo : [(⟨2, a1, cu⟩ : PlM), ⟨2, a2, cu⟩].length ≤ (L.map plOf).length := nd_len (by simp [hp]) (fun x hx => by
    simp only [List.mem_cons, List.not_mem_nil, or_false] at hx
    rcases hx with rfl | rfl
    · exact hin _ (by rw [v1]; decide)
    · exact hin _ (by rw [v2]; decide))
  have hhi : (L.map plOf).length ≤ [(⟨2, a1, cu⟩ : PlM), ⟨2, a2, cu⟩].length := nd_len (List.pairwise_map.2 h.rises.nodup) (fun q hq => by
    obtain ⟨x, hx, rfl⟩ := List.mem_map.1 hq
    have h9 : sumAt L (plOf x) ≠ 0 := by rw [sumAt_mem h.rises.nodup hx]; exact h.ne x hx
    simp only [List.mem_cons, List.not_mem_nil, or_false]
    refine Classical.byContradiction fun hno => h9 ?_
    rw [not_or] at hno
    rw [hs, sumAt_cons, sumAt_cons, sumAt_nil]
    show wrap64 ((if (⟨2, a1, cu⟩ : PlM) = plOf x then (5 : Int) else 0) + ((if (⟨2, a2, cu⟩ : PlM) = plOf x then (-5 : Int) else 0) + 0)) = 0
    rw [if_neg (fun e => hno.1 e.symm), if_neg (fun e => hno.2 e.symm), wrap64_eq]; rfl)
  rw [List.length_map] at hlo hhi
  simp at hlo hhi
  omega
end Go.Proofs.Ytbhndnjlplibmaa.lg
