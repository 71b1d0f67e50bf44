/- Opening a log, in plain terms: one round of each loop. No program here. -/
import Derived.Test.YtldpflijgbcbhaaDoorLgM
namespace Go.Proofs.YtldpflijgbcbhaaDoor.lg
open Go.RowKit

def idx (k j : Nat) : Nat := if j = 0 then 0 else if j = 1 then 1 else 2 + k
def lookN (blk : Nat → Option Chk) (k last : Nat) : Nat → Option (Chk × Nat)
  | 0 => none
  | j + 1 => look blk k last (lookN blk k last j) (idx k j)
theorem pick_eq (blk : Nat → Option Chk) (k last : Nat) : pick blk k last = lookN blk k last 3 := rfl
def epN (blk : Nat → Option Chk) (k e : Nat) : Nat → Nat
  | 0 => e
  | j + 1 => max (epN blk k e j) (epOf (blk (idx k j)))
theorem epK_eq (blk : Nat → Option Chk) (k e : Nat) : epK blk k e = epN blk k e 3 := rfl
/-- the best so far, as numbers -/
def AccN (acc : Option (Chk × Nat)) (u x e a : Int) : Prop :=
  match acc with
  | none => u = 0 ∧ x = 0 ∧ e = -1 ∧ a = -1
  | some p => u = p.1.used ∧ x = p.1.index ∧ e = p.1.epoch ∧ a = p.2
theorem better_num {acc : Option (Chk × Nat)} {u x e a : Int} (h : AccN acc u x e a) (c : Chk) : better acc c = true ↔ (e < (c.epoch : Int) ∨ ((c.epoch : Int) = e ∧ u < (c.used : Int))) := by
  cases acc with
  | none =>
    obtain ⟨_, _, rfl, _⟩ := h
    exact ⟨fun _ => Or.inl (by omega), fun _ => rfl⟩
  | some p =>
    obtain ⟨rfl, _, rfl, _⟩ := h
    simp only [better, Bool.or_eq_true, Bool.and_eq_true, decide_eq_true_eq]
    omega
theorem look_no {blk : Nat → Option Chk} {k last i : Nat} {acc : Option (Chk × Nat)} (h : blk i = none) : look blk k last acc i = acc := by unfold look; rw [h]
theorem look_bad {blk : Nat → Option Chk} {k last i : Nat} {acc : Option (Chk × Nat)} {c : Chk} (h : blk i = some c) (hg : ¬ (c.index = k % 256 ∧ last ≤ c.epoch ∧ (i < 2 ∨ 60 ≤ c.used))) : look blk k last acc i = acc :=
  look_skip fun d hd hgd => by rw [h] at hd; obtain rfl := Option.some.inj hd; exact absurd (good_iff.1 hgd) hg
theorem look_less {blk : Nat → Option Chk} {k last i : Nat} {acc : Option (Chk × Nat)} {c : Chk} {u x e a : Int} (h : blk i = some c) (hn : AccN acc u x e a) (hb : ¬ (e < (c.epoch : Int) ∨ ((c.epoch : Int) = e ∧ u < (c.used : Int)))) : look blk k last acc i = acc :=
  look_skip fun d hd _ => by rw [h] at hd; obtain rfl := Option.some.inj hd; simpa using fun hbt => hb ((better_num hn c).1 hbt)
theorem look_take {blk : Nat → Option Chk} {k last i : Nat} {acc : Option (Chk × Nat)} {c : Chk} {u x e a : Int} (h : blk i = some c) (hg : c.index = k % 256 ∧ last ≤ c.epoch ∧ (i < 2 ∨ 60 ≤ c.used)) (hn : AccN acc u x e a) (hb : e < (c.epoch : Int) ∨ ((c.epoch : Int) = e ∧ u < (c.used : Int))) : look blk k last acc i = some (c, i) :=
  look_good h (good_iff.2 hg) ((better_num hn c).2 hb)
theorem look_of {blk : Nat → Option Chk} {k last i : Nat} {acc : Option (Chk × Nat)} (hp : ∀ p, acc = some p → p.2 ≤ 2 + k ∧ blk p.2 = some p.1 ∧ (p.2 < 2 ∨ p.2 = 2 + k)) (hi : i < 2 ∨ i = 2 + k) : ∀ p, look blk k last acc i = some p → p.2 ≤ 2 + k ∧ blk p.2 = some p.1 ∧ (p.2 < 2 ∨ p.2 = 2 + k) := by
  intro p h
  rcases look_mem h with h | ⟨h1, h2, _⟩
  · exact hp p h
  · rw [h1]; exact ⟨by omega, h2, hi⟩
theorem pick_of {blk : Nat → Option Chk} {k last : Nat} {p : Chk × Nat} (h : pick blk k last = some p) : p.2 ≤ 2 + k ∧ blk p.2 = some p.1 ∧ (p.2 < 2 ∨ p.2 = 2 + k) :=
  look_of (look_of (look_of (fun p hp => by cases hp) (Or.inl (by omega))) (Or.inl (by omega))) (Or.inr rfl) p h

/-! the chunks one behind the other -/
structure OG (blk : Nat → Option Chk) (mn k : Nat) (o : OpS) : Prop where
  le : k ≤ mn
  eq : openGo blk (mn + 2) 0 op0 = openGo blk (mn + 2 - k) k o
theorem OG.start (blk : Nat → Option Chk) (mn : Nat) : OG blk mn 0 op0 := ⟨Nat.zero_le _, rfl⟩
section
variable {blk : Nat → Option Chk} {mn k : Nat} {o : OpS}
theorem OG.none (h : OG blk mn k o) (hp : pick blk k o.last = none) : openGo blk (mn + 2) 0 op0 = { o with epoch := epK blk k o.epoch } := by
  have := h.le
  rw [h.eq, show mn + 2 - k = (mn + 1 - k) + 1 by omega, openGo, hp]
theorem OG.short (h : OG blk mn k o) {p : Chk × Nat} (hp : pick blk k o.last = some p) (hu : p.1.used < 60) : openGo blk (mn + 2) 0 op0 = opNext o (epK blk k o.epoch) p := by
  have := h.le
  rw [h.eq, show mn + 2 - k = (mn + 1 - k) + 1 by omega, openGo, hp]
  exact if_pos hu
theorem OG.more (h : OG blk mn k o) {p : Chk × Nat} (hp : pick blk k o.last = some p) (hu : ¬ p.1.used < 60) (ht : ∀ i c, i < 2 → blk i = some c → c.used < 60) (hn : ∀ i, mn ≤ i → blk i = Option.none) : k < mn ∧ OG blk mn (k + 1) (opNext o (epK blk k o.epoch) p) := by
  have := h.le
  obtain ⟨h1, h2, h3⟩ := pick_of hp
  have hk : k < mn := by
    rcases h3 with h3 | h3
    · exact absurd (ht _ _ h3 h2) hu
    · rcases Nat.lt_or_ge p.2 mn with h4 | h4
      · omega
      · rw [hn _ h4] at h2; cases h2
  refine ⟨hk, hk, ?_⟩
  rw [h.eq, show mn + 2 - k = (mn + 2 - (k + 1)) + 1 by omega, openGo, hp]
  exact if_neg hu
end

theorem chkOf_ep {m : Option (List UInt8)} {c : Chk} (h : chkOf m = some c) : c.epoch ≤ 65535 ∧ c.used ≤ 60 ∧ c.index ≤ 255 ∧ c.bytes.length ≤ 60 := by
  cases m with
  | none => cases h
  | some l =>
    unfold chkOf at h
    simp only [] at h
    split at h
    · rename_i hb
      obtain rfl := Option.some.inj h
      have hlt : ∀ i, bAt l i < 256 := fun i => (l.getD i 0).toNat_lt
      have := hlt 1; have := hlt 2; have := hlt 3
      refine ⟨by simp only []; omega, by simp only []; omega, by simp only []; omega, ?_⟩
      simp only [List.length_take, List.length_drop]
      omega
    · cases h
theorem blkOf_ep {now : List (Option (List UInt8))} {fr mn i : Nat} {c : Chk} (h : blkOf now fr mn i = some c) : c.epoch ≤ 65535 ∧ c.used ≤ 60 ∧ c.index ≤ 255 ∧ c.bytes.length ≤ 60 := by
  unfold blkOf at h
  split at h
  · exact chkOf_ep h
  · cases h
theorem epOf_le (now : List (Option (List UInt8))) (fr mn i : Nat) : epOf (blkOf now fr mn i) ≤ 65535 := by
  cases h : blkOf now fr mn i with
  | none => exact Nat.zero_le _
  | some c => exact (blkOf_ep h).1
theorem epN_le {now : List (Option (List UInt8))} {fr mn k e : Nat} (he : e ≤ 65535) : ∀ j, epN (blkOf now fr mn) k e j ≤ 65535 := by
  intro j
  induction j with
  | zero => exact he
  | succ j ih => have := epOf_le now fr mn (idx k j); simp only [epN]; omega
theorem epAll_le' {now : List (Option (List UInt8))} {fr mn e : Nat} (he : e ≤ 65535) : ∀ j, epAll (blkOf now fr mn) j e ≤ 65535 := by
  intro j
  induction j with
  | zero => exact he
  | succ j ih => have := epOf_le now fr mn j; simp only [epAll]; omega
end Go.Proofs.YtldpflijgbcbhaaDoor.lg
