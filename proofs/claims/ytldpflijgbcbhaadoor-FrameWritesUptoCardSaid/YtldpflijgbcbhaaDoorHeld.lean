/- Blocks that are known whole, beside what was there before ('Fr'). -/
import Derived.Test.YtldpflijgbcbhaaDoorStays
namespace Go.Proofs.YtldpflijgbcbhaaDoor
open Go.RowKit

/-- what was there before is as it was, and these blocks, new since, are known -/
structure Fr (w : World) (bs : List (Nat × Obj)) (wi : World) : Prop where
  below : Below w.heap.size w wi
  has : ∀ p ∈ bs, w.heap.size ≤ p.1 ∧ wi.heap[p.1]? = some p.2
theorem Fr.nil (w : World) : Fr w [] w := ⟨Below.refl _ _, fun _ h => by cases h⟩
theorem Fr.lt {w wi : World} {bs : List (Nat × Obj)} {p : Nat × Obj} (h : Fr w bs wi) (hp : p ∈ bs) : p.1 < wi.heap.size := lt_of_heap (h.has p hp).2
theorem Fr.later {w wi wj : World} {bs : List (Nat × Obj)} (h : Fr w bs wi) (hb : Below wi.heap.size wi wj) : Fr w bs wj :=
  ⟨h.below.trans (hb.mono h.below.size), fun p hp => ⟨(h.has p hp).1, by rw [hb.block _ (h.lt hp)]; exact (h.has p hp).2⟩⟩
theorem Fr.newAt {w wi : World} {bs : List (Nat × Obj)} (h : Fr w bs wi) {n : Nat} (hn : wi.heap.size = n) (o : Obj) : Fr w ((n, o) :: bs) (wi.alloc o) := by
  have h' := h.later ((Below.refl _ _).alloc (Nat.le_refl _) o)
  refine ⟨h'.below, fun p hp => ?_⟩
  rcases List.mem_cons.1 hp with rfl | hp
  · exact ⟨by have := h.below.size; simp only; omega, heap_new_at hn o⟩
  · exact h'.has p hp
theorem Fr.new {w wi : World} {bs : List (Nat × Obj)} (h : Fr w bs wi) (o : Obj) : Fr w ((wi.heap.size, o) :: bs) (wi.alloc o) := h.newAt rfl o
theorem Fr.only {w wi wj : World} {bs : List (Nat × Obj)} {S : Nat → Prop} (h : Fr w bs wi) (ho : Only S wi wj) (hS : ∀ k, S k → w.heap.size ≤ k) (hb : ∀ p ∈ bs, ¬ S p.1) : Fr w bs wj :=
  ⟨h.below.trans (ho.below h.below.size hS), fun p hp => ⟨(h.has p hp).1, by rw [ho.block _ (h.lt hp) (hb p hp)]; exact (h.has p hp).2⟩⟩
theorem Fr.sub {w wi : World} {bs cs : List (Nat × Obj)} (h : Fr w bs wi) (hs : ∀ p ∈ cs, p ∈ bs) : Fr w cs wi := ⟨h.below, fun p hp => h.has p (hs p hp)⟩
theorem Fr.set {w wi : World} {bs : List (Nat × Obj)} {k : Nat} {cs : Array Value} {t : TypeId} (h : Fr w ((k, .cells cs t (0, 0)) :: bs) wi) (hk : ∀ p ∈ bs, p.1 ≠ k) (i : Nat) (v : Value) :
    Fr w ((k, .cells (cs.setIfInBounds i v) t (0, 0)) :: bs) (wi.setCell ⟨k, i, none⟩ v) := by
  have h0 := h.has _ (List.mem_cons_self ..)
  refine ⟨h.below.setCell h0.1 _, fun p hp => ?_⟩
  rcases List.mem_cons.1 hp with rfl | hp
  · exact ⟨h0.1, heap_setCell_same h0.2 v⟩
  · have h1 := h.has p (List.mem_cons_of_mem _ hp)
    exact ⟨h1.1, by rw [Below.heap_setCell _ _ _ _ (hk p hp)]; exact h1.2⟩
theorem Fr.cell {w wi : World} {bs : List (Nat × Obj)} {k : Nat} {cs : Array Value} {t : TypeId} (h : Fr w bs wi) (hm : (k, .cells cs t (0, 0)) ∈ bs) (i : Nat) : wi.cell? ⟨k, i, none⟩ = cs[i]? := cell_of_heap (h.has _ hm).2 i
theorem Fr.free {w wi : World} {bs : List (Nat × Obj)} {k : Nat} {cs : Array Value} {t : TypeId} (h : Fr w bs wi) (hm : (k, .cells cs t (0, 0)) ∈ bs) (i : Nat) : wi.frozen? ⟨k, i, none⟩ = false := free_of_heap (h.has _ hm).2 i
theorem Fr.old {w wi : World} {bs : List (Nat × Obj)} (h : Fr w bs wi) {b : Nat} (hb : b < w.heap.size) (o : Nat) : wi.cell? ⟨b, o, none⟩ = w.cell? ⟨b, o, none⟩ := h.below.cell (p := ⟨b, o, none⟩) hb

theorem Fr.hd {w wi : World} {a : Nat × Obj} {bs : List (Nat × Obj)} (h : Fr w (a :: bs) wi) : wi.heap[a.1]? = some a.2 := (h.has a (List.mem_cons_self ..)).2
theorem Fr.snd {w wi : World} {a b : Nat × Obj} {bs : List (Nat × Obj)} (h : Fr w (a :: b :: bs) wi) : wi.heap[b.1]? = some b.2 := (h.has b (by simp)).2
theorem Fr.thd {w wi : World} {a b c : Nat × Obj} {bs : List (Nat × Obj)} (h : Fr w (a :: b :: c :: bs) wi) : wi.heap[c.1]? = some c.2 := (h.has c (by simp)).2

/-- where a row lies -/
theorem row_lt {w : World} {base : Nat} {e : TypeId} {sz : Nat} {v : Value} {n : Nat} {xs : List Value} (h : w.ownsRow base e sz v n xs) : ∀ k, v.ownBlock = some k → base ≤ k ∧ k < w.heap.size := by
  intro k hk
  rcases h.2 with ⟨hv, _⟩ | ⟨g, c, cur, hv, hb, hh, _⟩
  · rw [hv] at hk; simp [Value.ownBlock] at hk
  · rw [hv] at hk
    simp only [Value.ownBlock, Option.some.injEq] at hk
    subst hk
    exact ⟨hb, lt_of_heap hh⟩
theorem row_keep {w w' : World} {base : Nat} {e : TypeId} {sz : Nat} {v : Value} {n : Nat} {xs : List Value} (h : w.ownsRow base e sz v n xs) (hk : ∀ g, v.ownBlock = some g → w'.heap[g]? = w.heap[g]?) : w'.ownsRow base e sz v n xs := by
  obtain ⟨h1, h2⟩ := h
  refine ⟨h1, ?_⟩
  rcases h2 with h2 | ⟨g, cap, cur, hv, hg, hh, r⟩
  · exact Or.inl h2
  · exact Or.inr ⟨g, cap, cur, hv, hg, by rw [hk g (by rw [hv]; rfl)]; exact hh, r⟩
end Go.Proofs.YtldpflijgbcbhaaDoor
