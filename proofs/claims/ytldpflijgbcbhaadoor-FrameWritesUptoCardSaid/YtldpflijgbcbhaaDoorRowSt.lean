/- A row that grows among blocks that are known: what is so behind each step. -/
import Derived.Test.YtldpflijgbcbhaaDoorHeld
namespace Go.Proofs.YtldpflijgbcbhaaDoor
open Go.RowKit

structure RowSt (w : World) (bs : List (Nat × Obj)) (E : TypeId) (sz : Nat) (lv : Value) (n : Nat) (xs : List Value) (wi : World) : Prop where
  fr : Fr w bs wi
  row : wi.ownsRow w.heap.size E sz lv n xs
  ne : ∀ k, lv.ownBlock = some k → ∀ p ∈ bs, p.1 ≠ k
section
variable {w wi wj : World} {bs : List (Nat × Obj)} {E : TypeId} {sz : Nat} {lv : Value} {n : Nat} {xs : List Value}
theorem RowSt.start (h : Fr w bs wi) : RowSt w bs E sz (.slice none 0 0) 0 [] wi := ⟨h, World.ownsRow_nil _ _ _ _, fun k hk => by simp [Value.ownBlock] at hk⟩
theorem RowSt.later (h : RowSt w bs E sz lv n xs wi) (hb : Below wi.heap.size wi wj) : RowSt w bs E sz lv n xs wj :=
  ⟨h.fr.later hb, row_keep h.row (fun k hk => hb.block k (row_lt h.row k hk).2), h.ne⟩
theorem RowSt.newAt (h : RowSt w bs E sz lv n xs wi) {m : Nat} (hm : wi.heap.size = m) (o : Obj) : RowSt w ((m, o) :: bs) E sz lv n xs (wi.alloc o) := by
  have h' := h.later ((Below.refl _ _).alloc (Nat.le_refl _) o)
  refine ⟨h.fr.newAt hm o, h'.row, fun k hk p hp => ?_⟩
  rcases List.mem_cons.1 hp with rfl | hp
  · have := (row_lt h.row k hk).2; simp only; omega
  · exact h.ne k hk p hp
theorem RowSt.sub {cs : List (Nat × Obj)} (h : RowSt w bs E sz lv n xs wi) (hs : ∀ p ∈ cs, p ∈ bs) : RowSt w cs E sz lv n xs wi := ⟨h.fr.sub hs, h.row, fun k hk p hp => h.ne k hk p (hs p hp)⟩
theorem RowSt.set {k : Nat} {cs : Array Value} {t : TypeId} (h : RowSt w ((k, .cells cs t (0, 0)) :: bs) E sz lv n xs wi) (hk : ∀ p ∈ bs, p.1 ≠ k) (i : Nat) (v : Value) :
    RowSt w ((k, .cells (cs.setIfInBounds i v) t (0, 0)) :: bs) E sz lv n xs (wi.setCell ⟨k, i, none⟩ v) := by
  have ho : Only (fun j => j = k) wi (wi.setCell ⟨k, i, none⟩ v) := (Only.refl (fun j => j = k) wi).setCell (p := ⟨k, i, none⟩) rfl _
  refine ⟨h.fr.set hk i v, row_keep h.row (fun j hj => ho.block j (row_lt h.row j hj).2 (fun e => h.ne j hj _ (List.mem_cons_self ..) e.symm)), fun j hj p hp => ?_⟩
  rcases List.mem_cons.1 hp with rfl | hp
  · exact h.ne j hj (k, .cells cs t (0, 0)) (List.mem_cons_self ..)
  · exact h.ne j hj p (List.mem_cons_of_mem _ hp)
/-- the row has turned to another, in its own block or in a new one -/
theorem RowSt.moved (h : RowSt w bs E sz lv n xs wi) {v9 : Value} {n' : Nat} {xs' : List Value} (hown : wj.ownsRow w.heap.size E sz v9 n' xs') (hm : Moved wi wj lv v9) : RowSt w bs E sz v9 n' xs' wj := by
  refine ⟨h.fr.only hm.only (fun k hk => (row_lt h.row k hk).1) (fun p hp hk => h.ne _ hk p hp rfl), hown, fun k hk p hp => ?_⟩
  rcases hm.blk with e | ⟨g, e, hg⟩
  · rw [e] at hk; exact h.ne k hk p hp
  · rw [e] at hk
    injection hk with hk
    have := h.fr.lt hp
    omega
end
end Go.Proofs.YtldpflijgbcbhaaDoor
