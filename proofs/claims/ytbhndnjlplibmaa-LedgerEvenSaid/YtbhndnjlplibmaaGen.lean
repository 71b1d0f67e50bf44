/- Memory: which blocks may turn ('Only'), where a row lies that grew ('Moved'), what stays ('Stays'), blocks that are known whole ('Fr'), a row among them ('RowSt'). No program in sight. -/
import Derived.Test.YtbhndnjlplibmaaBase
import Derived.Laws.AppendOwn
import Derived.Maps.AppendAt
namespace Go.Proofs.Ytbhndnjlplibmaa
open Go.RowKit

/-- Of the blocks that are there only those of S may have turned. -/
structure Only (S : Nat → Prop) (w w' : World) : Prop where
  os : w'.os = w.os
  tape : w'.tape = w.tape
  output : w'.output = w.output
  size : w.heap.size ≤ w'.heap.size
  block : ∀ k, k < w.heap.size → ¬ S k → w'.heap[k]? = w.heap[k]?

theorem Only.refl (S : Nat → Prop) (w : World) : Only S w w := ⟨rfl, rfl, rfl, Nat.le_refl _, fun _ _ _ => rfl⟩
theorem Only.trans {S T : Nat → Prop} {a b c : World} (h : Only S a b) (k : Only T b c) (hT : ∀ i, i < a.heap.size → T i → S i) : Only S a c :=
  ⟨k.os.trans h.os, k.tape.trans h.tape, k.output.trans h.output, Nat.le_trans h.size k.size, fun i hi hn => (k.block i (Nat.lt_of_lt_of_le hi h.size) (fun ht => hn (hT i hi ht))).trans (h.block i hi hn)⟩
theorem Only.of_below {S : Nat → Prop} {w w' : World} (h : Below w.heap.size w w') : Only S w w' := ⟨h.os, h.tape, h.output, h.size, fun k hk _ => h.block k hk⟩
theorem Only.below {S : Nat → Prop} {w w' : World} {B : Nat} (h : Only S w w') (hB : B ≤ w.heap.size) (hS : ∀ k, S k → B ≤ k) : Below B w w' :=
  ⟨h.os, h.tape, h.output, h.size, fun k hk => h.block k (Nat.lt_of_lt_of_le hk hB) (fun hs => by have := hS k hs; omega)⟩
theorem Only.later {S : Nat → Prop} {a b c : World} (h : Only S a b) (k : Below b.heap.size b c) : Only S a c := h.trans (T := S) (Only.of_below k) (fun _ _ h => h)
theorem Only.setCell {S : Nat → Prop} {a b : World} (h : Only S a b) {p : Addr} (hp : S p.block) (u : Value) : Only S a (b.setCell p u) :=
  h.trans (T := S) ⟨rfl, rfl, rfl, by simp, fun k _ hn => Below.heap_setCell _ _ _ _ (fun e => hn (by rw [e]; exact hp))⟩ (fun _ _ h => h)
theorem Only.drew {S : Nat → Prop} {a b : World} (h : Only S a b) : Only S a b.drew := ⟨h.os, h.tape, h.output, h.size, h.block⟩
theorem Only.alloc {S : Nat → Prop} {a b : World} (h : Only S a b) (o : Obj) : Only S a (b.alloc o) := h.later ((Below.refl _ _).alloc (Nat.le_refl _) o)
theorem Only.mono {S T : Nat → Prop} {a b : World} (h : Only S a b) (hS : ∀ k, k < a.heap.size → S k → T k) : Only T a b := ⟨h.os, h.tape, h.output, h.size, fun k hk hn => h.block k hk (fun hs => hn (hS k hk hs))⟩

theorem lt_of_heap {w : World} {b : Nat} {o : Obj} (h : w.heap[b]? = some o) : b < w.heap.size := by
  rcases Nat.lt_or_ge b w.heap.size with hlt | hge
  · exact hlt
  · rw [Array.getElem?_eq_none hge] at h; cases h
theorem cell_of_heap {w : World} {b : Nat} {cs : Array Value} {t : TypeId} (h : w.heap[b]? = some (.cells cs t (0, 0))) (j : Nat) : w.cell? ⟨b, j, none⟩ = cs[j]? := by
  simp [World.cell?, h]
theorem free_of_heap {w : World} {b : Nat} {cs : Array Value} {t : TypeId} (h : w.heap[b]? = some (.cells cs t (0, 0))) (j : Nat) : w.frozen? ⟨b, j, none⟩ = false := by
  simp [World.frozen?, h]
theorem heap_setCell_same {w : World} {b j : Nat} {cs : Array Value} {t : TypeId} (h : w.heap[b]? = some (.cells cs t (0, 0))) (v : Value) : (w.setCell ⟨b, j, none⟩ v).heap[b]? = some (.cells (cs.setIfInBounds j v) t (0, 0)) := by
  simp [World.setCell, Array.getElem?_modify, h]

theorem addr_add (b o j : Nat) : Addr.add ⟨b, o, none⟩ j = ⟨b, o + j, none⟩ := by
  cases j <;> simp [Addr.add]

/-- v's own block, and new ones, may have turned; v' lies in v's or in a new one -/
structure Moved (w w' : World) (v v' : Value) : Prop where
  only : Only (fun k => v.ownBlock = some k) w w'
  blk : v'.ownBlock = v.ownBlock ∨ ∃ g, v'.ownBlock = some g ∧ w.heap.size ≤ g
theorem Moved.refl (w : World) (v : Value) : Moved w w v v := ⟨Only.refl _ _, Or.inl rfl⟩
theorem Moved.trans {a b c : World} {u v x : Value} (h : Moved a b u v) (k : Moved b c v x) : Moved a c u x := by
  refine ⟨h.only.trans k.only (fun i hi hv => ?_), ?_⟩
  · rcases h.blk with e | ⟨g, e, hg⟩
    · exact e ▸ hv
    · have hv' : v.ownBlock = some i := hv
      rw [e] at hv'
      injection hv' with hv'
      omega
  · rcases k.blk with e | ⟨g, e, hg⟩
    · rw [e]; exact h.blk
    · exact Or.inr ⟨g, e, Nat.le_trans h.only.size hg⟩
theorem Moved.of_below {w w' : World} (v : Value) (h : Below w.heap.size w w') : Moved w w' v v := ⟨Only.of_below h, Or.inl rfl⟩
theorem Only.of_grown {w w' : World} {row : Option Nat} (h : w.grownBy w' row) : Only (fun k => row = some k) w w' := ⟨h.os, h.tape, h.output, h.size, fun k hk hn => h.block k hk (fun e => hn e.symm)⟩
/-- an append behind a new block -/
theorem Moved.append {w w1 : World} {v v1 : Value} {o : Obj} (hg : (w.alloc o).grownBy w1 v.ownBlock) (hat : v1.ownBlock = v.ownBlock ∨ v1.ownBlock = some (w.heap.size + 1)) : Moved w w1 v v1 :=
  ⟨((Only.refl _ w).alloc o).trans (Only.of_grown hg) (fun _ _ h => h), hat.imp id (fun e => ⟨_, e, by omega⟩)⟩
/-- below B, and at F's blocks, nothing has turned -/
structure Stays (B : Nat) (F : Nat → Prop) (w w' : World) : Prop where
  below : Below B w w'
  blk : ∀ k, F k → w'.heap[k]? = w.heap[k]?
theorem Stays.refl (B : Nat) (F : Nat → Prop) (w : World) : Stays B F w w := ⟨Below.refl _ _, fun _ _ => rfl⟩
theorem Stays.trans {B : Nat} {F : Nat → Prop} {a b c : World} (h : Stays B F a b) (k : Stays B F b c) : Stays B F a c := ⟨h.below.trans k.below, fun i hi => (k.blk i hi).trans (h.blk i hi)⟩
theorem Stays.of_below {B : Nat} {F : Nat → Prop} {w w' : World} (h : Below w.heap.size w w') (hB : B ≤ w.heap.size) (hF : ∀ k, F k → k < w.heap.size) : Stays B F w w' := ⟨h.mono hB, fun k hk => h.block k (hF k hk)⟩
theorem Stays.mono {B : Nat} {F G : Nat → Prop} {w w' : World} (h : Stays B F w w') (hG : ∀ k, G k → F k) : Stays B G w w' := ⟨h.below, fun k hk => h.blk k (hG k hk)⟩
theorem Stays.of_only {B : Nat} {F S : Nat → Prop} {w w' : World} (h : Only S w w') (hB : B ≤ w.heap.size) (hS : ∀ k, S k → B ≤ k ∧ ¬ F k) (hF : ∀ k, F k → k < w.heap.size) : Stays B F w w' :=
  ⟨h.below hB (fun k hk => (hS k hk).1), fun k hk => h.block k (hF k hk) (fun hs => (hS k hs).2 hk)⟩
theorem Stays.cell {B : Nat} {F : Nat → Prop} {w w' : World} (h : Stays B F w w') {b : Nat} (hb : b < B ∨ F b) (o : Nat) : w'.cell? ⟨b, o, none⟩ = w.cell? ⟨b, o, none⟩ := by
  rcases hb with hb | hb
  · exact h.below.cell (p := ⟨b, o, none⟩) hb
  · exact World.cell?_of_block (a := ⟨b, o, none⟩) (h.blk b hb)

theorem heap_new_at {w : World} {n : Nat} (h : w.heap.size = n) (o : Obj) : (w.alloc o).heap[n]? = some o := by
  subst h
  rw [show (w.alloc o).heap = w.heap.push o from rfl]
  simp

theorem Moved.append0 {w w1 : World} {v v1 : Value} (hg : w.grownBy w1 v.ownBlock) (hat : v1.ownBlock = v.ownBlock ∨ v1.ownBlock = some w.heap.size) : Moved w w1 v v1 :=
  ⟨Only.of_grown hg, hat.imp id (fun e => ⟨_, e, Nat.le_refl _⟩)⟩
theorem ownsRow_form {w : World} {base : Nat} {e : TypeId} {sz : Nat} {v : Value} {n : Nat} {xs : List Value} (h : w.ownsRow base e sz v n xs) : ∃ ao m c, v = .slice ao m c := by
  rcases h.2 with ⟨hv, hn⟩ | ⟨g, cap, cur, hv, _⟩
  · exact ⟨_, _, _, hv⟩
  · exact ⟨_, _, _, hv⟩

theorem ownsRow_cast {w : World} {base : Nat} {e : TypeId} {sz : Nat} {v : Value} {n n' : Nat} {xs xs' : List Value} (h : w.ownsRow base e sz v n xs) (hn : n = n') (hx : xs = xs') : w.ownsRow base e sz v n' xs' := by subst hn hx; exact h
/-- what was there before is as it was, and these blocks, new since, are known -/
structure Fr (w : World) (bs : List (Nat × Obj)) (wi : World) : Prop where
  below : Below w.heap.size w wi
  has : ∀ p ∈ bs, w.heap.size ≤ p.1 ∧ wi.heap[p.1]? = some p.2
theorem Fr.nil (w : World) : Fr w [] w := ⟨Below.refl _ _, fun _ h => by cases h⟩
theorem Fr.lt {w wi : World} {bs : List (Nat × Obj)} {p : Nat × Obj} (h : Fr w bs wi) (hp : p ∈ bs) : p.1 < wi.heap.size := lt_of_heap (h.has p hp).2
theorem Fr.later {w wi wj : World} {bs : List (Nat × Obj)} (h : Fr w bs wi) (hb : Below wi.heap.size wi wj) : Fr w bs wj :=
  ⟨h.below.trans (hb.mono h.below.size), fun p hp => ⟨(h.has p hp).1, by rw [hb.block _ (h.lt hp)]; exact (h.has p hp).2⟩⟩
theorem Fr.newAt {w wi : World} {bs : List (Nat × Obj)} (h : Fr w bs wi) {n : Nat} (hn : wi.heap.size = n) (o : Obj) : Fr w ((n, o) :: bs) (wi.alloc o) := by
  have h' := h.later ((Below.refl _ _).alloc (Nat.le_refl _) o)
  refine ⟨h'.below, fun p hp => ?_⟩
  rcases List.mem_cons.1 hp with rfl | hp
  · exact ⟨by have := h.below.size; simp only; omega, heap_new_at hn o⟩
  · exact h'.has p hp
theorem Fr.new {w wi : World} {bs : List (Nat × Obj)} (h : Fr w bs wi) (o : Obj) : Fr w ((wi.heap.size, o) :: bs) (wi.alloc o) := h.newAt rfl o
theorem Fr.only {w wi wj : World} {bs : List (Nat × Obj)} {S : Nat → Prop} (h : Fr w bs wi) (ho : Only S wi wj) (hS : ∀ k, S k → w.heap.size ≤ k) (hb : ∀ p ∈ bs, ¬ S p.1) : Fr w bs wj :=
  ⟨h.below.trans (ho.below h.below.size hS), fun p hp => ⟨(h.has p hp).1, by rw [ho.block _ (h.lt hp) (hb p hp)]; exact (h.has p hp).2⟩⟩
theorem Fr.sub {w wi : World} {bs cs : List (Nat × Obj)} (h : Fr w bs wi) (hs : ∀ p ∈ cs, p ∈ bs) : Fr w cs wi := ⟨h.below, fun p hp => h.has p (hs p hp)⟩
theorem Fr.set {w wi : World} {bs : List (Nat × Obj)} {k : Nat} {cs : Array Value} {t : TypeId} (h : Fr w ((k, .cells cs t (0, 0)) :: bs) wi) (hk : ∀ p ∈ bs, p.1 ≠ k) (i : Nat) (v : Value) :
    Fr w ((k, .cells (cs.setIfInBounds i v) t (0, 0)) :: bs) (wi.setCell ⟨k, i, none⟩ v) := by
  have h0 := h.has _ (List.mem_cons_self ..)
  refine ⟨h.below.setCell h0.1 _, fun p hp => ?_⟩
  rcases List.mem_cons.1 hp with rfl | hp
  · exact ⟨h0.1, heap_setCell_same h0.2 v⟩
  · have h1 := h.has p (List.mem_cons_of_mem _ hp)
    exact ⟨h1.1, by rw [Below.heap_setCell _ _ _ _ (hk p hp)]; exact h1.2⟩
theorem Fr.cell {w wi : World} {bs : List (Nat × Obj)} {k : Nat} {cs : Array Value} {t : TypeId} (h : Fr w bs wi) (hm : (k, .cells cs t (0, 0)) ∈ bs) (i : Nat) : wi.cell? ⟨k, i, none⟩ = cs[i]? := cell_of_heap (h.has _ hm).2 i
theorem Fr.free {w wi : World} {bs : List (Nat × Obj)} {k : Nat} {cs : Array Value} {t : TypeId} (h : Fr w bs wi) (hm : (k, .cells cs t (0, 0)) ∈ bs) (i : Nat) : wi.frozen? ⟨k, i, none⟩ = false := free_of_heap (h.has _ hm).2 i
theorem Fr.old {w wi : World} {bs : List (Nat × Obj)} (h : Fr w bs wi) {b : Nat} (hb : b < w.heap.size) (o : Nat) : wi.cell? ⟨b, o, none⟩ = w.cell? ⟨b, o, none⟩ := h.below.cell (p := ⟨b, o, none⟩) hb

theorem Fr.hd {w wi : World} {a : Nat × Obj} {bs : List (Nat × Obj)} (h : Fr w (a :: bs) wi) : wi.heap[a.1]? = some a.2 := (h.has a (List.mem_cons_self ..)).2
theorem Fr.snd {w wi : World} {a b : Nat × Obj} {bs : List (Nat × Obj)} (h : Fr w (a :: b :: bs) wi) : wi.heap[b.1]? = some b.2 := (h.has b (by simp)).2
theorem Fr.thd {w wi : World} {a b c : Nat × Obj} {bs : List (Nat × Obj)} (h : Fr w (a :: b :: c :: bs) wi) : wi.heap[c.1]? = some c.2 := (h.has c (by simp)).2

/-- where a row lies -/
theorem row_lt {w : World} {base : Nat} {e : TypeId} {sz : Nat} {v : Value} {n : Nat} {xs : List Value} (h : w.ownsRow base e sz v n xs) : ∀ k, v.ownBlock = some k → base ≤ k ∧ k < w.heap.size := by
  intro k hk
  rcases h.2 with ⟨hv, _⟩ | ⟨g, c, cur, hv, hb, hh, _⟩
  · rw [hv] at hk; simp [Value.ownBlock] at hk
  · rw [hv] at hk
    simp only [Value.ownBlock, Option.some.injEq] at hk
    subst hk
    exact ⟨hb, lt_of_heap hh⟩
theorem row_keep {w w' : World} {base : Nat} {e : TypeId} {sz : Nat} {v : Value} {n : Nat} {xs : List Value} (h : w.ownsRow base e sz v n xs) (hk : ∀ g, v.ownBlock = some g → w'.heap[g]? = w.heap[g]?) : w'.ownsRow base e sz v n xs := by
  obtain ⟨h1, h2⟩ := h
  refine ⟨h1, ?_⟩
  rcases h2 with h2 | ⟨g, cap, cur, hv, hg, hh, r⟩
  · exact Or.inl h2
  · exact Or.inr ⟨g, cap, cur, hv, hg, by rw [hk g (by rw [hv]; rfl)]; exact hh, r⟩
structure RowSt (w : World) (bs : List (Nat × Obj)) (E : TypeId) (sz : Nat) (lv : Value) (n : Nat) (xs : List Value) (wi : World) : Prop where
  fr : Fr w bs wi
  row : wi.ownsRow w.heap.size E sz lv n xs
  ne : ∀ k, lv.ownBlock = some k → ∀ p ∈ bs, p.1 ≠ k
section
variable {w wi wj : World} {bs : List (Nat × Obj)} {E : TypeId} {sz : Nat} {lv : Value} {n : Nat} {xs : List Value}
theorem RowSt.start (h : Fr w bs wi) : RowSt w bs E sz (.slice none 0 0) 0 [] wi := ⟨h, World.ownsRow_nil _ _ _ _, fun k hk => by simp [Value.ownBlock] at hk⟩
theorem RowSt.later (h : RowSt w bs E sz lv n xs wi) (hb : Below wi.heap.size wi wj) : RowSt w bs E sz lv n xs wj :=
  ⟨h.fr.later hb, row_keep h.row (fun k hk => hb.block k (row_lt h.row k hk).2), h.ne⟩
theorem RowSt.newAt (h : RowSt w bs E sz lv n xs wi) {m : Nat} (hm : wi.heap.size = m) (o : Obj) : RowSt w ((m, o) :: bs) E sz lv n xs (wi.alloc o) := by
  have h' := h.later ((Below.refl _ _).alloc (Nat.le_refl _) o)
  refine ⟨h.fr.newAt hm o, h'.row, fun k hk p hp => ?_⟩
  rcases List.mem_cons.1 hp with rfl | hp
  · have := (row_lt h.row k hk).2; simp only; omega
  · exact h.ne k hk p hp
theorem RowSt.sub {cs : List (Nat × Obj)} (h : RowSt w bs E sz lv n xs wi) (hs : ∀ p ∈ cs, p ∈ bs) : RowSt w cs E sz lv n xs wi := ⟨h.fr.sub hs, h.row, fun k hk p hp => h.ne k hk p (hs p hp)⟩
theorem RowSt.set {k : Nat} {cs : Array Value} {t : TypeId} (h : RowSt w ((k, .cells cs t (0, 0)) :: bs) E sz lv n xs wi) (hk : ∀ p ∈ bs, p.1 ≠ k) (i : Nat) (v : Value) :
    RowSt w ((k, .cells (cs.setIfInBounds i v) t (0, 0)) :: bs) E sz lv n xs (wi.setCell ⟨k, i, none⟩ v) := by
  have ho : Only (fun j => j = k) wi (wi.setCell ⟨k, i, none⟩ v) := (Only.refl (fun j => j = k) wi).setCell (p := ⟨k, i, none⟩) rfl _
  refine ⟨h.fr.set hk i v, row_keep h.row (fun j hj => ho.block j (row_lt h.row j hj).2 (fun e => h.ne j hj _ (List.mem_cons_self ..) e.symm)), fun j hj p hp => ?_⟩
  rcases List.mem_cons.1 hp with rfl | hp
  · exact h.ne j hj (k, .cells cs t (0, 0)) (List.mem_cons_self ..)
  · exact h.ne j hj p (List.mem_cons_of_mem _ hp)
/-- the row has turned to another, in its own block or in a new one -/
theorem RowSt.moved (h : RowSt w bs E sz lv n xs wi) {v9 : Value} {n' : Nat} {xs' : List Value} (hown : wj.ownsRow w.heap.size E sz v9 n' xs') (hm : Moved wi wj lv v9) : RowSt w bs E sz v9 n' xs' wj := by
  refine ⟨h.fr.only hm.only (fun k hk => (row_lt h.row k hk).1) (fun p hp hk => h.ne _ hk p hp rfl), hown, fun k hk p hp => ?_⟩
  rcases hm.blk with e | ⟨g, e, hg⟩
  · rw [e] at hk; exact h.ne k hk p hp
  · rw [e] at hk
    injection hk with hk
    have := h.fr.lt hp
    omega
end
end Go.Proofs.Ytbhndnjlplibmaa
