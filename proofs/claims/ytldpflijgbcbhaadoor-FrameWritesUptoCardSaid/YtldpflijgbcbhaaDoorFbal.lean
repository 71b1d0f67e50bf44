/- frame.Balances: the bytes of balances, and their first fault. -/
import Derived.Test.YtldpflijgbcbhaaDoorCmp
namespace Go.Proofs.YtldpflijgbcbhaaDoor
open Go.RowKit

def ordC (p : Option BalM) (x : BalM) : Int := if rise balCmp p x = true then 0 else 5
def BalM.codes (p : Option BalM) (x : BalM) : List Int := [numC (itemB x.ent), textC x.acc, textC x.cur, numC (amtB x.amt), ordC p x]
def balCodes : Option BalM → List BalM → List Int
  | _, [] => []
  | p, x :: t => x.codes p ++ balCodes (some x) t
def balsCode (t : List BalM) : Int := if 200 < t.length then 4 else firstOf (balCodes none t)
theorem ordC_zero {p : Option BalM} {x : BalM} : ordC p x = 0 ↔ rise balCmp p x = true := by
  unfold ordC
  by_cases h : rise balCmp p x = true
  · simp [h]
  · simp [h]
theorem bal_codes {p : Option BalM} {x : BalM} : (∀ c ∈ x.codes p, c = 0) ↔ x.ok ∧ rise balCmp p x = true := by
  simp only [BalM.codes, List.mem_cons, List.not_mem_nil, or_false, forall_eq_or_imp, forall_eq, itemB_zero, textC_zero, amtB_zero, ordC_zero, BalM.ok]
  constructor
  · rintro ⟨h1, h2, h3, h4, h5⟩; exact ⟨⟨h1, h2, h3, h4⟩, h5⟩
  · rintro ⟨⟨h1, h2, h3, h4⟩, h5⟩; exact ⟨h1, h2, h3, h4, h5⟩
theorem balCodes_zero : ∀ (t : List BalM) (p : Option BalM), (∀ c ∈ balCodes p t, c = 0) ↔ (∀ x ∈ t, x.ok) ∧ chain (rise balCmp) p t
  | [], p => by simp [balCodes, chain]
  | x :: t, p => by
    have ih := balCodes_zero t (some x)
    have hx := bal_codes (p := p) (x := x)
    simp only [balCodes, List.mem_append, chain, List.mem_cons]
    constructor
    · intro h
      obtain ⟨h1, h2⟩ := hx.1 (fun c hc => h c (Or.inl hc))
      obtain ⟨h3, h4⟩ := ih.1 (fun c hc => h c (Or.inr hc))
      exact ⟨fun y hy => by rcases hy with rfl | hy; exact h1; exact h3 y hy, h2, h4⟩
    · rintro ⟨h1, h2, h4⟩ c hc
      rcases hc with hc | hc
      · exact hx.2 ⟨h1 x (Or.inl rfl), h2⟩ c hc
      · exact ih.2 ⟨fun y hy => h1 y (Or.inr hy), h4⟩ c hc
theorem bals_code (t : List BalM) : balsCode t = 0 ↔ balsOk balCmp t := by
  unfold balsCode
  split
  · rename_i h
    constructor
    · intro h'; cases h'
    · intro h'; have := h'.1; omega
  · rename_i h
    rw [firstOf_zero, balCodes_zero]
    exact ⟨fun h' => ⟨by omega, h'.1, h'.2⟩, fun h' => ⟨h'.2.1, h'.2.2⟩⟩
/-- who stands ahead of the k-th -/
def prevB (t : List BalM) (k : Nat) : Option BalM := if k = 0 then none else t[k - 1]?
theorem balCodes_snoc : ∀ (t : List BalM) (p : Option BalM) (x : BalM), balCodes p (t ++ [x]) = balCodes p t ++ x.codes (match t.getLast? with | some y => some y | none => p)
  | [], p, x => by simp [balCodes]
  | y :: t, p, x => by
    rw [List.cons_append, balCodes, balCodes, balCodes_snoc t (some y) x, List.append_assoc]
    congr 2
    cases h : t.getLast? with
    | none =>
      have ht : t = [] := List.getLast?_eq_none_iff.1 h
      subst ht
      rfl
    | some z =>
      have : (y :: t).getLast? = some z := by rw [List.getLast?_cons, h]; rfl
      rw [this]
theorem balCodes_take {t : List BalM} {k : Nat} {x : BalM} (h : t[k]? = some x) : balCodes none (t.take (k + 1)) = balCodes none (t.take k) ++ x.codes (prevB t k) := by
  obtain ⟨hlt, he⟩ := List.getElem?_eq_some_iff.1 h
  rw [List.take_succ_eq_append_getElem hlt, he, balCodes_snoc]
  congr 2
  unfold prevB
  by_cases hk : k = 0
  · subst hk; rfl
  · rw [if_neg hk, List.getLast?_take, if_neg hk]
    have : t[k - 1]? = some (t[k - 1]'(by omega)) := List.getElem?_eq_getElem (by omega)
    rw [this]
    rfl

def BalM.fair (x : BalM) : Prop := (-9223372036854775808 ≤ x.ent ∧ x.ent ≤ 9223372036854775807) ∧ x.acc.size ≤ 2000000 ∧ x.cur.size ≤ 2000000 ∧ -9223372036854775808 ≤ x.amt ∧ x.amt ≤ 9223372036854775807
theorem balLen (x : BalM) (h : x.fair) : x.bytes.length ≤ 4000040 := by
  obtain ⟨h0, h1, h2, h3, h4⟩ := h
  have d := numB_len h0.1 h0.2
  have a := numB_len (n := (x.acc.size : Int)) (by omega) (by omega)
  have b := numB_len (n := (x.cur.size : Int)) (by omega) (by omega)
  have c := numB_len h3 h4
  simp only [BalM.bytes, textB, List.length_append, size_list]
  omega
theorem balsLen : ∀ (t : List BalM), (∀ x ∈ t, x.fair) → (t.flatMap BalM.bytes).length ≤ t.length * 4000040
  | [], _ => by simp
  | x :: t, h => by
    have h1 := balLen x (h x (by simp))
    have h2 := balsLen t (fun y hy => h y (by simp [hy]))
    rw [List.flatMap_cons, List.length_append, List.length_cons]
    omega
/-- the balances t lie at the slice's address -/
def BalsAt (w : World) (ao : Option Addr) (t : List BalM) : Prop :=
  t = [] ∨ ∃ b off, ao = some ⟨b, off, none⟩ ∧ b < w.heap.size ∧ ∀ (i : Nat) (x : BalM), t[i]? = some x →
    w.cell? ⟨b, off + i * 4, none⟩ = some (.int .i64 x.ent) ∧ w.cell? ⟨b, off + i * 4 + 1, none⟩ = some (.string x.acc) ∧ w.cell? ⟨b, off + i * 4 + 2, none⟩ = some (.string x.cur) ∧ w.cell? ⟨b, off + i * 4 + 3, none⟩ = some (.int .i64 x.amt)
theorem BalsAt.below {B : Nat} {w w' : World} {ao : Option Addr} {t : List BalM} (h : BalsAt w ao t) (hb : Below B w w') (hB : w.heap.size ≤ B) : BalsAt w' ao t := by
  rcases h with h | ⟨b, off, e, hlt, hc⟩
  · exact Or.inl h
  · refine Or.inr ⟨b, off, e, Nat.lt_of_lt_of_le hlt hb.size, fun i y hy => ?_⟩
    obtain ⟨h1, h2, h3, h4⟩ := hc i y hy
    exact ⟨(hb.cell (p := ⟨b, off + i * 4, none⟩) (show b < B by omega)).trans h1, (hb.cell (p := ⟨b, off + i * 4 + 1, none⟩) (show b < B by omega)).trans h2, (hb.cell (p := ⟨b, off + i * 4 + 2, none⟩) (show b < B by omega)).trans h3, (hb.cell (p := ⟨b, off + i * 4 + 3, none⟩) (show b < B by omega)).trans h4⟩

/-- what is so at a round's head: the writer alone -/
structure BalSt (w wi : World) (l : List UInt8) (c : Int) : Prop where
  below : Below w.heap.size w wi
  wr : WriterF w.heap.size (fun _ => False) wi w.heap.size l c
theorem BalSt.size {w wi : World} {l : List UInt8} {c : Int} (h : BalSt w wi l c) : w.heap.size + 1 ≤ wi.heap.size := by
  obtain ⟨v, hv⟩ := h.wr
  exact hv.lt
/-- the same within a round: the balance's own box besides -/
structure LbSt (y : BalM) (q : Nat) (w wi : World) (l : List UInt8) (c : Int) : Prop where
  below : Below w.heap.size w wi
  size : w.heap.size + 1 ≤ q ∧ q < wi.heap.size
  lbox : wi.heap[q]? = some (.cells #[.int .i64 y.ent, .string y.acc, .string y.cur, .int .i64 y.amt] 106 (0, 0))
  wr : WriterF w.heap.size (fun k => k = q) wi w.heap.size l c
theorem LbSt.start {y : BalM} {w wr : World} {l : List UInt8} {c : Int} (h : BalSt w wr l c) : LbSt y wr.heap.size w (wr.alloc (.cells #[.int .i64 y.ent, .string y.acc, .string y.cur, .int .i64 y.amt] 106)) l c := by
  have hb : Below wr.heap.size wr (wr.alloc (.cells #[.int .i64 y.ent, .string y.acc, .string y.cur, .int .i64 y.amt] 106)) := (Below.refl _ _).alloc (Nat.le_refl _) _
  have hs := h.size
  exact ⟨h.below.trans (hb.mono (by omega)), ⟨hs, by simp⟩, heap_new_at rfl _, h.wr.more hb (fun k hk => Or.inr ⟨by omega, by simp; omega⟩)⟩
theorem LbSt.step {y : BalM} {q : Nat} {w wi wj : World} {l l' : List UInt8} {c c' : Int} (h : LbSt y q w wi l c) (hs : Stays w.heap.size (fun k => k = q) wi wj) (hw : WriterF w.heap.size (fun k => k = q) wj w.heap.size l' c') : LbSt y q w wj l' c' :=
  ⟨h.below.trans hs.below, ⟨h.size.1, Nat.lt_of_lt_of_le h.size.2 hs.below.size⟩, by rw [hs.blk _ rfl]; exact h.lbox, hw⟩
theorem LbSt.below' {y : BalM} {q : Nat} {w wi wj : World} {l : List UInt8} {c : Int} (h : LbSt y q w wi l c) (hb : Below wi.heap.size wi wj) : LbSt y q w wj l c :=
  ⟨h.below.trans (hb.mono (by have := h.size; omega)), ⟨h.size.1, Nat.lt_of_lt_of_le h.size.2 hb.size⟩, by rw [hb.block _ h.size.2]; exact h.lbox, h.wr.more hb (fun k hk => Or.inl hk)⟩
theorem LbSt.done {y : BalM} {q : Nat} {w wi : World} {l : List UInt8} {c : Int} (h : LbSt y q w wi l c) : BalSt w wi l c := ⟨h.below, h.wr.more (Below.refl _ _) (fun _ hk => hk.elim)⟩
theorem LbSt.le {y : BalM} {q : Nat} {w wi : World} {l : List UInt8} {c : Int} (h : LbSt y q w wi l c) : w.heap.size ≤ wi.heap.size := by have := h.size; omega
/-- a fault is laid -/
theorem LbSt.setErr {y : BalM} {q : Nat} {w wi : World} {l : List UInt8} {c : Int} (h : LbSt y q w wi l c) (d : Int) : LbSt y q w (wi.setCell ⟨w.heap.size, 1, none⟩ (errV d)) l d := by
  obtain ⟨v, hv⟩ := h.wr
  obtain ⟨k1, k2⟩ := hv.setErr h.le d
  exact h.step k2 ⟨v, k1⟩
theorem BalSt.start (w : World) : BalSt w (w.alloc (.cells #[.slice none 0 0, .nilIface] 113)) [] 0 :=
  ⟨(Below.refl _ _).alloc (Nat.le_refl _) _, .slice none 0 0, heap_new_at rfl _, World.ownsRow_nil _ _ _ _, Nat.le_refl _, fun _ hk => hk.elim⟩
end Go.Proofs.YtldpflijgbcbhaaDoor
