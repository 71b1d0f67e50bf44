/- Entries in memory; bytes that own a row, as a source; the bytes of entries in a row. -/
import Derived.Test.YtldpflijgbcbhaaFrde
import Derived.Test.YtldpflijgbcbhaaSame
namespace Go.Proofs.Ytldpflijgbcbhaa
open Go.RowKit

/-- the entries t lie at the slice's address -/
def EntsAt (w : World) (ao : Option Addr) (t : List EntryM) : Prop :=
  t = [] ∨ ∃ b off, ao = some ⟨b, off, none⟩ ∧ b < w.heap.size ∧ ∀ (i : Nat) (x : EntryM), t[i]? = some x → ∃ lao lc,
    w.cell? ⟨b, off + i * 4, none⟩ = some (.string x.ref) ∧ w.cell? ⟨b, off + i * 4 + 1, none⟩ = some (.int .i64 x.ent) ∧ w.cell? ⟨b, off + i * 4 + 2, none⟩ = some (.int .i64 x.per) ∧ w.cell? ⟨b, off + i * 4 + 3, none⟩ = some (.slice lao x.lines.length lc) ∧ LinesAt w lao x.lines
theorem EntsAt.below {B : Nat} {w w' : World} {ao : Option Addr} {t : List EntryM} (h : EntsAt w ao t) (hb : Below B w w') (hB : w.heap.size ≤ B) : EntsAt w' ao t := by
  rcases h with h | ⟨b, off, e, hlt, hc⟩
  · exact Or.inl h
  · refine Or.inr ⟨b, off, e, Nat.lt_of_lt_of_le hlt hb.size, fun i y hy => ?_⟩
    obtain ⟨lao, lc, h1, h2, h3, h4, h5⟩ := hc i y hy
    exact ⟨lao, lc, (hb.cell (p := ⟨b, off + i * 4, none⟩) (show b < B by omega)).trans h1, (hb.cell (p := ⟨b, off + i * 4 + 1, none⟩) (show b < B by omega)).trans h2, (hb.cell (p := ⟨b, off + i * 4 + 2, none⟩) (show b < B by omega)).trans h3, (hb.cell (p := ⟨b, off + i * 4 + 3, none⟩) (show b < B by omega)).trans h4, h5.below hb hB⟩
theorem EntryM.bytes_le (x : EntryM) (hf : x.fair) (hl : x.lines.length ≤ 20) : x.bytes.length ≤ 500000000 := by
  obtain ⟨f1, f2, f3, _, f5⟩ := hf
  have a0 := numB_len (n := (x.ref.size : Int)) (by omega) (by omega)
  have a1 := numB_len f2.1 f2.2
  have a2 := numB_len f3.1 f3.2
  have a3 := numB_len (n := (x.lines.length : Int)) (by omega) (by omega)
  have h1 := flatLen x.lines f5
  simp only [EntryM.bytes, textB, List.length_append, size_list]
  omega
theorem EntryM.ok_few {x : EntryM} (h : x.ok) : x.lines.length ≤ 20 := h.2.2.2.1

/-- a slice that owns bytes, cut from a place on, as a source -/
theorem src_of_row {w : World} {base g c : Nat} {l : List UInt8} (h : w.ownsRow base 5 1 (.slice (some ⟨g, 0, none⟩) l.length c) l.length (l.map byteV)) (p : Nat) (hp : p ≤ l.length) :
    SrcW w (if c = p then some ⟨g, 0, none⟩ else some ⟨g, 0 + p, none⟩) (l.drop p) := by
  intro h0
  rw [List.length_drop] at h0
  have hlc : l.length ≤ c ∧ g < w.heap.size := by
    rcases h.2 with ⟨hv, _⟩ | ⟨g', c', cur, hv, _, hh, hc, _⟩
    · cases hv
    · injection hv with hv1 _ hv3
      injection hv1 with hv1
      injection hv1 with hv1 _ _
      subst hv1 hv3
      exact ⟨hc, lt_of_heap hh⟩
  rw [if_neg (by omega)]
  refine ⟨g, 0 + p, rfl, hlc.2, fun j x hj => ?_⟩
  have hc := h.cells (g := g) rfl (p + j) (byteV x) (by rw [List.getElem?_map]; rw [List.getElem?_drop] at hj; rw [hj]; rfl)
  rw [addr_add] at hc
  rw [Nat.add_assoc]
  exact hc
theorem row_len {w : World} {base g c n : Nat} {l : List UInt8} (h : w.ownsRow base 5 1 (.slice (some ⟨g, 0, none⟩) n c) n (l.map byteV)) : n ≤ c := by
  rcases h.2 with ⟨hv, _⟩ | ⟨g', c', cur, hv, _, hh, hc, _⟩
  · cases hv
  · injection hv with _ _ hv3; subst hv3; exact hc

/-- the bytes of the first k -/
def rowB (es : List EntryM) (k : Nat) : List UInt8 := (es.take k).flatMap EntryM.bytes
theorem rowB_succ {es : List EntryM} {k : Nat} {x : EntryM} (h : es[k]? = some x) : rowB es (k + 1) = rowB es k ++ x.bytes := flat_succ _ h
theorem rowB_read {es : List EntryM} {K k : Nat} {x : EntryM} (hk : k < K) (h : es[k]? = some x) (hok : x.ok) :
    ∃ r, rdEntry ((rowB es K).drop (rowB es k).length) = some (x, r) ∧ (rowB es K).length - (rowB es k).length - r.length = x.bytes.length ∧ (rowB es k).length + x.bytes.length ≤ (rowB es K).length ∧ ((rowB es K).drop (rowB es k).length).length = (rowB es K).length - (rowB es k).length := by
  have e : rowB es K = rowB es k ++ (x.bytes ++ ((es.take K).drop (k + 1)).flatMap EntryM.bytes) := by
    have h1 : es.take K = (es.take (k + 1)) ++ (es.take K).drop (k + 1) := by
      conv => lhs; rw [← List.take_append_drop (k + 1) (es.take K)]
      rw [List.take_take, Nat.min_eq_left (by omega)]
    have h2 := rowB_succ h
    unfold rowB at h2 ⊢
    conv => lhs; rw [h1]
    rw [List.flatMap_append, h2, List.append_assoc]
  refine ⟨((es.take K).drop (k + 1)).flatMap EntryM.bytes, ?_, ?_, ?_, List.length_drop⟩
  · rw [e, List.drop_left]
    exact entry_fwd x _ hok
  · rw [e]; simp only [List.length_append]; omega
  · rw [e]; simp only [List.length_append]; omega
theorem rowB_le {es : List EntryM} {k : Nat} (hk : k ≤ 30) (h : ∀ x ∈ es.take k, x.fair ∧ x.lines.length ≤ 20) : (rowB es k).length ≤ 30 * 500000000 := by
  unfold rowB
  have h2 : ∀ t : List EntryM, (∀ x ∈ t, x.fair ∧ x.lines.length ≤ 20) → (t.flatMap EntryM.bytes).length ≤ t.length * 500000000 := by
    intro t
    induction t with
    | nil => intro _; simp
    | cons y t ih =>
      intro h
      have a := y.bytes_le (h y (by simp)).1 (h y (by simp)).2
      have b := ih (fun x hx => h x (by simp [hx]))
      rw [List.flatMap_cons, List.length_append, List.length_cons]
      omega
  have h3 := h2 _ h
  have h4 : (es.take k).length ≤ 30 := by rw [List.length_take]; omega
  exact Nat.le_trans h3 (Nat.mul_le_mul_right _ h4)
theorem sz1 (a : UInt8) : (⟨#[a]⟩ : ByteArray).size = 1 := rfl
theorem sz2 (a b : UInt8) : (⟨#[a, b]⟩ : ByteArray).size = 2 := rfl
theorem fair_of_ok {x : EntryM} (h : x.ok) : x.fair := by
  obtain ⟨h1, h2, h3, h4, h5⟩ := h
  refine ⟨by omega, by omega, by omega, by omega, fun y hy => ?_⟩
  obtain ⟨k1, k2, k3, k4⟩ := h5 y hy
  unfold bigA at k3 k4
  exact ⟨by omega, by omega, by omega, by omega⟩
end Go.Proofs.Ytldpflijgbcbhaa
