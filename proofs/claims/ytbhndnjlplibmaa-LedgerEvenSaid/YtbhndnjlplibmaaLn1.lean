/- Lines in rows of the call's own: appended, read back. -/
import Derived.Test.YtbhndnjlplibmaaEn1
import Derived.Test.YtbhndnjlplibmaaEtL
import Derived.Deep.AppendSrc
import Derived.Lib.AppendZeros
import Derived.Laws.OwnMore
namespace Go.Proofs.Ytbhndnjlplibmaa.lg
open Go.RowKit Go.Shelf

def lineV (x : LineM) : Value := .agg #[.string x.acc, .string x.cur, .int .i64 x.amt]
def encL (x : LineM) : List Value := [.string x.acc, .string x.cur, .int .i64 x.amt]
theorem infoLine : (Try.prog.info? 81).map (fun i => (i.zero, i.size, i.bytes)) = some (some (.agg #[.string ⟨#[]⟩, .string ⟨#[]⟩, .int .i64 0]), 3, 40) := by kernel_rfl
theorem flat3 : ∀ (l : List LineM) (i j : Nat) (x : LineM), l[i]? = some x → j < 3 → (l.flatMap encL)[i * 3 + j]? = (encL x)[j]?
  | [], i, _, _, h, _ => by simp at h
  | y :: r, 0, j, x, h, hj => by
    simp only [List.getElem?_cons_zero, Option.some.injEq] at h
    subst h
    rw [List.flatMap_cons, List.getElem?_append_left (by simp [encL]; omega)]
    simp
  | y :: r, i + 1, j, x, h, hj => by
    rw [List.flatMap_cons, List.getElem?_append_right (by simp [encL]; omega)]
    have := flat3 r i j x (by simpa using h) hj
    rw [← this]
    congr 1
    simp [encL]
    omega
theorem flatL_len (l : List LineM) : (l.flatMap encL).length = l.length * 3 := by
  induction l with
  | nil => rfl
  | cons a l ih => rw [List.flatMap_cons, List.length_append, ih, List.length_cons]; simp [encL]; omega
theorem flatL_set (j : Nat) (v : LineM → LineM) (u : LineM → Value) (hj : j < 3) (hv : ∀ y, (encL y).set j (u y) = encL (v y)) : ∀ (l : List LineM) (k : Nat) (y : LineM), l[k]? = some y → (l.flatMap encL).set (k * 3 + j) (u y) = (l.set k (v y)).flatMap encL
  | [], _, _, h => by simp at h
  | z :: r, 0, y, h => by
    simp only [List.getElem?_cons_zero, Option.some.injEq] at h
    subst h
    rw [List.set_cons_zero, List.flatMap_cons, List.flatMap_cons, ← hv, Nat.zero_mul, Nat.zero_add, List.set_append_left _ _ (by simp [encL]; omega)]
  | z :: r, k + 1, y, h => by
    have ih := flatL_set j v u hj hv r k y (by simpa using h)
    rw [List.set_cons_succ, List.flatMap_cons, List.flatMap_cons, ← ih]
    rw [show (k + 1) * 3 + j = (encL z).length + (k * 3 + j) by simp [encL]; omega]
    rw [List.set_append_right _ _ (by omega)]
    congr 2
    omega
theorem lines_of_row_cap {w : World} {base : Nat} {e : TypeId} {v : Value} {n : Nat} {l : List LineM} (h : w.ownsRow base e 3 v n (l.flatMap encL)) (hn : n = l.length) : ∃ ao cap, v = .slice ao l.length cap ∧ LinesAt w ao l ∧ l.length ≤ cap ∧ (ao = none → cap = 0) ∧ (∀ g, v.ownBlock = some g → base ≤ g) := by
  subst hn
  obtain ⟨h1, h2⟩ := h
  rcases h2 with ⟨rfl, hn⟩ | ⟨g, cap, cur, rfl, hg, hh, hc, hm, hsz, htk⟩
  · exact ⟨none, 0, by rw [hn], Or.inl (List.length_eq_zero_iff.1 hn), by omega, fun _ => rfl, fun g hg => by simp [Value.ownBlock] at hg⟩
  · refine ⟨some ⟨g, 0, none⟩, cap, rfl, Or.inr ⟨g, 0, rfl, lt_of_heap hh, fun i x hx => ?_⟩, hc, (fun h => by cases h), (fun g' hg' => by simp [Value.ownBlock] at hg'; omega)⟩
    have hi : i < l.length := (List.getElem?_eq_some_iff.1 hx).1
    have hcell : ∀ j, j < 3 → w.cell? ⟨g, 0 + i * 3 + j, none⟩ = (encL x)[j]? := fun j hj => by
      have h3 : (cur.toList.take (l.length * 3))[i * 3 + j]? = (l.flatMap encL)[i * 3 + j]? := by rw [htk]
      rw [List.getElem?_take, if_pos (by omega), flat3 l i j x hx hj] at h3
      simp only [Array.getElem?_toList] at h3
      simp only [World.cell?, hh, Nat.zero_add]
      simpa using h3
    exact ⟨hcell 0 (by omega), hcell 1 (by omega), hcell 2 (by omega)⟩
theorem lines_of_row {w : World} {base : Nat} {e : TypeId} {v : Value} {n : Nat} {l : List LineM} (h : w.ownsRow base e 3 v n (l.flatMap encL)) (hn : n = l.length) : ∃ ao cap, v = .slice ao l.length cap ∧ LinesAt w ao l := by
  obtain ⟨ao, cap, h1, h2, _⟩ := lines_of_row_cap h hn
  exact ⟨ao, cap, h1, h2⟩
theorem cells_of_lines {w : World} {b off : Nat} {l : List LineM} (hc : ∀ (i : Nat) (x : LineM), l[i]? = some x → w.cell? ⟨b, off + i * 3, none⟩ = some (.string x.acc) ∧ w.cell? ⟨b, off + i * 3 + 1, none⟩ = some (.string x.cur) ∧ w.cell? ⟨b, off + i * 3 + 2, none⟩ = some (.int .i64 x.amt)) :
    ∀ j u, (l.flatMap encL)[j]? = some u → w.cell? ((⟨b, off, none⟩ : Addr).add j) = some u := fun j u hj => by
  have hjl : j < l.length * 3 := by rw [← flatL_len]; exact (List.getElem?_eq_some_iff.1 hj).1
  have hi : j / 3 < l.length := by omega
  obtain ⟨x, hx⟩ := getElem?_ex hi
  have hf := flat3 l (j / 3) (j % 3) x hx (by omega)
  rw [show j / 3 * 3 + j % 3 = j by omega] at hf
  rw [hf] at hj
  rw [addr_add]
  obtain ⟨c0, c1, c2⟩ := hc _ x hx
  have hm : j % 3 = 0 ∨ j % 3 = 1 ∨ j % 3 = 2 := by omega
  rcases hm with h | h | h
  · rw [h] at hj; simp [encL] at hj; rw [show off + j = off + j / 3 * 3 by omega, c0, hj]
  · rw [h] at hj; simp [encL] at hj; rw [show off + j = off + j / 3 * 3 + 1 by omega, c1, hj]
  · rw [h] at hj; simp [encL] at hj; rw [show off + j = off + j / 3 * 3 + 2 by omega, c2, hj]
theorem one_encL (l : List LineM) : ∀ u ∈ l.flatMap encL, u.oneCell' = true := fun u hu => by
  obtain ⟨x, _, hx⟩ := List.mem_flatMap.1 hu
  simp [encL] at hx
  rcases hx with rfl | rfl | rfl <;> rfl
/-- a list of lines appended to a row of the call's own -/
theorem run_append_lines {w : World} {base : Nat} {v : Value} {n : Nat} {xs : List Value} (hown : w.ownsRow base 81 3 v n xs) {so : Option Addr} {sc : Nat} {l : List LineM} (hl : LinesAt w so l) (hn : n + l.length ≤ 4000000) (hbase : base ≤ w.heap.size) :
    ∀ ty, ∃ v' w', (Builtin.append_ #[48, 48] ty #[v, .slice so l.length sc]).run Try.prog w = .ok v' w' ∧ w'.ownsRow base 81 3 v' (n + l.length) (xs ++ l.flatMap encL) ∧ w.grownBy w' v.ownBlock ∧ (v'.ownBlock = v.ownBlock ∨ v'.ownBlock = some w.heap.size) := by
  intro ty
  obtain ⟨i0, hi0, hz0, hz1, hz2⟩ := info_parts infoLine
  have some_case : ∀ ad : Addr, (∀ j u, (l.flatMap encL)[j]? = some u → w.cell? (ad.add j) = some u) → ∃ v' w', (Builtin.append_ #[48, 48] ty #[v, .slice (some ad) l.length sc]).run Try.prog w = .ok v' w' ∧ w'.ownsRow base 81 3 v' (n + l.length) (xs ++ l.flatMap encL) ∧ w.grownBy w' v.ownBlock ∧ (v'.ownBlock = v.ownBlock ∨ v'.ownBlock = some w.heap.size) := fun ad hc => by
    obtain ⟨v', w', hr, h2, h3, _, h5⟩ := run_append_own_at (P := Try.prog) w base 48 ty 81 i0 (.agg #[.string ⟨#[]⟩, .string ⟨#[]⟩, .int .i64 0]) 3 40 Try.underlying48 hi0 hz0 hz1 hz2 rfl (by decide) v n xs hown ad l.length sc (l.flatMap encL) (flatL_len l) hc (one_encL l) (by unfold maxLen; omega) (by omega) hbase
    exact ⟨v', w', hr, h2, h3, h5⟩
  rcases hl with rfl | ⟨b, off, rfl, _, hc⟩
  · cases so with
    | some ad => exact some_case ad (fun j u h => by simp at h)
    | none =>
      refine ⟨v, w, ?_, by simpa using hown, ⟨rfl, rfl, rfl, Nat.le_refl _, fun _ _ _ => rfl⟩, Or.inl rfl⟩
      rcases hown.2 with ⟨rfl, hn0⟩ | ⟨g, cap, cur, rfl, hg, hh, hcap, _⟩
      · simp [Builtin.append_, run_underlying Try.underlying48, sizeOf, typeInfo, hi0, Builtin.lenOf, Builtin.firstCells]
      · have := run_append_room_src (P := Try.prog) (w := w) 48 48 ty 81 i0 Try.underlying48 hi0 g 0 n cap _ 0 [] (Src.ofNil w Try.underlying48 sc) (by omega) (fun j hj => by cases hj) (fun j hj => by cases hj)
        simpa [World.setCells] using this
  · exact some_case _ (cells_of_lines hc)
theorem LinesAt.take {w : World} {lo : Option Addr} {l : List LineM} (h : LinesAt w lo l) (k : Nat) : LinesAt w lo (l.take k) := by
  rcases h with h | ⟨b, off, e, hlt, hc⟩
  · exact Or.inl (by rw [h]; simp)
  · refine Or.inr ⟨b, off, e, hlt, fun i x hx => hc i x ?_⟩
    rw [List.getElem?_take] at hx
    split at hx
    · exact hx
    · cases hx
theorem lines_drop {w : World} {b off : Nat} {l : List LineM} (h : LinesAt w (some ⟨b, off, none⟩) l) (k : Nat) : LinesAt w (some ⟨b, off + k * 3, none⟩) (l.drop k) := by
  rcases h with h | ⟨b', off', e, hlt, hc⟩
  · exact Or.inl (by rw [h]; simp)
  · simp only [Option.some.injEq, Addr.mk.injEq, and_true] at e
    obtain ⟨rfl, rfl⟩ := e
    refine Or.inr ⟨b, off + k * 3, rfl, hlt, fun i x hx => ?_⟩
    rw [List.getElem?_drop] at hx
    have := hc (k + i) x hx
    rw [show off + (k + i) * 3 = off + k * 3 + i * 3 by omega] at this
    exact this
theorem lines_one {w : World} {b : Nat} {x : LineM} {ty : TypeId} (h : w.heap[b]? = some (.cells #[.string x.acc, .string x.cur, .int .i64 x.amt] ty (0, 0))) : LinesAt w (some ⟨b, 0, none⟩) [x] := by
  refine Or.inr ⟨b, 0, rfl, lt_of_heap h, fun i y hy => ?_⟩
  have hi : i = 0 := by
    have := (List.getElem?_eq_some_iff.1 hy).1
    simp at this
    exact this
  subst hi
  simp only [List.getElem?_cons_zero, Option.some.injEq] at hy
  subst hy
  exact ⟨cell_of_heap h 0, cell_of_heap h 1, cell_of_heap h 2⟩
end Go.Proofs.Ytbhndnjlplibmaa.lg
