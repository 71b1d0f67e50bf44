/- Lists of balances appended to a row of the call's own. -/
import Derived.Test.YtbhndnjlplibmaaMp3
import Derived.Test.YtbhndnjlplibmaaSort
import Derived.Deep.AppendSrc
import Derived.Lib.AppendZeros
namespace Go.Proofs.Ytbhndnjlplibmaa.lg
open Go.RowKit Go.Shelf

theorem flat_len (l : List BalM) : (l.flatMap encB).length = l.length * 4 := by
  induction l with
  | nil => rfl
  | cons a l ih => rw [List.flatMap_cons, List.length_append, ih, List.length_cons]; simp [encB]; omega
theorem bals_of_row_cap {w : World} {base : Nat} {e : TypeId} {v : Value} {n : Nat} {l : List BalM} (h : w.ownsRow base e 4 v n (l.flatMap encB)) (hn : n = l.length) : ∃ ao cap, v = .slice ao l.length cap ∧ BalsAt w ao l ∧ l.length ≤ cap ∧ (ao = none → cap = 0) := by
  subst hn
  obtain ⟨h1, h2⟩ := h
  rcases h2 with ⟨rfl, hn⟩ | ⟨g, cap, cur, rfl, hg, hh, hc, hm, hsz, htk⟩
  · exact ⟨none, 0, by rw [hn], Or.inl (List.length_eq_zero_iff.1 hn), by omega, fun _ => rfl⟩
  · refine ⟨some ⟨g, 0, none⟩, cap, rfl, Or.inr ⟨g, 0, rfl, lt_of_heap hh, fun i x hx => ?_⟩, hc, fun h => by cases h⟩
    have hi : i < l.length := (List.getElem?_eq_some_iff.1 hx).1
    have hcell : ∀ j, j < 4 → w.cell? ⟨g, 0 + i * 4 + j, none⟩ = (encB x)[j]? := fun j hj => by
      have h3 : (cur.toList.take (l.length * 4))[i * 4 + j]? = (l.flatMap encB)[i * 4 + j]? := by rw [htk]
      rw [List.getElem?_take, if_pos (by omega), flat4 l i j x hx hj] at h3
      simp only [Array.getElem?_toList] at h3
      simp only [World.cell?, hh, Nat.zero_add]
      simpa using h3
    exact ⟨hcell 0 (by omega), hcell 1 (by omega), hcell 2 (by omega), hcell 3 (by omega)⟩
theorem bals_of_row {w : World} {base : Nat} {e : TypeId} {v : Value} {n : Nat} {l : List BalM} (h : w.ownsRow base e 4 v n (l.flatMap encB)) (hn : n = l.length) : ∃ ao cap, v = .slice ao l.length cap ∧ BalsAt w ao l := by
  obtain ⟨ao, cap, h1, h2, _⟩ := bals_of_row_cap h hn
  exact ⟨ao, cap, h1, h2⟩
theorem cells_of_bals {w : World} {b off : Nat} {l : List BalM} (hc : ∀ (i : Nat) (x : BalM), l[i]? = some x → w.cell? ⟨b, off + i * 4, none⟩ = some (.int .i64 x.ent) ∧ w.cell? ⟨b, off + i * 4 + 1, none⟩ = some (.string x.acc) ∧ w.cell? ⟨b, off + i * 4 + 2, none⟩ = some (.string x.cur) ∧ w.cell? ⟨b, off + i * 4 + 3, none⟩ = some (.int .i64 x.amt)) :
    ∀ j u, (l.flatMap encB)[j]? = some u → w.cell? ((⟨b, off, none⟩ : Addr).add j) = some u := fun j u hj => by
  have hjl : j < l.length * 4 := by rw [← flat_len]; exact (List.getElem?_eq_some_iff.1 hj).1
  have hi : j / 4 < l.length := by omega
  obtain ⟨x, hx⟩ := getElem?_ex hi
  have hf := flat4 l (j / 4) (j % 4) x hx (by omega)
  rw [show j / 4 * 4 + j % 4 = j by omega] at hf
  rw [hf] at hj
  rw [addr_add]
  obtain ⟨c0, c1, c2, c3⟩ := hc _ x hx
  have hm : j % 4 = 0 ∨ j % 4 = 1 ∨ j % 4 = 2 ∨ j % 4 = 3 := by omega
  rcases hm with h | h | h | h
  · rw [h] at hj; simp [encB] at hj; rw [show off + j = off + j / 4 * 4 by omega, c0, hj]
  · rw [h] at hj; simp [encB] at hj; rw [show off + j = off + j / 4 * 4 + 1 by omega, c1, hj]
  · rw [h] at hj; simp [encB] at hj; rw [show off + j = off + j / 4 * 4 + 2 by omega, c2, hj]
  · rw [h] at hj; simp [encB] at hj; rw [show off + j = off + j / 4 * 4 + 3 by omega, c3, hj]
theorem one_encB (l : List BalM) : ∀ u ∈ l.flatMap encB, u.oneCell' = true := fun u hu => by
  obtain ⟨x, _, hx⟩ := List.mem_flatMap.1 hu
  simp [encB] at hx
  rcases hx with rfl | rfl | rfl | rfl <;> rfl
/-- a list of balances appended to a row of the call's own -/
theorem run_append_bals {w : World} {base : Nat} {v : Value} {n : Nat} {xs : List Value} (hown : w.ownsRow base 43 4 v n xs) {so : Option Addr} {sc : Nat} {l : List BalM} (hl : BalsAt w so l) (hn : n + l.length ≤ 4000000) (hbase : base ≤ w.heap.size) :
    ∀ ty, ∃ v' w', (Builtin.append_ #[39, 39] ty #[v, .slice so l.length sc]).run Try.prog w = .ok v' w' ∧ w'.ownsRow base 43 4 v' (n + l.length) (xs ++ l.flatMap encB) ∧ w.grownBy w' v.ownBlock ∧ (v'.ownBlock = v.ownBlock ∨ v'.ownBlock = some w.heap.size) := by
  intro ty
  obtain ⟨i0, hi0, hz0, hz1, hz2⟩ := info_parts infoBal
  have some_case : ∀ ad : Addr, (∀ j u, (l.flatMap encB)[j]? = some u → w.cell? (ad.add j) = some u) → ∃ v' w', (Builtin.append_ #[39, 39] ty #[v, .slice (some ad) l.length sc]).run Try.prog w = .ok v' w' ∧ w'.ownsRow base 43 4 v' (n + l.length) (xs ++ l.flatMap encB) ∧ w.grownBy w' v.ownBlock ∧ (v'.ownBlock = v.ownBlock ∨ v'.ownBlock = some w.heap.size) := fun ad hc => by
    obtain ⟨v', w', hr, h2, h3, _, h5⟩ := run_append_own_at (P := Try.prog) w base 39 ty 43 i0 (.agg #[.int .i64 0, .string ⟨#[]⟩, .string ⟨#[]⟩, .int .i64 0]) 4 48 Try.underlying39 hi0 hz0 hz1 hz2 rfl (by decide) v n xs hown ad l.length sc (l.flatMap encB) (flat_len l) hc (one_encB l) (by unfold maxLen; omega) (by omega) hbase
    exact ⟨v', w', hr, h2, h3, h5⟩
  rcases hl with rfl | ⟨b, off, rfl, _, hc⟩
  · cases so with
    | some ad => exact some_case ad (fun j u h => by simp at h)
    | none =>
      refine ⟨v, w, ?_, by simpa using hown, ⟨rfl, rfl, rfl, Nat.le_refl _, fun _ _ _ => rfl⟩, Or.inl rfl⟩
      rcases hown.2 with ⟨rfl, hn0⟩ | ⟨g, cap, cur, rfl, hg, hh, hcap, _⟩
      · simp [Builtin.append_, run_underlying Try.underlying39, sizeOf, typeInfo, hi0, Builtin.lenOf, Builtin.firstCells]
      · have := run_append_room_src (P := Try.prog) (w := w) 39 39 ty 43 i0 Try.underlying39 hi0 g 0 n cap _ 0 [] (Src.ofNil w Try.underlying39 sc) (by omega) (fun j hj => by cases hj) (fun j hj => by cases hj)
        simpa [World.setCells] using this
  · exact some_case _ (cells_of_bals hc)
end Go.Proofs.Ytbhndnjlplibmaa.lg
