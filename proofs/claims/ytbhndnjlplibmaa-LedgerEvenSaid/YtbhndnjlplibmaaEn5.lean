/- ledger.Balances, ledger.Trial: what they answer, as sums at places. -/
import Derived.Test.YtbhndnjlplibmaaEn3
import Derived.Test.YtbhndnjlplibmaaEn4
namespace Go.Proofs.Ytbhndnjlplibmaa.lg
open Go.RowKit

theorem balances_any (n : Int) (ao : Option Addr) (ca : Nat) (t : List EntryM) (w : World) (ha : EntsAt w ao t) (hok : ∀ e ∈ t, entOk e) (hm : t.length ≤ 9223372036854775807) (hlm : ∀ e ∈ t, e.lines.length ≤ 9223372036854775807) :
    Calls Try.prog 17 #[.slice ao t.length ca, .int .i64 n] w (SomePost w.heap.size w (pickBal n) t) := by
  obtain ⟨W, hW⟩ : ∃ W, W = w.alloc (.cells #[.int .i64 n] 3) := ⟨_, rfl⟩
  have hb : Below w.heap.size w W := by rw [hW]; exact (Below.refl _ _).alloc (Nat.le_refl _) _
  have h1 : W.heap[w.heap.size]? = some (.cells #[.int .i64 n] 3 (0, 0)) := by rw [hW]; exact heap_new_at rfl _
  have hcall := some_bal n w.heap.size ao ca t W (ha.below hb) hok hm hlm (cell_of_heap h1 0) (lt_of_heap h1)
  have HW := Lib.hid hW
  have HB := Lib.hid hb
  clear hb h1 hW
  go_enter Try.func17, Try.ntmps17
  go_wp2_with fail
  rw [← HW.out]
  refine hcall.mono ?_
  rintro e w' ⟨hb', hp⟩
  have hbb := HB.out.trans (hb'.mono HB.out.size)
  have HBB := Lib.hid hbb
  clear hcall hb' hbb
  rcases hp with ⟨h1, rfl⟩ | ⟨h1, h2, rfl⟩ | ⟨h1, h2, h3, rfl⟩ | ⟨h1, h2, h3, lo, lc, L, h4, h5, rfl⟩
  · go_wp2_with fail
    go_ret2
    exact ⟨HBB.out, Or.inl ⟨h1, rfl⟩⟩
  · go_wp2_with fail
    go_ret2
    exact ⟨HBB.out, Or.inr (Or.inl ⟨h1, h2, rfl⟩)⟩
  · go_wp2_with fail
    go_ret2
    exact ⟨HBB.out, Or.inr (Or.inr (Or.inl ⟨h1, h2, h3, rfl⟩))⟩
  · have H4 := Lib.hid h4
    have H5 := Lib.hid h5
    clear h4 h5
    go_wp2_with fail
    go_ret2
    exact ⟨HBB.out, Or.inr (Or.inr (Or.inr ⟨h1, h2, h3, lo, lc, L, H4.out, H5.out, rfl⟩))⟩
theorem trial_any (m n : Int) (ao : Option Addr) (ca : Nat) (t : List EntryM) (w : World) (ha : EntsAt w ao t) (hok : ∀ e ∈ t, entOk e) (hm : t.length ≤ 9223372036854775807) (hlm : ∀ e ∈ t, e.lines.length ≤ 9223372036854775807) :
    Calls Try.prog 15 #[.slice ao t.length ca, .int .i64 m, .int .i64 n] w (SomePost w.heap.size w (pickTrial m n) t) := by
  obtain ⟨W, hW⟩ : ∃ W, W = (w.alloc (.cells #[.int .i64 m] 3)).alloc (.cells #[.int .i64 n] 3) := ⟨_, rfl⟩
  have hb : Below w.heap.size w W := by rw [hW]; exact ((Below.refl _ _).alloc (Nat.le_refl _) _).alloc (by simp) _
  have h0 : W.heap[w.heap.size]? = some (.cells #[.int .i64 m] 3 (0, 0)) := by rw [hW]; exact ((MapKept.heap_alloc _ _).2 _ (by simp)).trans (heap_new_at rfl _)
  have h1 : W.heap[w.heap.size + 1]? = some (.cells #[.int .i64 n] 3 (0, 0)) := by rw [hW]; exact heap_new_at (by simp) _
  have hcall := some_trial m n w.heap.size (w.heap.size + 1) ao ca t W (ha.below hb) hok hm hlm (cell_of_heap h0 0) (cell_of_heap h1 0) (lt_of_heap h0) (lt_of_heap h1)
  have HW := Lib.hid hW
  have HB := Lib.hid hb
  clear hb h0 h1 hW
  go_enter Try.func15, Try.ntmps15
  go_wp2_with fail
  rw [← HW.out]
  refine hcall.mono ?_
  rintro e w' ⟨hb', hp⟩
  have hbb := HB.out.trans (hb'.mono HB.out.size)
  have HBB := Lib.hid hbb
  clear hcall hb' hbb
  rcases hp with ⟨h1, rfl⟩ | ⟨h1, h2, rfl⟩ | ⟨h1, h2, h3, rfl⟩ | ⟨h1, h2, h3, lo, lc, L, h4, h5, rfl⟩
  · go_wp2_with fail
    go_ret2
    exact ⟨HBB.out, Or.inl ⟨h1, rfl⟩⟩
  · go_wp2_with fail
    go_ret2
    exact ⟨HBB.out, Or.inr (Or.inl ⟨h1, h2, rfl⟩)⟩
  · go_wp2_with fail
    go_ret2
    exact ⟨HBB.out, Or.inr (Or.inr (Or.inl ⟨h1, h2, h3, rfl⟩))⟩
  · have H4 := Lib.hid h4
    have H5 := Lib.hid h5
    clear h4 h5
    go_wp2_with fail
    go_ret2
    exact ⟨HBB.out, Or.inr (Or.inr (Or.inr ⟨h1, h2, h3, lo, lc, L, H4.out, H5.out, rfl⟩))⟩

/- what the sums are, around 2^64 -/
theorem wrap64_eq (n : Int) : wrap64 n = (n + 9223372036854775808) % 18446744073709551616 - 9223372036854775808 := by unfold wrap64; omega
theorem wrap64_add (a b : Int) : wrap64 (wrap64 a + b) = wrap64 (a + b) := by rw [wrap64_eq, wrap64_eq, wrap64_eq]; omega
theorem wrap64_in64 (n : Int) : -9223372036854775808 ≤ wrap64 n ∧ wrap64 n ≤ 9223372036854775807 := by rw [wrap64_eq]; omega
theorem wrap64_mod (n : Int) : wrap64 n % 18446744073709551616 = n % 18446744073709551616 := by rw [wrap64_eq]; omega
theorem fold_wrap : ∀ (l : List BalM) (T : List (PlM × Int)), (∀ p, wrap64 (tabGet T p) = tabGet T p) → ∀ p, tabGet (foldT l T) p = wrap64 (tabGet T p + sumAt l p)
  | [], T, h, p => by rw [sumAt_nil, Int.add_zero, h]; rfl
  | y :: r, T, h, p => by
    have hg : ∀ q, tabGet (stepT T y) q = wrap64 (tabGet T q + if plOf y = q then y.amt else 0) := fun q => by
      unfold stepT
      rw [IntWalk.i64_left]
      by_cases e : plOf y = q
      · rw [← e, get_put, if_pos rfl]
      · rw [get_put_ne _ _ (fun e' => e e'.symm), if_neg e, Int.add_zero, h]
    have ih := fold_wrap r (stepT T y) (fun q => by
      rw [hg]
      have := wrap64_add (tabGet T q + if plOf y = q then y.amt else 0) 0
      rw [Int.add_zero, Int.add_zero] at this
      exact this) p
    show tabGet (foldT r (stepT T y)) p = _
    rw [ih, hg, sumAt_cons, wrap64_add]
    congr 1
    omega
structure SomeIs (pick : EntryM → Bool) (t : List EntryM) (c : Int) (L : List BalM) : Prop where
  iff : c = 0 ↔ (t.length ≤ 200 ∧ badAll t = false ∧ (foldT (someB pick t) []).length ≤ 200)
  nil : c ≠ 0 → L = []
  rises : Rises L
  ne : ∀ x ∈ L, x.amt ≠ 0
  len : L.length ≤ 200
  sum : c = 0 → ∀ p, sumAt L p = wrap64 (sumAt (someB pick t) p)
  pl : (∀ e ∈ t, entOk e) → ∀ x ∈ L, plOk (plOf x)
def SomeOut (B : Nat) (w : World) (pick : EntryM → Bool) (t : List EntryM) (e : Ending) (w' : World) : Prop :=
  Below B w w' ∧ ∃ (c : Int) (so : Option Addr) (sc : Nat) (L : List BalM), e = .returned (.tuple #[.slice so L.length sc, errV c]) ∧ BalsAt w' so L ∧ SomeIs pick t c L
theorem some_ok {pick : EntryM → Bool} {t : List EntryM} (hok : ∀ e ∈ t, entOk e) : ∀ x ∈ someB pick t, plOk (plOf x) := fun x hx => by
  obtain ⟨e, he, hx⟩ := List.mem_flatMap.1 hx
  obtain ⟨l, hl, rfl⟩ := List.mem_map.1 hx
  exact hok e (List.mem_filter.1 he).1 l hl
theorem some_out {B : Nat} {w w' : World} {pick : EntryM → Bool} {t : List EntryM} {e : Ending} (h : SomePost B w pick t e w') : SomeOut B w pick t e w' := by
  obtain ⟨hb, h⟩ := h
  refine ⟨hb, ?_⟩
  have empty : ∀ c, c ≠ 0 → ¬ (t.length ≤ 200 ∧ badAll t = false ∧ (foldT (someB pick t) []).length ≤ 200) → e = .returned (.tuple #[.slice none 0 0, errV c]) → ∃ (c : Int) (so : Option Addr) (sc : Nat) (L : List BalM), e = .returned (.tuple #[.slice so L.length sc, errV c]) ∧ BalsAt w' so L ∧ SomeIs pick t c L := fun c hc hn he =>
    ⟨c, none, 0, [], he, Or.inl rfl, ⟨⟨fun h => absurd h hc, fun h => absurd h hn⟩, fun _ => rfl, List.Pairwise.nil, fun x hx => (by cases hx), by simp, fun h => absurd h hc, fun _ x hx => (by cases hx)⟩⟩
  rcases h with ⟨h1, he⟩ | ⟨_, h1, he⟩ | ⟨_, _, h1, he⟩ | ⟨h1, h2, h3, ao, cap, L, hL, hbl, he⟩
  · exact empty 4 (by decide) (fun h => by omega) he
  · exact empty 1 (by decide) (fun h => by rw [h1] at h; exact absurd h.2.1 (by decide)) he
  · exact empty 4 (by decide) (fun h => by omega) he
  · refine ⟨0, ao, cap, L, he, hbl, ⟨⟨fun _ => ⟨h1, h2, h3⟩, fun _ => rfl⟩, fun h => absurd rfl h, hL.rises, hL.ne, by have := hL.len; omega, fun _ p => ?_, fun hk x hx => ?_⟩⟩
    · rw [hL.sum, fold_wrap _ [] (fun p => by show wrap64 0 = 0; rw [wrap64_eq]; rfl)]
      show wrap64 (0 + _) = _
      rw [Int.zero_add]
    · have hkk : plOf x ∈ (foldT (someB pick t) []).map (·.1) := List.mem_map.2 ⟨_, hL.mem x hx, rfl⟩
      rcases (fold_keys _ _ _).1 hkk with h | ⟨y, hy, e'⟩
      · cases h
      · rw [← e']; exact some_ok hk y hy
theorem balances_c (n : Int) (ao : Option Addr) (ca : Nat) (t : List EntryM) (w : World) (ha : EntsAt w ao t) (hok : ∀ e ∈ t, entOk e) (hm : t.length ≤ 9223372036854775807) (hlm : ∀ e ∈ t, e.lines.length ≤ 9223372036854775807) :
    Calls Try.prog 17 #[.slice ao t.length ca, .int .i64 n] w (SomeOut w.heap.size w (pickBal n) t) := (balances_any n ao ca t w ha hok hm hlm).mono fun _ _ h => some_out h
theorem trial_c (m n : Int) (ao : Option Addr) (ca : Nat) (t : List EntryM) (w : World) (ha : EntsAt w ao t) (hok : ∀ e ∈ t, entOk e) (hm : t.length ≤ 9223372036854775807) (hlm : ∀ e ∈ t, e.lines.length ≤ 9223372036854775807) :
    Calls Try.prog 15 #[.slice ao t.length ca, .int .i64 m, .int .i64 n] w (SomeOut w.heap.size w (pickTrial m n) t) := (trial_any m n ao ca t w ha hok hm hlm).mono fun _ _ h => some_out h
end Go.Proofs.Ytbhndnjlplibmaa.lg
