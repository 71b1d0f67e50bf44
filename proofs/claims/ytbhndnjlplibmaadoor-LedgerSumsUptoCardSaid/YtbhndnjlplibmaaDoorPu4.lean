/- LedgerSums: the plain law, and the walk. -/
import Derived.Test.YtbhndnjlplibmaaDoorPu3
import Derived.Test.YtbhndnjlplibmaaDoorEn5
import Derived.Test.YtbhndnjlplibmaaDoorLo1
import Derived.Test.YtbhndnjlplibmaaDoorTold
namespace Go.Proofs.YtbhndnjlplibmaaDoor.lg
open Go.RowKit

/-- a list, and the sums by places -/
structure RelB (O : List BalM) (T : List (PlM × Int)) : Prop where
  rises : Rises O
  keys : ∀ p, p ∈ O.map plOf ↔ p ∈ T.map (·.1)
  sum : ∀ p, sumAt O p = tabGet T p
theorem ahB_iff {y x : BalM} : ahB y x = true ↔ ltK (plOf y) (plOf x) := by unfold ahB; rw [decide_eq_true_iff, balCmp_lt]
theorem put_cons (y x : BalM) (r : List BalM) : putB (y :: r) x = if ahB y x = true then y :: putB r x else if ahB x y = true then x :: y :: r else addB y x :: r := by
  by_cases h : ahB y x = true
  · have e1 : posB x (y :: r) = posB x r + 1 := by
      show (if ahB y x = true then posB x r + 1 else 0) = _
      rw [if_pos h]
    rw [if_pos h]
    unfold putB
    rw [e1, List.getElem?_cons_succ]
    cases r[posB x r]? with
    | none => rfl
    | some z =>
      simp only
      split <;> rfl
  · have e1 : posB x (y :: r) = 0 := by
      show (if ahB y x = true then posB x r + 1 else 0) = _
      rw [if_neg h]
    rw [if_neg h]
    unfold putB
    rw [e1, List.getElem?_cons_zero]
    simp only
    split <;> simp
theorem put_mem {x z : BalM} : ∀ {l : List BalM}, z ∈ putB l x → z ∈ l ∨ plOf z = plOf x ∨ ∃ y ∈ l, plOf z = plOf y
  | [], h => by
    have : z ∈ [x] := h
    rw [List.mem_singleton.1 this]
    exact Or.inr (Or.inl rfl)
  | y :: r, h => by
    rw [put_cons] at h
    split at h
    · rcases List.mem_cons.1 h with rfl | h
      · exact Or.inl (List.mem_cons_self ..)
      · rcases put_mem h with h | h | ⟨u, hu, e⟩
        · exact Or.inl (List.mem_cons_of_mem _ h)
        · exact Or.inr (Or.inl h)
        · exact Or.inr (Or.inr ⟨u, List.mem_cons_of_mem _ hu, e⟩)
    · split at h
      · rcases List.mem_cons.1 h with rfl | h
        · exact Or.inr (Or.inl rfl)
        · exact Or.inl h
      · rcases List.mem_cons.1 h with rfl | h
        · exact Or.inr (Or.inr ⟨y, List.mem_cons_self .., rfl⟩)
        · exact Or.inl (List.mem_cons_of_mem _ h)
theorem put_rises {x : BalM} : ∀ {l : List BalM}, Rises l → Rises (putB l x)
  | [], _ => by show Rises [x]; exact List.pairwise_singleton _ _
  | y :: r, h => by
    have h' := List.pairwise_cons.1 h
    rw [put_cons]
    split
    · rename_i hyx
      refine List.pairwise_cons.2 ⟨fun z hz => ?_, put_rises h'.2⟩
      rcases put_mem hz with hz | e | ⟨u, hu, e⟩
      · exact h'.1 z hz
      · rw [e]; exact ahB_iff.1 hyx
      · rw [e]; exact h'.1 u hu
    · split
      · rename_i _ hxy
        refine List.pairwise_cons.2 ⟨fun z hz => ?_, h⟩
        rcases List.mem_cons.1 hz with rfl | hz
        · exact ahB_iff.1 hxy
        · exact ltK_trans (ahB_iff.1 hxy) (h'.1 z hz)
      · exact List.pairwise_cons.2 ⟨h'.1, h'.2⟩
theorem put_keysB {x : BalM} : ∀ {l : List BalM}, ∀ p, p ∈ (putB l x).map plOf ↔ p ∈ l.map plOf ∨ p = plOf x
  | [], p => by show p ∈ [x].map plOf ↔ _; simp
  | y :: r, p => by
    rw [put_cons]
    split
    · rw [List.map_cons, List.mem_cons, put_keysB p, List.map_cons, List.mem_cons, or_assoc]
    · split
      · simp only [List.map_cons, List.mem_cons]
        constructor
        · rintro (h | h | h)
          · exact Or.inr h
          · exact Or.inl (Or.inl h)
          · exact Or.inl (Or.inr h)
        · rintro ((h | h) | h)
          · exact Or.inr (Or.inl h)
          · exact Or.inr (Or.inr h)
          · exact Or.inl h
      · rename_i h1 h2
        have e : plOf y = plOf x := by
          rcases Classical.em (plOf y = plOf x) with h | h
          · exact h
          · rcases ltK_total h with h3 | h3
            · exact absurd (ahB_iff.2 h3) h1
            · exact absurd (ahB_iff.2 h3) h2
        show p ∈ plOf y :: r.map plOf ↔ _
        rw [List.map_cons, List.mem_cons, e]
        constructor
        · intro h; exact Or.inl h
        · rintro (h | h)
          · exact h
          · exact Or.inl h
theorem put_sum {x : BalM} : ∀ {l : List BalM}, Rises l → (∀ p, wrap64 (sumAt l p) = sumAt l p) → wrap64 x.amt = x.amt → ∀ p, sumAt (putB l x) p = if plOf x = p then wrap64 (sumAt l p + x.amt) else sumAt l p
  | [], _, _, hx, p => by
    show sumAt [x] p = _
    rw [sumAt_cons, sumAt_nil]
    split
    · rw [Int.zero_add, hx]; omega
    · rfl
  | y :: r, h, hw, hx, p => by
    have h' := List.pairwise_cons.1 h
    have hyr : sumAt r (plOf y) = 0 := sumAt_none (fun z hz e => ltK_irrefl _ (e ▸ h'.1 z hz))
    have hwr : ∀ p, wrap64 (sumAt r p) = sumAt r p := fun q => by
      have := hw q
      rw [sumAt_cons] at this
      by_cases e : plOf y = q
      · rw [← e, hyr, wrap64_eq]; rfl
      · rw [if_neg e, Int.zero_add] at this; exact this
    rw [put_cons]
    split
    · rename_i hyx
      have hne : plOf y ≠ plOf x := fun e => ltK_irrefl _ (e ▸ ahB_iff.1 hyx)
      rw [sumAt_cons, put_sum h'.2 hwr hx p, sumAt_cons]
      by_cases e : plOf x = p
      · rw [if_pos e, if_pos e, if_neg (fun e2 => hne (e2.trans e.symm)), Int.zero_add, Int.zero_add]
      · rw [if_neg e, if_neg e]
    · split
      · rename_i h1 hxy
        have hx0 : sumAt (y :: r) (plOf x) = 0 := sumAt_none (fun z hz e => by
          rcases List.mem_cons.1 hz with rfl | hz
          · exact ltK_irrefl _ (e ▸ ahB_iff.1 hxy)
          · exact ltK_irrefl _ (e ▸ ltK_trans (ahB_iff.1 hxy) (h'.1 z hz)))
        rw [sumAt_cons]
        by_cases e : plOf x = p
        · rw [if_pos e, if_pos e, ← e, hx0, Int.zero_add, hx, Int.add_zero]
        · rw [if_neg e, if_neg e, Int.zero_add]
      · rename_i h1 h2
        have e : plOf y = plOf x := by
          rcases Classical.em (plOf y = plOf x) with h | h
          · exact h
          · rcases ltK_total h with h3 | h3
            · exact absurd (ahB_iff.2 h3) h1
            · exact absurd (ahB_iff.2 h3) h2
        rw [sumAt_cons, sumAt_cons]
        show (if plOf y = p then wrap64 (y.amt + x.amt) else 0) + _ = _
        by_cases e2 : plOf x = p
        · rw [if_pos (e.trans e2), if_pos e2, if_pos (e.trans e2), ← e2, ← e, hyr, Int.add_zero, Int.add_zero]
        · rw [if_neg (fun e3 => e2 (e.symm.trans e3)), if_neg e2, if_neg (fun e3 => e2 (e.symm.trans e3))]
theorem wrap_idem (a : Int) : wrap64 (wrap64 a) = wrap64 a := by
  have := wrap64_add a 0
  rwa [Int.add_zero, Int.add_zero] at this
theorem rel_put {O : List BalM} {T : List (PlM × Int)} {x : BalM} (h : RelB O T) (hw : ∀ p, wrap64 (tabGet T p) = tabGet T p) (hx : wrap64 x.amt = x.amt) : RelB (putB O x) (stepT T x) ∧ ∀ p, wrap64 (tabGet (stepT T x) p) = tabGet (stepT T x) p := by
  have hg : ∀ p, tabGet (stepT T x) p = if plOf x = p then wrap64 (tabGet T p + x.amt) else tabGet T p := fun p => by
    unfold stepT
    rw [IntWalk.i64_left]
    by_cases e : plOf x = p
    · rw [if_pos e, ← e, get_put]
    · rw [if_neg e, get_put_ne _ _ (fun e' => e e'.symm)]
  refine ⟨⟨put_rises h.rises, fun p => ?_, fun p => ?_⟩, fun p => ?_⟩
  · rw [put_keysB, h.keys]
    unfold stepT
    rw [put_keys]
  · rw [put_sum h.rises (fun q => by rw [h.sum, hw]) hx, h.sum, hg]
  · rw [hg]
    split
    · exact wrap_idem _
    · exact hw p
theorem rel_fold : ∀ (l : List BalM) (O : List BalM) (T : List (PlM × Int)), RelB O T → (∀ p, wrap64 (tabGet T p) = tabGet T p) → (∀ x ∈ l, wrap64 x.amt = x.amt) → RelB (l.foldl putB O) (foldT l T)
  | [], _, _, h, _, _ => h
  | x :: r, O, T, h, hw, hl => by
    obtain ⟨h1, h2⟩ := rel_put h hw (hl x (List.mem_cons_self ..))
    exact rel_fold r (putB O x) (stepT T x) h1 h2 (fun y hy => hl y (List.mem_cons_of_mem _ hy))
theorem rel_all {l : List BalM} (hl : ∀ x ∈ l, wrap64 x.amt = x.amt) : RelB (l.foldl putB []) (foldT l []) :=
  rel_fold l [] [] ⟨List.Pairwise.nil, fun p => Iff.rfl, fun p => rfl⟩ (fun p => by show wrap64 0 = 0; rw [wrap64_eq]; rfl) hl
theorem rel_len {O : List BalM} {T : List (PlM × Int)} (h : RelB O T) (hn : (T.map (·.1)).Nodup) : O.length = T.length := by
  have h1 := nd_len (l := O.map plOf) (m := T.map (·.1)) (List.pairwise_map.2 h.rises.nodup) (fun p hp => (h.keys p).1 hp)
  have h2 := nd_len hn (m := O.map plOf) (fun p hp => (h.keys p).2 hp)
  simp only [List.length_map] at h1 h2
  omega
theorem full_sum : ∀ (l : List BalM) (p : PlM), sumAt (fullB l) p = sumAt l p
  | [], _ => rfl
  | x :: r, p => by
    have ih := full_sum r p
    unfold fullB at ih ⊢
    by_cases h0 : x.amt = 0
    · rw [List.filter_cons_of_neg (by simp [h0]), ih, sumAt_cons, h0]
      split <;> omega
    · rw [List.filter_cons_of_pos (by simp [h0]), sumAt_cons, sumAt_cons, ih]
/-- what the document says of them -/
def docC (pick : EntryM → Bool) (t : List EntryM) : Int := if 200 < t.length then 4 else if badAll t = true then 1 else if 200 < ((someB pick t).foldl putB []).length then 4 else 0
theorem led_out {B : Nat} {w w' : World} {pick : EntryM → Bool} {t : List EntryM} {e : Ending} (h : LedPost B w pick t e w') : Below B w w' ∧ ∃ so sc D, e = .returned (.tuple #[.slice so D.length sc, .int .i64 (docC pick t)]) ∧ BalsAt w' so D ∧ D = if docC pick t = 0 then fullB ((someB pick t).foldl putB []) else [] := by
  obtain ⟨hb, h⟩ := h
  refine ⟨hb, ?_⟩
  unfold docC
  rcases h with ⟨h1, he⟩ | ⟨h1, h2, he⟩ | ⟨h1, h2, h3, he⟩ | ⟨h1, h2, h3, ao, cap, h4, he⟩
  · rw [if_pos h1]; exact ⟨none, 0, [], he, Or.inl rfl, rfl⟩
  · rw [if_neg (by omega), if_pos h2]; exact ⟨none, 0, [], he, Or.inl rfl, rfl⟩
  · rw [if_neg (by omega), if_neg (by rw [h2]; simp), if_pos h3]; exact ⟨none, 0, [], he, Or.inl rfl, rfl⟩
  · rw [if_neg (by omega), if_neg (by rw [h2]; simp), if_neg (by omega)]; exact ⟨ao, cap, _, he, h4, rfl⟩
end Go.Proofs.YtbhndnjlplibmaaDoor.lg
