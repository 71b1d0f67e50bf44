/- Lines put together: what the walk of dayref1.Grouped stands on. -/
import Derived.Test.YtbhndnjlplibmaaLn1
import Derived.Laws.OwnMore
namespace Go.Proofs.Ytbhndnjlplibmaa.lg
open Go.RowKit

theorem ahL_bools (y x : LineM) : ahB (toB y) (toB x) = (lessS y.acc x.acc || (sameS y.acc x.acc && lessS y.cur x.cur)) := by
  rw [Bool.eq_iff_iff, ahB_iff]
  simp only [Bool.or_eq_true, Bool.and_eq_true, sameS_iff]
  unfold ltK plOf toB
  simp
theorem ahL_back {y x : LineM} (h : ahB (toB y) (toB x) = false) : ahB (toB x) (toB y) = !(sameS y.acc x.acc && sameS y.cur x.cur) := by
  have hn : ¬ ltK (plOf (toB y)) (plOf (toB x)) := fun k => by rw [ahB_iff.2 k] at h; cases h
  cases he : (sameS y.acc x.acc && sameS y.cur x.cur) with
  | true =>
    simp only [Bool.and_eq_true, sameS_iff] at he
    have e : plOf (toB y) = plOf (toB x) := by unfold plOf toB; simp [he.1, he.2]
    cases hb : ahB (toB x) (toB y) with
    | false => rfl
    | true => have := ahB_iff.1 hb; rw [e] at this; exact absurd this (ltK_irrefl _)
  | false =>
    have e : plOf (toB y) ≠ plOf (toB x) := fun e => by
      unfold plOf toB at e
      simp only [PlM.mk.injEq, true_and] at e
      rw [sameS_iff.2 e.1, sameS_iff.2 e.2] at he
      cases he
    exact ahB_iff.2 ((ltK_total e).resolve_left hn)
def addL (y x : LineM) : LineM := { y with amt := wrap64 (y.amt + x.amt) }
theorem addL_bal (y x : LineM) : toB (addL y x) = addB (toB y) (toB x) := rfl
theorem putL_in {O : List LineM} {x y : LineM} {k : Nat} (hk : posB (toB x) (O.map toB) = k) (h : O[k]? = some y) (ha : ahB (toB x) (toB y) = true) : (O.take k ++ x :: O.drop k).map toB = putB (O.map toB) (toB x) := by
  rw [put_in hk (by rw [List.getElem?_map, h]; rfl) ha, List.map_append, List.map_cons, List.map_take, List.map_drop]
theorem putL_end {O : List LineM} {x : LineM} {k : Nat} (hk : posB (toB x) (O.map toB) = k) (h : O.length ≤ k) : (O.take k ++ x :: O.drop k).map toB = putB (O.map toB) (toB x) := by
  rw [put_end hk (by rw [List.length_map]; exact h), List.map_append, List.map_cons, List.map_take, List.map_drop]
theorem putL_add {O : List LineM} {x y : LineM} {k : Nat} (hk : posB (toB x) (O.map toB) = k) (h : O[k]? = some y) (ha : ahB (toB x) (toB y) = false) : (O.set k (addL y x)).map toB = putB (O.map toB) (toB x) := by
  rw [put_add hk (by rw [List.getElem?_map, h]; rfl) ha, List.map_set]; rfl
theorem fold_snoc {l : List LineM} {k : Nat} {x : LineM} (h : l[k]? = some x) : ((l.take (k + 1)).map toB).foldl putB [] = putB (((l.take k).map toB).foldl putB []) (toB x) := by
  obtain ⟨hk, rfl⟩ := List.getElem?_eq_some_iff.1 h
  rw [List.take_succ_eq_append_getElem hk, List.map_append, List.foldl_append]
  rfl
theorem put_len1 (l : List BalM) (x : BalM) : (putB l x).length ≤ l.length + 1 := by
  unfold putB
  have := posB_le x l
  cases h : l[posB x l]? with
  | none => simp
  | some y =>
    simp only
    split
    · simp; omega
    · simp
theorem foldp_len : ∀ (l O : List BalM), (l.foldl putB O).length ≤ O.length + l.length
  | [], O => by simp
  | x :: r, O => by
    have h1 := foldp_len r (putB O x)
    have h2 := put_len1 O x
    rw [List.foldl_cons, List.length_cons]
    omega
theorem fold_lenL {l O : List LineM} (h : O.map toB = (l.map toB).foldl putB []) : O.length ≤ l.length := by
  have h1 := congrArg List.length h
  have h2 := foldp_len (l.map toB) []
  simp only [List.length_map, List.length_nil] at h1 h2
  omega
theorem posL_drop {x y : LineM} {O : List LineM} {k : Nat} (h : O[k]? = some y) : k + posB (toB x) ((O.map toB).drop k) = if ahB (toB y) (toB x) = true then (k + 1) + posB (toB x) ((O.map toB).drop (k + 1)) else k :=
  posB_drop (by rw [List.getElem?_map, h]; rfl)
/-- an own row of lines is nil, or not -/
theorem row_base {w : World} {b c : Nat} {e : TypeId} {sz : Nat} {v : Value} {n : Nat} {xs : List Value} (h : w.ownsRow b e sz v n xs) (hc : c ≤ b) : w.ownsRow c e sz v n xs := by
  obtain ⟨h1, h2⟩ := h
  refine ⟨h1, ?_⟩
  rcases h2 with h2 | ⟨g, cap, cur, hv, hg, r⟩
  · exact Or.inl h2
  · exact Or.inr ⟨g, cap, cur, hv, Nat.le_trans hc hg, r⟩
/-- the three appends of one that is put between others -/
theorem ins_runs {w : World} {O : List LineM} {x : LineM} {P sc sc2 : Nat} {so so2 : Option Addr} (h1 : LinesAt w so (O.take P)) (h2 : LinesAt w so2 (O.drop P)) (hn : O.length ≤ 1000) (hP : P ≤ O.length) :
    ∃ v2 w12 v3 w13 v4 w14, (Builtin.append_ #[48, 48] 48 #[.slice none 0 0, .slice so P sc]).run Try.prog w = .ok v2 w12 ∧
      (Builtin.append_ #[48, 48] 48 #[v2, .slice (some ⟨w12.heap.size, 0, none⟩) 1 1]).run Try.prog (w12.alloc (.cells #[.string x.acc, .string x.cur, .int .i64 x.amt] 81)) = .ok v3 w13 ∧
      (Builtin.append_ #[48, 48] 48 #[v3, .slice so2 (O.length - P) sc2]).run Try.prog w13 = .ok v4 w14 ∧
      w14.ownsRow w.heap.size 81 3 v4 (O.take P ++ x :: O.drop P).length ((O.take P ++ x :: O.drop P).flatMap encL) ∧ Below w.heap.size w w12 ∧ Below w.heap.size w w14 := by
  have htk : (O.take P).length = P := by rw [List.length_take]; omega
  have hdr : (O.drop P).length = O.length - P := List.length_drop
  obtain ⟨v2, w12, hr2, hown2, hgrow2, hblk2⟩ := run_append_lines (sc := sc) (World.ownsRow_nil w w.heap.size 81 3) h1 (by omega) (Nat.le_refl _) 48
  rw [htk] at hr2
  have HB12 : Below w.heap.size w w12 := (Only.of_grown hgrow2).below (Nat.le_refl _) (fun k hk => by simp [Value.ownBlock] at hk)
  obtain ⟨V, hV⟩ : ∃ V, V = w12.alloc (.cells #[.string x.acc, .string x.cur, .int .i64 x.amt] 81) := ⟨_, rfl⟩
  have hbV : Below w12.heap.size w12 V := by rw [hV]; exact (Below.refl _ _).alloc (Nat.le_refl _) _
  have HBV : Below w.heap.size w V := HB12.trans (hbV.mono HB12.size)
  have hnew : V.heap[w12.heap.size]? = some (.cells #[.string x.acc, .string x.cur, .int .i64 x.amt] 81 (0, 0)) := by rw [hV]; exact heap_new_at rfl _
  have hownV := row_keep hown2 (fun k hk => hbV.block k (row_lt hown2 k hk).2)
  obtain ⟨v3, w13, hr3, hown3, hgrow3, hblk3⟩ := run_append_lines (sc := 1) hownV (l := [x]) (so := some ⟨w12.heap.size, 0, none⟩) (lines_one hnew) (by simp; omega) HBV.size 48
  have hon3 : Only (fun k => v2.ownBlock = some k) V w13 := Only.of_grown hgrow3
  have hv2new : ∀ k, v2.ownBlock = some k → w.heap.size ≤ k := fun j hj => by
    rcases hblk2 with e | e
    · rw [e] at hj; simp [Value.ownBlock] at hj
    · rw [e] at hj; injection hj with hj; omega
  have HB13 : Below w.heap.size w w13 := HBV.trans (hon3.below HBV.size hv2new)
  have hv3new : ∀ k, v3.ownBlock = some k → w.heap.size ≤ k := fun j hj => by
    rcases hblk3 with e | e
    · rw [e] at hj; exact hv2new j hj
    · rw [e] at hj; injection hj with hj; have := HBV.size; omega
  obtain ⟨v4, w14, hr4, hown4, hgrow4, hblk4⟩ := run_append_lines (sc := sc2) hown3 (h2.below HB13) (by simp; omega) HB13.size 48
  rw [hdr] at hr4
  have HB14 : Below w.heap.size w w14 := HB13.trans ((Only.of_grown hgrow4).below HB13.size hv3new)
  rw [hV] at hr3
  refine ⟨v2, w12, v3, w13, v4, w14, hr2, hr3, hr4, ownsRow_cast hown4 (by simp; omega) (by simp [List.flatMap_append]), HB12, HB14⟩
def GrdPost (B : Nat) (w : World) (R : List BalM) (e : Ending) (w' : World) : Prop := Below B w w' ∧ ∃ v, ∃ O : List LineM, e = .returned v ∧ w'.ownsRow B 81 3 v O.length (O.flatMap encL) ∧ O.map toB = R
end Go.Proofs.Ytbhndnjlplibmaa.lg
