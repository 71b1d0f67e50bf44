/- What match.Fifo holds in memory; match.abs. -/
import Derived.Test.YtbhndnjlplibmaaDoorIt3
import Derived.Test.YtbhndnjlplibmaaDoorMaL
import Derived.Deep.OwnRows
import Derived.Deep.AppendLies
import Derived.OwnWalk
import Derived.Deep.DeepMust
import Derived.RegionTactic
import Derived.BigRegion
import Derived.WalkLawsBesides
namespace Go.Proofs.YtbhndnjlplibmaaDoor.mt
open Go.RowKit

theorem infoI : (Tryd.prog.info? 3).map (fun i => (i.zero, i.size, i.bytes)) = some (some (.int .i64 0), 1, 8) := by kernel_rfl
theorem infoI3 : (Tryd.prog.info? 41).map (fun i => (i.zero, i.size, i.bytes)) = some (some (.agg #[.int .i64 0, .int .i64 0, .int .i64 0]), 3, 24) := by kernel_rfl
theorem infoIt : (Tryd.prog.info? 40).map (fun i => (i.zero, i.size, i.bytes)) = some (some (.agg #[.string ⟨#[]⟩, .int .i64 0, .int .i64 0]), 3, 32) := by kernel_rfl

theorem abs_any (n : Int) (w : World) (h1 : -1000000000000000 ≤ n) (h2 : n ≤ 1000000000000000) :
    Calls Tryd.prog 50 #[.int .i64 n] w fun e w' => e = .returned (.int .i64 (fifo.absN n)) ∧ w' = w := by
  by_cases h : n < 0
  · have hb : Hid (fifo.absN n = -n) := by show _ = _; rw [fifo.absN, if_pos h]
    go_enter Tryd.func50, Tryd.ntmps50
    go_wp2
    go_ret
    exact ⟨ret_int (by rw [hb.out]; omega), rfl⟩
  · have hb : Hid (fifo.absN n = n) := by show _ = _; rw [fifo.absN, if_neg h]
    go_enter Tryd.func50, Tryd.ntmps50
    go_wp2
    go_ret
    exact ⟨ret_int (by rw [hb.out]; omega), rfl⟩

/-- a call that leaves the world alone, within a second region that draws -/
theorem quietAt {P : Program} {f : FuncId} {args : Array Value} {v : Value} (h : ∀ W : World, Calls P f args W fun e w' => e = .returned v ∧ w' = W) (w : World) (a n : Nat) :
    Calls P f args (w.drewN (a + n)) fun e w2 => e = .returned v ∧ ∃ m, w2 = w.drewN (a + m) :=
  (h _).mono fun _ _ ⟨he, hm⟩ => ⟨he, n, hm⟩
/-- integers as a block -/
def intsA (L : List Int) : Array Value := (L.map (Value.int .i64)).toArray
def lObj (L : List Int) : Obj := .cells (intsA L) 3 (0, 0)
theorem made_ints (n : Nat) : madeCells #[Value.int .i64 0] n = intsA (List.replicate n 0) := by
  apply Array.ext
  · simp [size_madeCells, intsA]
  · intro i h1 h2
    simp [madeCells, intsA, Nat.mod_one]
theorem make_ints (n : Nat) (hn : n ≤ 4398046511104) (w : World) : (Instr.makeSlice 28 (.int .i64 (n : Int)) (.int .i64 (n : Int))).run Tryd.prog w = .ok (.slice (some ⟨w.heap.size, 0, none⟩) n n) (w.alloc (lObj (List.replicate n 0))) := by
  have h := run_make_row' (P := Tryd.prog) 28 3 (.int .i64 0) 8 Tryd.underlying28 infoI rfl .i64 .i64 n (by omega) (by omega) w
  rw [made_ints] at h
  exact h
theorem intsA_at (L : List Int) {i : Nat} (h : i < L.length) : (intsA L)[i]? = some (.int .i64 (L.getD i 0)) := by
  simp [intsA, h]
theorem intsA_set (L : List Int) (i : Nat) (x : Int) : (intsA L).setIfInBounds i (.int .i64 x) = intsA (L.set i x) := by
  simp [intsA, List.map_set]

/-- what match.Fifo holds: left in block Bl, the sets in a row of their own -/
def FSt (w : World) (Bl : Nat) (L : List Int) (S : List (Nat × Nat × Int)) (sv : Value) (wr : World) : Prop :=
  RowSt w [(Bl, lObj L)] 41 3 sv S.length (S.flatMap fifo.setCells) wr
section
variable {w wr wr' : World} {Bl : Nat} {L : List Int} {S : List (Nat × Nat × Int)} {sv : Value}
theorem FSt.below (h : FSt w Bl L S sv wr) : Below w.heap.size w wr := h.fr.below
theorem FSt.later (h : FSt w Bl L S sv wr) (hb : Below wr.heap.size wr wr') : FSt w Bl L S sv wr' := RowSt.later h hb
theorem FSt.ge (h : FSt w Bl L S sv wr) : w.heap.size ≤ Bl ∧ Bl < wr.heap.size := ⟨(h.fr.has _ (List.mem_cons_self ..)).1, h.fr.lt (List.mem_cons_self ..)⟩
theorem FSt.at (h : FSt w Bl L S sv wr) {i : Nat} (hi : i < L.length) : wr.cell? ⟨Bl, i, none⟩ = some (.int .i64 (L.getD i 0)) := by
  have := cell_of_heap (h.fr.has _ (List.mem_cons_self ..)).2 i
  rw [this, intsA_at L hi]
theorem FSt.free (h : FSt w Bl L S sv wr) (i : Nat) : wr.frozen? ⟨Bl, i, none⟩ = false := free_of_heap (h.fr.has _ (List.mem_cons_self ..)).2 i
theorem FSt.put (h : FSt w Bl L S sv wr) (i : Nat) (x : Int) : FSt w Bl (L.set i x) S sv (wr.setCell ⟨Bl, i, none⟩ (.int .i64 x)) := by
  have h' := RowSt.set (bs := []) h (fun p hp => by cases hp) i (.int .i64 x)
  rw [intsA_set] at h'
  exact h'
theorem FSt.start (hb : Below w.heap.size w wr) (n : Nat) : FSt w wr.heap.size (List.replicate n 0) [] (.slice none 0 0) (wr.alloc (lObj (List.replicate n 0))) :=
  RowSt.start ((Fr.newAt (⟨hb, fun p hp => by cases hp⟩ : Fr w [] wr) rfl _))
theorem FSt.push (h : FSt w Bl L S sv wr) {W w1 : World} {o : Obj} {v1 : Value} {S' : List (Nat × Nat × Int)} {new : List Value} (e : Below wr.heap.size wr W) (hg : (W.alloc o).grownBy w1 sv.ownBlock)
    (hat : v1.ownBlock = sv.ownBlock ∨ v1.ownBlock = some (W.alloc o).heap.size) (hown : w1.ownsRow w.heap.size 41 3 v1 (S.length + 1) (S.flatMap fifo.setCells ++ new)) (hl : S'.length = S.length + 1) (hc : S'.flatMap fifo.setCells = S.flatMap fifo.setCells ++ new) : FSt w Bl L S' v1 w1 :=
  RowSt.moved (RowSt.later h e) (ownsRow_cast hown hl.symm hc.symm) (Moved.append hg (by simpa using hat))
theorem FSt.size (h : FSt w Bl L S sv wr) : w.heap.size ≤ wr.heap.size := h.fr.below.size
end
/-- rows of other types lie in other blocks -/
theorem rows_ne {w : World} {base base' : Nat} {e e' : TypeId} {sz sz' : Nat} {v v' : Value} {n n' : Nat} {xs xs' : List Value} (h : w.ownsRow base e sz v n xs) (h' : w.ownsRow base' e' sz' v' n' xs') (hne : e ≠ e') : ∀ g, v.ownBlock = some g → v'.ownBlock ≠ some g := by
  intro g hg hg'
  rcases h.2 with ⟨hv, _⟩ | ⟨g1, c1, u1, hv, _, hh, _⟩
  · rw [hv] at hg; simp [Value.ownBlock] at hg
  · rcases h'.2 with ⟨hv', _⟩ | ⟨g2, c2, u2, hv', _, hh', _⟩
    · rw [hv'] at hg'; simp [Value.ownBlock] at hg'
    · rw [hv] at hg
      rw [hv'] at hg'
      simp only [Value.ownBlock, Option.some.injEq] at hg hg'
      subst hg hg'
      rw [hh] at hh'
      injection hh' with hh'
      injection hh' with _ ht
      exact hne ht
/-- the same, what is open in a row besides -/
structure OSt (w : World) (Bl : Nat) (L : List Int) (S : List (Nat × Nat × Int)) (sv : Value) (O : List ItemM) (ov : Value) (wr : World) : Prop where
  row : RowSt w [(Bl, lObj L)] 40 3 ov O.length (O.flatMap itemCells) wr
  sets : wr.ownsRow w.heap.size 41 3 sv S.length (S.flatMap fifo.setCells)
section
variable {w wr wr' : World} {Bl : Nat} {L : List Int} {S : List (Nat × Nat × Int)} {sv ov : Value} {O : List ItemM}
theorem OSt.start (h : FSt w Bl L S sv wr) : OSt w Bl L S sv [] (.slice none 0 0) wr := ⟨RowSt.start h.fr, h.row⟩
theorem OSt.later (h : OSt w Bl L S sv O ov wr) (hb : Below wr.heap.size wr wr') : OSt w Bl L S sv O ov wr' :=
  ⟨h.row.later hb, row_keep h.sets (fun k hk => hb.block k (row_lt h.sets k hk).2)⟩
theorem OSt.at (h : OSt w Bl L S sv O ov wr) {i : Nat} (hi : i < L.length) : wr.cell? ⟨Bl, i, none⟩ = some (.int .i64 (L.getD i 0)) := by
  have := cell_of_heap (h.row.fr.has _ (List.mem_cons_self ..)).2 i
  rw [this, intsA_at L hi]
theorem OSt.ge (h : OSt w Bl L S sv O ov wr) : w.heap.size ≤ Bl ∧ Bl < wr.heap.size := ⟨(h.row.fr.has _ (List.mem_cons_self ..)).1, h.row.fr.lt (List.mem_cons_self ..)⟩
theorem OSt.push (h : OSt w Bl L S sv O ov wr) {w1 : World} {o : Obj} {v1 : Value} {O' : List ItemM} {new : List Value} (hg : (wr.alloc o).grownBy w1 ov.ownBlock)
    (hat : v1.ownBlock = ov.ownBlock ∨ v1.ownBlock = some (wr.alloc o).heap.size) (hown : w1.ownsRow w.heap.size 40 3 v1 (O.length + 1) (O.flatMap itemCells ++ new)) (hl : O'.length = O.length + 1) (hc : O'.flatMap itemCells = O.flatMap itemCells ++ new) : OSt w Bl L S sv O' v1 w1 := by
  have hm := Moved.append hg (by simpa using hat)
  refine ⟨RowSt.moved h.row (ownsRow_cast hown hl.symm hc.symm) hm, row_keep h.sets (fun k hk => hm.only.block k (row_lt h.sets k hk).2 (rows_ne h.sets h.row.row (by decide) k hk))⟩
end
end Go.Proofs.YtbhndnjlplibmaaDoor.mt
