/- Ranging over the map of sums: whatever the order, each entry once; its length. -/
import Derived.Test.YtbhndnjlplibmaaMp1
import Derived.Maps.RangeWalk
import Derived.Maps.OwnSet
namespace Go.Proofs.Ytbhndnjlplibmaa.lg
open Go.RowKit Go.MapKept
open Go.ChangeMaps (setBlock)

def kvE (e : MapEntry) : Value × Value := (e.key, e.val)
def kvP (p : PlM × Int) : Value × Value := (plV p.1, Value.int .i64 p.2)
/-- the loop over map b, by iterator r, has had Done -/
structure RangeT (w : World) (b r : Nat) (T Done : List (PlM × Int)) : Prop where
  ne : r ≠ b
  ex : ∃ es clock since seen c0 L, w.heap[b]? = some (.map es clock) ∧ es.toList.map kvE = T.map kvP ∧ Stamped es clock ∧ w.heap[r]? = some (.mapIter (some b) since seen c0) ∧
    (∀ x ∈ es.toList, x.born < since) ∧ since ≤ c0 ∧ since ≤ clock ∧ (leftOf es seen).toList.map kvE = L.map kvP ∧ (Done ++ L).Perm T
  ok : ∀ p ∈ T, plOk p.1
theorem RangeT.later {w w' : World} {b r : Nat} {T Done : List (PlM × Int)} (h : RangeT w b r T Done) (h1 : w'.heap[b]? = w.heap[b]?) (h2 : w'.heap[r]? = w.heap[r]?) : RangeT w' b r T Done := by
  obtain ⟨es, clock, since, seen, c0, L, a1, a2, a3, a4, a5⟩ := h.ex
  exact ⟨h.ne, ⟨es, clock, since, seen, c0, L, h1.trans a1, a2, a3, h2.trans a4, a5⟩, h.ok⟩
theorem RangeT.lt {w : World} {b r : Nat} {T Done : List (PlM × Int)} (h : RangeT w b r T Done) : r < w.heap.size ∧ b < w.heap.size := by
  obtain ⟨es, clock, since, seen, c0, L, a1, a2, a3, a4, a5⟩ := h.ex
  exact ⟨lt_of_heap a4, lt_of_heap a1⟩
theorem RangeT.left {w : World} {b r : Nat} {T Done : List (PlM × Int)} (h : RangeT w b r T Done) : w.rangeLeft b r + Done.length = T.length := by
  obtain ⟨es, clock, since, seen, c0, L, a1, a2, a3, a4, _, _, _, a5, a6⟩ := h.ex
  have h1 := congrArg List.length a5
  have h2 := a6.length_eq
  simp only [List.length_map, List.length_append, Array.length_toList] at h1 h2
  unfold World.rangeLeft
  rw [a1, a4]
  simp only
  omega
theorem range_start {w : World} {b : Nat} {T : List (PlM × Int)} (h : MapT w b T) :
    ∃ o, (Instr.range 71 (.map (some b))).run Try.prog w = .ok (.pointer (some ⟨w.heap.size, 0, none⟩)) (w.alloc o) ∧ RangeT (w.alloc o) b w.heap.size T [] := by
  have hlt := h.lt
  obtain ⟨es, clock, hb, he, hs⟩ := h.ex
  refine ⟨_, run_range_map w _ _ _ b es clock Try.underlying71 hb, by omega, ⟨es, clock, clock, #[], clock, T, ((MapKept.heap_alloc w _).2 b hlt).trans hb, he, hs, (MapKept.heap_alloc w _).1, hs.1, Nat.le_refl _, Nat.le_refl _, ?_, List.Perm.refl _⟩, h.ok⟩
  rw [show leftOf es #[] = es by simp [leftOf]]
  exact he
theorem born_perm : ∀ (l : List MapEntry) (e : MapEntry), (l.map (·.born)).Nodup → e ∈ l → l.Perm (e :: l.filter fun x => !(x.born == e.born))
  | [], _, _, h => by cases h
  | a :: r, e, hn, h => by
    simp only [List.map_cons, List.nodup_cons] at hn
    rcases List.mem_cons.1 h with rfl | h
    · rw [List.filter_cons_of_neg (by simp), List.filter_eq_self.2 (fun x hx => ?_)]
      have : x.born ≠ e.born := fun e1 => hn.1 (e1 ▸ List.mem_map.2 ⟨x, hx, rfl⟩)
      simpa using this
    · have hne : a.born ≠ e.born := fun e1 => hn.1 (e1 ▸ List.mem_map.2 ⟨e, h, rfl⟩)
      rw [List.filter_cons_of_pos (by simpa using hne)]
      exact ((born_perm r e hn.2 h).cons a).trans (List.Perm.swap _ _ _)
/-- what reads as pairs in one order reads so in any -/
theorem perm_kv {l l' : List MapEntry} {L : List (PlM × Int)} (h : l.map kvE = L.map kvP) (hp : l.Perm l') : ∃ L', l'.map kvE = L'.map kvP ∧ L.Perm L' := by
  induction hp generalizing L with
  | nil => exact ⟨L, h, List.Perm.refl _⟩
  | cons x _ ih =>
    cases L with
    | nil => cases h
    | cons y L =>
      simp only [List.map_cons, List.cons.injEq] at h
      obtain ⟨L', h1, h2⟩ := ih h.2
      exact ⟨y :: L', by simp only [List.map_cons, h.1, h1], h2.cons y⟩
  | swap x y l =>
    match L, h with
    | a :: b :: L, h =>
      simp only [List.map_cons, List.cons.injEq] at h
      exact ⟨b :: a :: L, by simp only [List.map_cons, h.1, h.2.1, h.2.2], List.Perm.swap _ _ _⟩
    | [], h => cases h
    | [_], h => simp at h
  | trans _ _ ih1 ih2 =>
    obtain ⟨L1, a1, b1⟩ := ih1 h
    obtain ⟨L2, a2, b2⟩ := ih2 a1
    exact ⟨L2, a2, b1.trans b2⟩
/-- the next one, whichever -/
theorem RangeT.next {w : World} {b r : Nat} {T Done : List (PlM × Int)} (h : RangeT w b r T Done) (ty : TypeId) :
    (Done.Perm T ∧ (Instr.next (.pointer (some ⟨r, 0, none⟩)) false ty).run Try.prog w = .ok (.tuple #[.bool false]) w) ∨
    ∃ p v w1 o, (w1 = w ∨ w1 = w.drew) ∧ plOk p ∧ (Instr.next (.pointer (some ⟨r, 0, none⟩)) false ty).run Try.prog w = .ok (.tuple #[.bool true, plV p, .int .i64 v]) (setBlock w1 r o) ∧ RangeT (setBlock w1 r o) b r T (Done ++ [(p, v)]) ∧
      (Instr.entry (.pointer (some ⟨r, 0, none⟩))).run Try.prog (setBlock w1 r o) = .ok (.tuple #[plV p, .int .i64 v]) (setBlock w1 r o) := by
  have hne := h.ne
  obtain ⟨es, clock, since, seen, c0, L, hb, he, hs, hr, hold, hsc, hsk, hl, hperm⟩ := h.ex
  rcases run_next_at (P := Try.prog) w ty r b since c0 seen es clock hr hb hold hsc with ⟨h0, hrun⟩ | ⟨e, hem, w1, hal, hrun⟩
  · refine Or.inl ⟨?_, hrun⟩
    have : L = [] := by
      have h1 := congrArg List.length hl
      simp only [List.length_map, Array.length_toList] at h1
      exact List.length_eq_zero_iff.1 (by omega)
    rw [this, List.append_nil] at hperm
    exact hperm
  · have hmem : e ∈ es.toList ∧ (!seen.contains e.born) = true := by
      unfold leftOf at hem
      simp at hem
      simpa using hem
    have hr1 : w1.heap[r]? = some (.mapIter (some b) since seen c0) := by rcases hal with rfl | rfl <;> exact hr
    have hb1 : w1.heap[b]? = some (.map es clock) := by rcases hal with rfl | rfl <;> exact hb
    have hset := heap_set (o' := .mapIter (some b) since (seen.push e.born) clock) hr1
    have hb' : (setBlock w1 r (.mapIter (some b) since (seen.push e.born) clock)).heap[b]? = some (.map es clock) := (hset.2 b (fun e1 => hne e1.symm)).trans hb1
    have hr' : (setBlock w1 r (.mapIter (some b) since (seen.push e.born) clock)).heap[r]? = some (.mapIter (some b) since (seen.push e.born) clock) := hset.1
    have hnl : ((leftOf es seen).toList.map (·.born)).Nodup := by
      unfold leftOf
      rw [Array.toList_filter]
      exact List.Nodup.sublist (List.Sublist.map _ List.filter_sublist) hs.2.1
    have hleft : (leftOf es (seen.push e.born)).toList = (leftOf es seen).toList.filter fun x => !(x.born == e.born) := by
      unfold leftOf
      rw [Array.toList_filter, Array.toList_filter, List.filter_filter]
      refine List.filter_congr fun x _ => ?_
      rw [Array.contains_push, Bool.not_or, Bool.and_comm]
    obtain ⟨L1, hL1, hp1⟩ := perm_kv hl (born_perm _ e hnl hem)
    cases L1 with
    | nil => cases hL1
    | cons y L2 =>
      simp only [List.map_cons, List.cons.injEq] at hL1
      obtain ⟨hy, hL2⟩ := hL1
      have hy1 : e.key = plV y.1 := congrArg Prod.fst hy
      have hy2 : e.val = .int .i64 y.2 := congrArg Prod.snd hy
      have hyT : y ∈ T := hperm.subset (List.mem_append_right _ (hp1.symm.subset (List.mem_cons_self ..)))
      refine Or.inr ⟨y.1, y.2, w1, _, hal, h.ok y hyT, ?_, ⟨hne, ⟨es, clock, since, seen.push e.born, clock, L2, hb', he, hs, hr', hold, hsk, hsk, ?_, ?_⟩, h.ok⟩, ?_⟩
      · rw [hrun, hy1, hy2]
      · rw [hleft]; exact hL2
      · rw [List.append_assoc]
        exact (List.Perm.append_left Done hp1.symm).trans hperm
      · rw [← hy1, ← hy2]
        exact run_entry_at _ r b since seen es clock e hr' hb' hmem.1 hs.2.1
theorem len_run {w : World} {b : Nat} {T : List (PlM × Int)} (h : MapT w b T) (ty : TypeId) : (Builtin.len_ #[71] ty #[.map (some b)]).run Try.prog w = .ok (.int .i64 (T.length : Int)) w := by
  obtain ⟨es, clock, hb, he, hs⟩ := h.ex
  rw [← tab_len he]
  simp [Builtin.len_, run_underlying Try.underlying71, MapKept.run_getObj_map hb, goInt, Result.andThen]
section
variable {ops : Array Oper} {rest : List Oper} {o : Oper} {a : Act} {Q : Exit → Act → World → Prop} (w : World)
theorem wp_len_tab (hg : o.guard = none) (m : Operand) (hop : o.op = Op.call { callee := Callee.builtin Builtin.len, args := #[m], argTypes := #[71] }) (b : Nat) (T : List (PlM × Int)) (hm : a.eval m = .map (some b)) (h : MapT w b T)
    (hK : wpList Try.prog ops Q rest (a.put o.dst (.int .i64 (T.length : Int))) w) : wpList Try.prog ops Q (o :: rest) a w := by
  refine wpList_plain hg fun K' hK' => ?_
  unfold Oper.wp
  simp [execOp, hop, resolve, invoke, builtin, hm, len_run h o.type, Result.andThen]
  exact hK' _ _ hK
theorem wp_range_tab (hg : o.guard = none) (m : Operand) (hop : o.op = Op.range 71 m) (b : Nat) (T : List (PlM × Int)) (hm : a.eval m = .map (some b)) (h : MapT w b T)
    (hK : ∀ ob, RangeT (w.alloc ob) b w.heap.size T [] → wpList Try.prog ops Q rest (a.put o.dst (.pointer (some ⟨w.heap.size, 0, none⟩))) (w.alloc ob)) : wpList Try.prog ops Q (o :: rest) a w := by
  refine wpList_plain hg fun K' hK' => ?_
  obtain ⟨ob, hrun, hr⟩ := range_start h
  unfold Oper.wp
  simp [execOp, hop, hm, hrun, Result.andThen]
  exact hK' _ _ (hK ob hr)
theorem wp_next_tab (hg : o.guard = none) (it : Operand) (hop : o.op = Op.next it false) (b r : Nat) (T Done : List (PlM × Int)) (hit : a.eval it = .pointer (some ⟨r, 0, none⟩)) (h : RangeT w b r T Done)
    (hDone : Done.Perm T → wpList Try.prog ops Q rest (a.put o.dst (.tuple #[.bool false])) w)
    (hMore : ∀ (p : PlM) (v : Int) (w' : World), plOk p → RangeT w' b r T (Done ++ [(p, v)]) → Only (fun k => k = r) w w' → w'.heap.size = w.heap.size → (Instr.entry (.pointer (some ⟨r, 0, none⟩))).run Try.prog w' = .ok (.tuple #[plV p, .int .i64 v]) w' →
      wpList Try.prog ops Q rest (a.put o.dst (.tuple #[.bool true, plV p, .int .i64 v])) w') : wpList Try.prog ops Q (o :: rest) a w := by
  refine wpList_plain hg fun K' hK' => ?_
  unfold Oper.wp
  rcases h.next o.type with ⟨hd, hrun⟩ | ⟨p, v, w1, ob, hal, hp, hrun, hr, hen⟩
  · simp [execOp, hop, hit, hrun, Result.andThen]
    exact hK' _ _ (hDone hd)
  · simp [execOp, hop, hit, hrun, Result.andThen]
    refine hK' _ _ (hMore p v _ hp hr ?_ ?_ hen)
    · rcases hal with rfl | rfl
      · exact ⟨rfl, rfl, rfl, by simp [setBlock], fun k _ hk => by simp [setBlock, Ne.symm hk]⟩
      · exact ⟨rfl, rfl, rfl, by simp [setBlock], fun k _ hk => by show (Array.setIfInBounds _ r ob)[k]? = _; rw [Array.getElem?_setIfInBounds_ne (Ne.symm hk)]; rfl⟩
    · rcases hal with rfl | rfl <;> simp [setBlock]
end
end Go.Proofs.Ytbhndnjlplibmaa.lg
