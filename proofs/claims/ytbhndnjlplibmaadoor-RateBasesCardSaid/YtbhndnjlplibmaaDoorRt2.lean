/- rate.of; the set of rates that were seen; rate.Check where all is right. -/
import Derived.Test.YtbhndnjlplibmaaDoorRt1
import Derived.WalkLawsBesides
import Derived.Test.YtbhndnjlplibmaaDoorOrd
namespace Go.Proofs.YtbhndnjlplibmaaDoor.rt
open Go.RowKit Go.MapKept Go.Proofs.YtbhndnjlplibmaaDoor.lg
open Go.WideMaps (KeyLaw)
open Go.ChangeMaps (setBlock)

structure KeyM where
  a : ByteArray
  b : ByteArray
  per : Int
deriving DecidableEq
def keyV (p : KeyM) : Value := .agg #[.string p.a, .string p.b, .int .i64 p.per]
def keyOk (p : KeyM) : Prop := p.a.size ≤ maxLen ∧ p.b.size ≤ maxLen ∧ (-9223372036854775808 ≤ p.per ∧ p.per ≤ 9223372036854775807)
theorem keyV_inj {p q : KeyM} (h : keyV p = keyV q) : p = q := by
  unfold keyV at h
  simp only [Value.agg.injEq, Array.mk.injEq, List.cons.injEq, Value.int.injEq, Value.string.injEq, and_true, true_and] at h
  cases p; cases q
  simp_all
theorem laidOutK : laidOutB Tryd.prog = true := by kernel_rfl
theorem keyLaw : KeyLaw Tryd.prog 137 := deep_law_laid laidOutK (m := 2) (by omega) (of_decide_eq_true (by kernel_rfl)) (by kernel_rfl) (by kernel_rfl)
theorem keyFormed (p : KeyM) : (keyV p).formed Tryd.prog 137 = true := by kernel_rfl
theorem keyKt : Tryd.prog.keyType 137 = true := by kernel_rfl
theorem cellsK : Tryd.prog.cellsOf 137 = 3 := by kernel_rfl
theorem keyLits {p : KeyM} (h : keyOk p) (n : Nat) : Tryd.prog.keyLits (n + 1 + 1) 137 [.string p.a, .string p.b, .int .i64 p.per] = some [.string p.a.data.toList, .string p.b.data.toList, .int .i64 p.per] := by
  obtain ⟨h1, h3, h4⟩ := h
  unfold Program.keyLits
  rw [Tryd.underlying137]
  simp [cellsK, cellsI1, cellsS1, kl_int n h4, kl_str n h1, kl_str n h3]
theorem keyKey {p : KeyM} (h : keyOk p) : ∃ l, keyOf Tryd.prog 137 (keyV p) = some l := by
  have e : Tryd.prog.types.size + 1 = (278 - 1) + 1 + 1 := by rw [typesP]
  unfold keyOf
  rw [Tryd.underlying137]
  simp only [keyKt, keyFormed, Bool.and_self, if_true, e]
  have hc : (keyV p).cells.toList = [.string p.a, .string p.b, .int .i64 p.per] := rfl
  rw [hc, keyLits h]
  exact ⟨_, rfl⟩
/-- block b is the set ks -/
structure SetK (w : World) (b : Nat) (ks : List KeyM) : Prop where
  ex : ∃ es clock, w.heap[b]? = some (.map es clock) ∧ es.toList.map (fun e => (e.key, e.val)) = ks.map (fun p => (keyV p, Value.bool true)) ∧ Stamped es clock
  ok : ∀ p ∈ ks, keyOk p
theorem SetK.later {w w' : World} {b : Nat} {ks : List KeyM} (h : SetK w b ks) (hk : w'.heap[b]? = w.heap[b]?) : SetK w' b ks := by
  obtain ⟨es, clock, h1, h2⟩ := h.ex
  exact ⟨⟨es, clock, hk.trans h1, h2⟩, h.ok⟩
theorem SetK.lt {w : World} {b : Nat} {ks : List KeyM} (h : SetK w b ks) : b < w.heap.size := by
  obtain ⟨es, clock, h1, _⟩ := h.ex
  exact lt_of_heap h1
theorem set_made (w : World) : SetK (w.alloc (.map #[] 0)) w.heap.size [] := ⟨⟨#[], 0, heap_new_at rfl _, rfl, by simp [Stamped]⟩, fun p hp => by cases hp⟩
theorem zeroBo (w : World) : (zeroValue 4).run Tryd.prog w = .ok (.bool false) w := by kernel_rfl
theorem key_absent {es : Array MapEntry} {ks : List KeyM} (he : es.toList.map (fun e => (e.key, e.val)) = ks.map (fun p => (keyV p, Value.bool true))) {j : Nat} {e : MapEntry} (h : es.toList[j]? = some e) {p : KeyM} (hk : e.key = keyV p) : p ∈ ks := by
  have h1 : (e.key, e.val) ∈ es.toList.map (fun e => (e.key, e.val)) := List.mem_map.2 ⟨e, List.mem_of_getElem? h, rfl⟩
  rw [he] at h1
  obtain ⟨q, hq, e2⟩ := List.mem_map.1 h1
  simp only [Prod.mk.injEq] at e2
  rw [← keyV_inj (e2.1.trans hk)]
  exact hq
theorem set_entries {w : World} {b : Nat} {ks : List KeyM} (h : SetK w b ks) {es : Array MapEntry} (he : es.toList.map (fun e => (e.key, e.val)) = ks.map (fun p => (keyV p, Value.bool true))) : ∀ e ∈ es.toList, ∃ l, keyOf Tryd.prog 137 e.key = some l := fun e hm => by
  have : (e.key, e.val) ∈ ks.map (fun p => (keyV p, Value.bool true)) := by rw [← he]; exact List.mem_map.2 ⟨e, hm, rfl⟩
  obtain ⟨q, hq, hqe⟩ := List.mem_map.1 this
  simp only [Prod.mk.injEq] at hqe
  rw [← hqe.1]
  exact keyKey (h.ok q hq)
theorem seen_not {w : World} {b : Nat} {ks : List KeyM} (h : SetK w b ks) {p : KeyM} (hp : keyOk p) (hn : p ∉ ks) :
    (Instr.lookup 135 (.map (some b)) (.agg #[.string p.a, .string p.b, .int .i64 p.per]) false).run Tryd.prog w = .ok (.bool false) w := by
  obtain ⟨es, clock, hb, he, hs⟩ := h.ex
  obtain ⟨kl, hkey⟩ := keyKey hp
  change (Instr.lookup 135 (.map (some b)) (keyV p) false).run Tryd.prog w = _
  rcases keyLaw.find w hkey es.toList (set_entries h he) with ⟨h1, h2⟩ | ⟨j, e0, h1, h2, h3⟩
  · simp [Instr.lookup, run_underlying Tryd.underlying135, MapKept.run_getObj_map hb, keyLaw.check w _ hkey, h1, zeroBo, Result.andThen]
  · exact absurd (key_absent he h2 h3) hn
theorem set_more {w : World} {b : Nat} {ks : List KeyM} (h : SetK w b ks) {p : KeyM} (hp : keyOk p) (hn : p ∉ ks) :
    ∃ V, (Instr.mapUpdate 135 (.map (some b)) (.agg #[.string p.a, .string p.b, .int .i64 p.per]) (.bool true)).run Tryd.prog w = .ok () V ∧ SetK V b (ks ++ [p]) ∧ Only (fun k => k = b) w V ∧ V.heap.size = w.heap.size := by
  obtain ⟨es, clock, hb, he, hs⟩ := h.ex
  obtain ⟨kl, hkey⟩ := keyKey hp
  change ∃ V, (Instr.mapUpdate 135 (.map (some b)) (keyV p) (.bool true)).run Tryd.prog w = .ok () V ∧ _
  rcases keyLaw.find w hkey es.toList (set_entries h he) with ⟨h1, h2⟩ | ⟨j, e0, h1, h2, h3⟩
  · refine ⟨setBlock w b (.map (es.push ⟨keyV p, .bool true, clock⟩) (clock + 1)), ?_, ⟨⟨_, _, (MapKept.heap_set (o' := .map (es.push ⟨keyV p, .bool true, clock⟩) (clock + 1)) hb).1, ?_, stamped_push hs h2⟩, fun q hq => ?_⟩, ?_, by simp [setBlock]⟩
    · simp [Instr.mapUpdate, run_underlying Tryd.underlying135, MapKept.run_getObj_map hb, keyLaw.check w false hkey, h1, MapKept.run_setObj_map _ hb, Result.andThen, setBlock]
    · rw [Array.toList_push, List.map_append, he, List.map_append]
      rfl
    · rcases List.mem_append.1 hq with hq | hq
      · exact h.ok q hq
      · rw [List.mem_singleton.1 hq]; exact hp
    · exact ⟨rfl, rfl, rfl, by simp [setBlock], fun k _ hn => by simp [setBlock, Ne.symm hn]⟩
  · exact absurd (key_absent he h2 h3) hn

def minS (a b : ByteArray) : ByteArray := if (Op.bytesLess a.toList b.toList || a.toList == b.toList) = true then a else b
def maxS (a b : ByteArray) : ByteArray := if (!Op.bytesLess a.toList b.toList) = true then a else b
theorem run_min (a b : ByteArray) (T U V : TypeId) (w : World) : (Builtin.min_ #[T, U] V #[.string a, .string b]).run Tryd.prog w = .ok (.string (minS a b)) w := by
  simp [Builtin.min_, Builtin.min2, Op.stringOp, asBool, minS]
theorem run_max (a b : ByteArray) (T U V : TypeId) (w : World) : (Builtin.max_ #[T, U] V #[.string a, .string b]).run Tryd.prog w = .ok (.string (maxS a b)) w := by
  simp [Builtin.max_, Builtin.max2, Op.stringOp, asBool, maxS]
def keyR (r : RateM) : KeyM := ⟨minS r.fr r.to, maxS r.fr r.to, r.per⟩
theorem minS_size {a b : ByteArray} {n : Nat} (ha : a.size ≤ n) (hb : b.size ≤ n) : (minS a b).size ≤ n := by unfold minS; split <;> assumption
theorem maxS_size {a b : ByteArray} {n : Nat} (ha : a.size ≤ n) (hb : b.size ≤ n) : (maxS a b).size ≤ n := by unfold maxS; split <;> assumption
set_option maxRecDepth 100000 in
theorem of_any (a b : ByteArray) (per : Int) (w : World) : Calls Tryd.prog 82 #[.string a, .string b, .int .i64 per] w fun e w' => e = .returned (.agg #[.string (minS a b), .string (maxS a b), .int .i64 per]) ∧ Below w.heap.size w w' := by
  obtain ⟨W, hW⟩ : ∃ W, W = w.alloc (.cells #[.string (minS a b), .string (maxS a b), .int .i64 per] 137) := ⟨_, rfl⟩
  have HB : Hid (Below w.heap.size w W) := by show Below _ _ _; rw [hW]; exact (Below.refl _ _).alloc (Nat.le_refl _) _
  have h1 : W.heap[w.heap.size]? = some (.cells #[.string (minS a b), .string (maxS a b), .int .i64 per] 137 (0, 0)) := by rw [hW]; exact heap_new_at rfl _
  have k0 : W.cell? ⟨w.heap.size, 0, none⟩ = some (.string (minS a b)) := cell_of_heap h1 0
  have k1 : W.cell? ⟨w.heap.size, 1, none⟩ = some (.string (maxS a b)) := cell_of_heap h1 1
  have k2 : W.cell? ⟨w.heap.size, 2, none⟩ = some (.int .i64 per) := cell_of_heap h1 2
  have HW := Lib.hid hW
  have H1 := Lib.hid h1
  have hmi := fun (w : World) => run_min a b 9 9 9 w
  have hma := fun (w : World) => run_max a b 9 9 9 w
  generalize minS a b = x at *
  generalize maxS a b = y at *
  clear hW h1
  go_enter Tryd.func82, Tryd.ntmps82
  go_wp2_with fail
  rw [← HW.out]
  (try simp only [Exit.inBlock, Exit.then])
  refine bodyPost_ret (results_cell_row rfl _ W w.heap.size 137 #[.string x, .string y, .int .i64 per] (0, 0) _ rfl H1.out Tryd.underlying137 rfl (by kernel_rfl)) rfl ?_
  exact ⟨rfl, HB.out⟩
end Go.Proofs.YtbhndnjlplibmaaDoor.rt
