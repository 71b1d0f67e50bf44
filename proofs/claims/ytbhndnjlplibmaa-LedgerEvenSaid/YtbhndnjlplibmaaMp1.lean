/- The map of sums by place, in memory: a list of places, each once, and what is at each. -/
import Derived.Test.YtbhndnjlplibmaaLg1
import Derived.DeepKeys4
import Derived.WideKeyEntry
import Derived.Maps.Range
namespace Go.Proofs.Ytbhndnjlplibmaa.lg
open Go.RowKit Go.MapKept
open Go.WideMaps (KeyLaw)
open Go.ChangeMaps (setBlock)

structure PlM where
  ent : Int
  acc : ByteArray
  cur : ByteArray
deriving DecidableEq
instance : Inhabited PlM := ⟨⟨0, ⟨#[]⟩, ⟨#[]⟩⟩⟩
def plV (p : PlM) : Value := .agg #[.int .i64 p.ent, .string p.acc, .string p.cur]
def plOk (p : PlM) : Prop := (-9223372036854775808 ≤ p.ent ∧ p.ent ≤ 9223372036854775807) ∧ p.acc.size ≤ maxLen ∧ p.cur.size ≤ maxLen
theorem plV_inj {p q : PlM} (h : plV p = plV q) : p = q := by
  unfold plV at h
  simp only [Value.agg.injEq, Array.mk.injEq, List.cons.injEq, Value.int.injEq, Value.string.injEq, and_true, true_and] at h
  cases p; cases q
  simp_all

theorem laidOutP : laidOutB Try.prog = true := by kernel_rfl
theorem plLaw : KeyLaw Try.prog 74 := deep_law_laid laidOutP (m := 2) (by omega) (of_decide_eq_true (by kernel_rfl)) (by kernel_rfl) (by kernel_rfl)
theorem typesP : Try.prog.types.size = 164 := by kernel_rfl
theorem kl_int (n : Nat) {a : Int} (h : -9223372036854775808 ≤ a ∧ a ≤ 9223372036854775807) : Try.prog.keyLits (n + 1) 3 [.int .i64 a] = some [.int .i64 a] := by
  unfold Program.keyLits
  rw [Try.underlying3]
  simp [Lit.wf, IntKind.min, IntKind.max, IntKind.signed, IntKind.bits, h.1, h.2]
theorem kl_str (n : Nat) {s : ByteArray} (h : s.size ≤ maxLen) : Try.prog.keyLits (n + 1) 9 [.string s] = some [.string s.data.toList] := by
  unfold Program.keyLits
  rw [Try.underlying9]
  simp [h]
theorem plFormed (p : PlM) : (plV p).formed Try.prog 74 = true := by kernel_rfl
theorem plKt : Try.prog.keyType 74 = true := by kernel_rfl
theorem cellsPl : Try.prog.cellsOf 74 = 3 := by kernel_rfl
theorem cellsI1 : Try.prog.cellsOf 3 = 1 := by kernel_rfl
theorem cellsS1 : Try.prog.cellsOf 9 = 1 := by kernel_rfl
theorem plLits {p : PlM} (h : plOk p) (n : Nat) : Try.prog.keyLits (n + 1 + 1) 74 [.int .i64 p.ent, .string p.acc, .string p.cur] = some [.int .i64 p.ent, .string p.acc.data.toList, .string p.cur.data.toList] := by
  obtain ⟨h1, h3, h4⟩ := h
  unfold Program.keyLits
  rw [Try.underlying74]
  simp [cellsPl, cellsI1, cellsS1, kl_int n h1, kl_str n h3, kl_str n h4]
theorem plKey {p : PlM} (h : plOk p) : ∃ l, keyOf Try.prog 74 (plV p) = some l := by
  have e : Try.prog.types.size + 1 = (164 - 1) + 1 + 1 := by rw [typesP]
  unfold keyOf
  rw [Try.underlying74]
  simp only [plKt, plFormed, Bool.and_self, if_true, e]
  have hc : (plV p).cells.toList = [.int .i64 p.ent, .string p.acc, .string p.cur] := rfl
  rw [hc, plLits h]
  exact ⟨_, rfl⟩

/-- what is at a place; 0: nothing -/
def tabGet (T : List (PlM × Int)) (p : PlM) : Int := match T.find? (fun q => q.1 = p) with
  | some q => q.2
  | none => 0
def tabPut (T : List (PlM × Int)) (p : PlM) (v : Int) : List (PlM × Int) := if T.any (fun q => q.1 = p) = true then T.map (fun q => if q.1 = p then (p, v) else q) else T ++ [(p, v)]
theorem tab_none {T : List (PlM × Int)} {p : PlM} (h : ∀ q ∈ T, q.1 ≠ p) (v : Int) : tabGet T p = 0 ∧ tabPut T p v = T ++ [(p, v)] := by
  constructor
  · unfold tabGet
    rw [List.find?_eq_none.2 (fun q hq => by simpa using h q hq)]
  · unfold tabPut
    rw [if_neg]
    intro h'
    obtain ⟨q, hq, e⟩ := List.any_eq_true.1 h'
    exact h q hq (of_decide_eq_true e)
theorem tab_some : ∀ {T : List (PlM × Int)} {p : PlM} {j : Nat} {x : Int}, (T.map (·.1)).Nodup → T[j]? = some (p, x) → ∀ v, tabGet T p = x ∧ tabPut T p v = T.set j (p, v)
  | [], _, _, _, _, h, _ => by simp at h
  | (q, y) :: r, p, 0, x, hn, h, v => by
    simp only [List.getElem?_cons_zero, Option.some.injEq, Prod.mk.injEq] at h
    obtain ⟨rfl, rfl⟩ := h
    simp only [List.map_cons, List.nodup_cons] at hn
    have hne : ∀ z ∈ r, z.1 ≠ q := fun z hz e => hn.1 (e ▸ List.mem_map.2 ⟨z, hz, rfl⟩)
    constructor
    · simp [tabGet]
    · unfold tabPut
      rw [if_pos (by simp)]
      simp only [List.map_cons, if_true, List.set_cons_zero, List.cons.injEq, true_and]
      conv => rhs; rw [← List.map_id r]
      exact List.map_congr_left fun z hz => by rw [if_neg (hne z hz)]; rfl
  | (q, y) :: r, p, j + 1, x, hn, h, v => by
    simp only [List.getElem?_cons_succ] at h
    simp only [List.map_cons, List.nodup_cons] at hn
    have hqp : q ≠ p := fun e => hn.1 (e ▸ List.mem_map.2 ⟨_, List.mem_of_getElem? h, rfl⟩)
    obtain ⟨i1, i2⟩ := tab_some hn.2 h v
    constructor
    · unfold tabGet at i1 ⊢
      rw [List.find?_cons_of_neg (by simpa using hqp)]
      exact i1
    · have hany : r.any (fun z => z.1 = p) = true := List.any_eq_true.2 ⟨_, List.mem_of_getElem? h, by simp⟩
      unfold tabPut at i2 ⊢
      rw [if_pos hany] at i2
      rw [if_pos (by simp [hany]), List.map_cons, if_neg hqp, List.set_cons_succ, i2]

/-- block b is the map T -/
structure MapT (w : World) (b : Nat) (T : List (PlM × Int)) : Prop where
  ex : ∃ es clock, w.heap[b]? = some (.map es clock) ∧ es.toList.map (fun e => (e.key, e.val)) = T.map (fun p => (plV p.1, Value.int .i64 p.2)) ∧ Stamped es clock
  ok : ∀ p ∈ T, plOk p.1
theorem MapT.later {w w' : World} {b : Nat} {T : List (PlM × Int)} (h : MapT w b T) (hk : w'.heap[b]? = w.heap[b]?) : MapT w' b T := by
  obtain ⟨es, clock, h1, h2⟩ := h.ex
  exact ⟨⟨es, clock, hk.trans h1, h2⟩, h.ok⟩
theorem MapT.lt {w : World} {b : Nat} {T : List (PlM × Int)} (h : MapT w b T) : b < w.heap.size := by
  obtain ⟨es, clock, h1, _⟩ := h.ex
  exact lt_of_heap h1
theorem map_made (w : World) : MapT (w.alloc (.map #[] 0)) w.heap.size [] := ⟨⟨#[], 0, heap_new_at rfl _, rfl, by simp [Stamped]⟩, fun p hp => by cases hp⟩
theorem keys_nodup {es : Array MapEntry} {T : List (PlM × Int)} {clock : Nat} (he : es.toList.map (fun e => (e.key, e.val)) = T.map (fun p => (plV p.1, Value.int .i64 p.2))) (hs : Stamped es clock) : (T.map (·.1)).Nodup := by
  have h1 : (T.map fun p => plV p.1) = es.toList.map (·.key) := by
    have := congrArg (List.map Prod.fst) he
    simpa [List.map_map, Function.comp_def] using this.symm
  have h2 : (T.map fun p => plV p.1).Nodup := h1 ▸ hs.2.2
  have h3 : ((T.map (·.1)).map plV).Nodup := by rw [List.map_map]; exact h2
  exact (List.pairwise_map.1 h3).imp (fun h e => h (congrArg _ e))
theorem MapT.nodup {w : World} {b : Nat} {T : List (PlM × Int)} (h : MapT w b T) : (T.map (·.1)).Nodup := by
  obtain ⟨es, clock, _, h2, h3⟩ := h.ex
  exact keys_nodup h2 h3
theorem tab_len {es : Array MapEntry} {T : List (PlM × Int)} (he : es.toList.map (fun e => (e.key, e.val)) = T.map (fun p => (plV p.1, Value.int .i64 p.2))) : es.size = T.length := by
  have := congrArg List.length he
  simpa using this
/-- an entry, found by its key, or none -/
theorem tab_find {es : Array MapEntry} {T : List (PlM × Int)} (he : es.toList.map (fun e => (e.key, e.val)) = T.map (fun p => (plV p.1, Value.int .i64 p.2))) {j : Nat} {e : MapEntry} {p : PlM} (h : es.toList[j]? = some e) (hk : e.key = plV p) : ∃ x, T[j]? = some (p, x) ∧ e.val = .int .i64 x := by
  have h1 : (es.toList.map (fun e => (e.key, e.val)))[j]? = some (e.key, e.val) := by rw [List.getElem?_map, h]; rfl
  rw [he, List.getElem?_map] at h1
  cases ht : T[j]? with
  | none => rw [ht] at h1; cases h1
  | some q =>
    rw [ht] at h1
    simp only [Option.map_some, Option.some.injEq, Prod.mk.injEq] at h1
    obtain ⟨a, b⟩ := h1
    have := plV_inj (a.trans hk)
    obtain ⟨q1, q2⟩ := q
    simp only at this b
    subst this
    exact ⟨q2, rfl, b.symm⟩
theorem tab_absent {es : Array MapEntry} {T : List (PlM × Int)} (he : es.toList.map (fun e => (e.key, e.val)) = T.map (fun p => (plV p.1, Value.int .i64 p.2))) {p : PlM} (h : ∀ e ∈ es.toList, e.key ≠ plV p) : ∀ q ∈ T, q.1 ≠ p := by
  intro q hq e
  have : (plV q.1, Value.int .i64 q.2) ∈ es.toList.map (fun e => (e.key, e.val)) := by rw [he]; exact List.mem_map.2 ⟨q, hq, rfl⟩
  obtain ⟨x, hx, hxe⟩ := List.mem_map.1 this
  simp only [Prod.mk.injEq] at hxe
  exact h x hx (by rw [hxe.1, e])
theorem zeroI (w : World) : (zeroValue 3).run Try.prog w = .ok (.int .i64 0) w := by kernel_rfl
theorem entries_ok {w : World} {b : Nat} {T : List (PlM × Int)} (h : MapT w b T) {es : Array MapEntry} (he : es.toList.map (fun e => (e.key, e.val)) = T.map (fun p => (plV p.1, Value.int .i64 p.2))) : ∀ e ∈ es.toList, ∃ l, keyOf Try.prog 74 e.key = some l := fun e hm => by
  have : (e.key, e.val) ∈ T.map (fun p => (plV p.1, Value.int .i64 p.2)) := by rw [← he]; exact List.mem_map.2 ⟨e, hm, rfl⟩
  obtain ⟨q, hq, hqe⟩ := List.mem_map.1 this
  simp only [Prod.mk.injEq] at hqe
  rw [← hqe.1]
  exact plKey (h.ok q hq)
theorem lookup_run {w : World} {b : Nat} {T : List (PlM × Int)} (h : MapT w b T) {p : PlM} (hp : plOk p) :
    (Instr.lookup 71 (.map (some b)) (plV p) false).run Try.prog w = .ok (.int .i64 (tabGet T p)) w := by
  obtain ⟨es, clock, hb, he, hs⟩ := h.ex
  obtain ⟨kl, hkey⟩ := plKey hp
  rcases plLaw.find w hkey es.toList (entries_ok h he) with ⟨h1, h2⟩ | ⟨j, e0, h1, h2, h3⟩
  · rw [(tab_none (tab_absent he h2) 0).1]
    simp [Instr.lookup, run_underlying Try.underlying71, MapKept.run_getObj_map hb, plLaw.check w _ hkey, h1, zeroI, Result.andThen]
  · obtain ⟨x, hx, hv⟩ := tab_find he h2 h3
    rw [(tab_some (keys_nodup he hs) hx 0).1]
    simp [Instr.lookup, run_underlying Try.underlying71, MapKept.run_getObj_map hb, plLaw.check w _ hkey, h1, hv, Result.andThen]
/-- the entry, and the store behind it -/
theorem entry_run {w : World} {b : Nat} {T : List (PlM × Int)} (h : MapT w b T) {p : PlM} (hp : plOk p) :
    ∃ (st : Int) (o1 : Obj), (∀ w3 : World, w3.heap[b]? = some o1 → MapT w3 b (tabPut T p (tabGet T p))) ∧ (Instr.mapEntry 71 (.map (some b)) (plV p)).run Try.prog w = .ok (.tuple #[.int .i64 (tabGet T p), .int .i64 st]) (setBlock w b o1) ∧
      ∀ (w2 : World) (v : Int), w2.heap[b]? = some o1 → ∃ o2, (Instr.entryStore 71 (.map (some b)) (.int .i64 st) (.int .i64 v)).run Try.prog w2 = .ok () (setBlock w2 b o2) ∧
        ∀ w3 : World, w3.heap[b]? = some o2 → MapT w3 b (tabPut T p v) := by
  obtain ⟨es, clock, hb, he, hs⟩ := h.ex
  obtain ⟨kl, hkey⟩ := plKey hp
  have hn := keys_nodup he hs
  rcases plLaw.find w hkey es.toList (entries_ok h he) with ⟨h1, h2⟩ | ⟨j, e0, h1, h2, h3⟩
  · have ha := tab_absent he h2
    have hput : ∀ (v : Int) (w3 : World), w3.heap[b]? = some (.map (es.push ⟨plV p, .int .i64 v, clock⟩) (clock + 1)) → MapT w3 b (tabPut T p v) := fun v w3 hw3 => by
      refine ⟨⟨_, _, hw3, ?_, stamped_push hs h2⟩, fun q hq => ?_⟩
      · rw [(tab_none ha v).2, Array.toList_push, List.map_append, he, List.map_append]
        rfl
      · rw [(tab_none ha v).2] at hq
        rcases List.mem_append.1 hq with hq | hq
        · exact h.ok q hq
        · rw [List.mem_singleton.1 hq]; exact hp
    refine ⟨(clock : Int), .map (es.push ⟨plV p, .int .i64 0, clock⟩) (clock + 1), fun w3 hw3 => by rw [(tab_none ha 0).1]; exact hput 0 w3 hw3, ?_, fun w2 v hw2 => ⟨.map (es.push ⟨plV p, .int .i64 v, clock⟩) (clock + 1), ?_, fun w3 hw3 => hput v w3 hw3⟩⟩
    · rw [(tab_none ha 0).1]
      simp [Instr.mapEntry, run_underlying Try.underlying71, MapKept.run_getObj_map hb, plLaw.check w false hkey, h1, zeroI, MapKept.run_setObj_map _ hb, Result.andThen, setBlock, goInt]
    · have hidx : (es.push ⟨plV p, .int .i64 0, clock⟩).findIdx? (fun e => ((e.born : Nat) : Int) == ((clock : Nat) : Int)) = some es.size := by
        rw [WideElems.findIdx_arr]
        refine WideElems.findIdx_born (l := (es.push ⟨plV p, .int .i64 0, clock⟩).toList) (j := es.size) (e0 := ⟨plV p, .int .i64 0, clock⟩) ?_ (by simp)
        simp only [Array.toList_push, List.map_append, List.map_cons, List.map_nil]
        refine List.nodup_append.2 ⟨hs.2.1, by simp, fun a ha c hc e1 => ?_⟩
        simp only [List.mem_singleton] at hc
        obtain ⟨x, hx, rfl⟩ := List.mem_map.1 ha
        have := hs.1 x hx
        omega
      have hmod : (es.push ⟨plV p, .int .i64 0, clock⟩).modify es.size (fun e => { e with val := .int .i64 v }) = es.push ⟨plV p, .int .i64 v, clock⟩ := by
        apply Array.ext'
        rw [Array.toList_modify, Array.toList_push, Array.toList_push, ← Array.length_toList, WideElems.modify_last]
      simp [Instr.entryStore, MapKept.run_getObj_map hw2, asInt, asIntOf, hidx, hmod, MapKept.run_setObj_map _ hw2, Result.andThen, setBlock]
  · obtain ⟨x, hx, hv⟩ := tab_find he h2 h3
    have hj : es[j]? = some e0 := by simpa using h2
    have hsame : es.modify j (fun e => { e with key := plV p }) = es := by
      apply Array.ext'
      rw [Array.toList_modify, Go.ChangeMaps.modify_eq_set _ _ _ _ h2]
      have : ({ e0 with key := plV p } : MapEntry) = e0 := by rw [← h3]
      rw [this]
      exact WideElems.set_self _ _ _ h2
    refine ⟨(e0.born : Int), .map es clock, fun w3 hw3 => ?_, ?_, fun w2 v hw2 => ⟨.map (es.modify j (fun e => { e with val := .int .i64 v })) clock, ?_, fun w3 hw3 => ?_⟩⟩
    · rw [(tab_some hn hx 0).1, (tab_some hn hx x).2, WideElems.set_self _ _ _ hx]
      exact h.later (hw3.trans hb.symm)
    · rw [(tab_some hn hx 0).1]
      simp [Instr.mapEntry, run_underlying Try.underlying71, MapKept.run_getObj_map hb, plLaw.check w false hkey, h1, hj, h3, hv, plLaw.stays w hkey, hsame, MapKept.run_setObj_map _ hb, Result.andThen, setBlock, goInt]
    · have hidx : es.findIdx? (fun e => ((e.born : Nat) : Int) == ((e0.born : Nat) : Int)) = some j := by
        rw [WideElems.findIdx_arr]
        exact WideElems.findIdx_born hs.2.1 h2
      simp [Instr.entryStore, MapKept.run_getObj_map hw2, asInt, asIntOf, hidx, MapKept.run_setObj_map _ hw2, Result.andThen, setBlock]
    · have hml : (es.modify j (fun e => { e with val := .int .i64 v })).toList = es.toList.set j { e0 with val := .int .i64 v } := by
        rw [Array.toList_modify, Go.ChangeMaps.modify_eq_set _ _ _ _ h2]
      refine ⟨⟨_, _, hw3, ?_, ?_, ?_, ?_⟩, fun q hq => ?_⟩
      · rw [hml, List.map_set, he, (tab_some hn hx v).2, List.map_set, h3]
      · rw [hml]
        intro y hy
        rcases List.mem_or_eq_of_mem_set hy with hy | rfl
        · exact hs.1 y hy
        · exact hs.1 e0 (List.mem_of_getElem? h2)
      · rw [hml, List.map_set]
        have : (es.toList.map (·.born)).set j e0.born = es.toList.map (·.born) := WideElems.set_self _ _ _ (by rw [List.getElem?_map, h2]; rfl)
        rw [this]; exact hs.2.1
      · rw [hml, List.map_set]
        have : (es.toList.map (·.key)).set j e0.key = es.toList.map (·.key) := WideElems.set_self _ _ _ (by rw [List.getElem?_map, h2]; rfl)
        rw [this]; exact hs.2.2
      · rw [(tab_some hn hx v).2] at hq
        rcases List.mem_or_eq_of_mem_set hq with hq | rfl
        · exact h.ok q hq
        · exact hp
theorem get_put (T : List (PlM × Int)) (p : PlM) (v : Int) : tabGet (tabPut T p v) p = v := by
  unfold tabPut
  split
  · rename_i h
    induction T with
    | nil => simp at h
    | cons q r ih =>
      unfold tabGet at ih ⊢
      rw [List.map_cons]
      by_cases hq : q.1 = p
      · rw [if_pos hq, List.find?_cons_of_pos (by simp)]
      · rw [if_neg hq, List.find?_cons_of_neg (by simpa using hq)]
        exact ih (by simpa [hq] using h)
  · rename_i h
    unfold tabGet
    rw [List.find?_append, List.find?_eq_none.2 (fun q hq => by simp only [List.any_eq_true, not_exists, not_and] at h; exact fun e => h q hq e)]
    simp
theorem get_put_ne (T : List (PlM × Int)) {p q : PlM} (v : Int) (h : q ≠ p) : tabGet (tabPut T p v) q = tabGet T q := by
  unfold tabPut
  split
  · rename_i h'
    clear h'
    induction T with
    | nil => rfl
    | cons z r ih =>
      unfold tabGet at ih ⊢
      rw [List.map_cons]
      by_cases hz : z.1 = p
      · rw [if_pos hz, List.find?_cons_of_neg (by simpa using fun e : p = q => h e.symm), List.find?_cons_of_neg (by rw [hz]; simpa using fun e : p = q => h e.symm)]
        exact ih
      · rw [if_neg hz]
        by_cases hq : z.1 = q
        · rw [List.find?_cons_of_pos (by simpa using hq), List.find?_cons_of_pos (by simpa using hq)]
        · rw [List.find?_cons_of_neg (by simpa using hq), List.find?_cons_of_neg (by simpa using hq)]
          exact ih
  · unfold tabGet
    rw [List.find?_append]
    cases hf : T.find? (fun z => z.1 = q) with
    | some z => rfl
    | none =>
      simp only [Option.none_or]
      rw [List.find?_cons_of_neg (by simpa using fun e : p = q => h e.symm)]
      rfl
end Go.Proofs.Ytbhndnjlplibmaa.lg
