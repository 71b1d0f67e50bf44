/- A log in memory: its stream grows, its records grow. -/
import Derived.Test.YtldpflijgbcbhaaLgI
import Derived.Test.YtldpflijgbcbhaaFnum
import Derived.Deep.AppendSrc
import Derived.Lib.AppendZeros
import Derived.Laws.OwnMore
namespace Go.Proofs.Ytldpflijgbcbhaa.lg
open Go.RowKit

section
variable {w w2 : World} {T : Nat → Prop} {p d fr mn : Nat} {L : LogS} {rv sv : Value} {rs : List Value}
theorem LogIs.ne (h : LogIs w T p d fr mn L rv sv rs) : ∀ g, rv.ownBlock = some g → sv.ownBlock ≠ some g := by
  intro g hg e
  obtain ⟨c1, h1⟩ := row_block h.recs hg
  obtain ⟨c2, h2⟩ := row_block h.stream e
  exact type_ne h1 h2 (by decide) rfl
theorem LogIs.one (h : LogIs w T p d fr mn L rv sv rs) : ∀ v ∈ rs, v.oneCell' = true := by
  intro v hv
  obtain ⟨i, hi, rfl⟩ := List.getElem_of_mem hv
  have hl : rs.length = L.recs.length := by have := h.recs.1; omega
  obtain ⟨x, hx, hr⟩ := h.rblk i (L.recs[i]'(by omega)) (by simp)
  rw [List.getElem?_eq_getElem hi] at hx
  injection hx with hx
  rw [hx]
  rcases hr.1.2 with ⟨hv, _⟩ | ⟨g, cap, cur, hv, _⟩ <;> rw [hv] <;> rfl
/-- others make blocks: they may be the log's from now on -/
theorem LogIs.grow (h : LogIs w T p d fr mn L rv sv rs) (hb : Below w.heap.size w w2) : LogIs w2 (Grow T w w2) p d fr mn L rv sv rs := by
  have h' := h.later (w' := w2) (fun k hk => hb.block k (h.dom k hk)) hb.size
  refine ⟨h'.self, Or.inl h'.sd, h'.recs, fun g hg => ⟨Or.inl (h'.rsb g hg).1, (h'.rsb g hg).2⟩, fun i b hi => ?_, h'.stream, fun g hg => ⟨Or.inl (h'.ssb g hg).1, (h'.ssb g hg).2⟩, fun k hk => ?_⟩
  · obtain ⟨x, hx, hr⟩ := h'.rblk i b hi
    exact ⟨x, hx, hr.1, fun g hg => ⟨Or.inl (hr.2 g hg).1, (hr.2 g hg).2⟩⟩
  · rcases hk with hk | ⟨_, hk⟩
    · exact h'.dom k hk
    · exact hk
theorem LogIs.only_below (_ : LogIs w T p d fr mn L rv sv rs) (hb : Below w.heap.size w w2) : Only T w w2 := Only.of_below hb
/-- the stream is another one -/
theorem LogIs.stream_end (h : LogIs w T p d fr mn L rv sv rs) {sv2 : Value} {s' : List UInt8} (hm : Moved w w2 sv sv2) (hown : w2.ownsRow 0 5 1 sv2 s'.length (s'.map byteV)) :
    w2.cell? ⟨p, 4, none⟩ = some sv ∧ w2.frozen? ⟨p, 4, none⟩ = false ∧ w2.cell? ⟨p, 3, none⟩ = some rv ∧ Only T w (w2.setCell ⟨p, 4, none⟩ sv2) ∧ LogIs (w2.setCell ⟨p, 4, none⟩ sv2) (Grow T w (w2.setCell ⟨p, 4, none⟩ sv2)) p d fr mn { L with stream := s' } rv sv2 rs := by
  have hpl : p < w.heap.size := h.dom p h.sd
  have hsp : sv.ownBlock ≠ some p := fun e => (h.ssb p e).2 rfl
  have hself2 : OwnL w2 p d fr mn rv sv L.epoch L.safe L.dirty L.bare L.broken := h.self.of_blk (hm.only.block p hpl hsp)
  have hsz : w.heap.size ≤ w2.heap.size := hm.only.size
  have hk : ∀ k, T k → k ≠ p → sv.ownBlock ≠ some k → (w2.setCell ⟨p, 4, none⟩ sv2).heap[k]? = w.heap[k]? := fun k hk h1 h2 => by
    rw [setCell_heap_ne h1, hm.only.block k (h.dom k hk) h2]
  have hs2 : ∀ g, sv2.ownBlock = some g → (T g ∨ (w.heap.size ≤ g ∧ g < w2.heap.size)) ∧ g ≠ p := fun g hg => by
    rcases hm.blk with e | ⟨g', e, hg'⟩
    · rw [e] at hg; exact ⟨Or.inl (h.ssb g hg).1, (h.ssb g hg).2⟩
    · have hgg : g = g' := by rw [hg] at e; injection e
      obtain ⟨_, hc⟩ := row_block hown hg
      exact ⟨Or.inr ⟨by omega, lt_of_heap hc⟩, by omega⟩
  have hgs : (w2.setCell ⟨p, 4, none⟩ sv2).heap.size = w2.heap.size := by simp
  have honly : Only T w (w2.setCell ⟨p, 4, none⟩ sv2) := (hm.only.mono (fun k _ hk => (h.ssb k hk).1)).setCell (p := ⟨p, 4, none⟩) h.sd _
  refine ⟨hself2.c4, hself2.free 4, hself2.c3, honly, hself2.set4 sv2, Or.inl h.sd, ownsRow_later h.recs (fun g hg => hk g (h.rsb g hg).1 (h.rsb g hg).2 (h.ne g hg)), fun g hg => ⟨Or.inl (h.rsb g hg).1, (h.rsb g hg).2⟩, fun i b hb => ?_, ownsRow_later hown (fun g hg => setCell_heap_ne (hs2 g hg).2), fun g hg => ⟨?_, (hs2 g hg).2⟩, fun k hk' => ?_⟩
  · obtain ⟨x, hx, hr⟩ := h.rblk i b hb
    refine ⟨x, hx, hr.later (fun g hg => hk g hg.1 hg.2.1 hg.2.2.2) (fun g hg => ⟨Or.inl hg.1, hg.2.1, hg.2.2.1, fun e => ?_⟩)⟩
    rcases hm.blk with e' | ⟨g', e', hg'⟩
    · rw [e'] at e; exact hg.2.2.2 e
    · rw [e] at e'; injection e' with e'; have := h.dom g hg.1; omega
  · rcases (hs2 g hg).1 with h1 | h1
    · exact Or.inl h1
    · exact Or.inr ⟨h1.1, by rw [hgs]; exact h1.2⟩
  · rw [hgs]
    rcases hk' with hk' | ⟨_, hk'⟩
    · exact Nat.lt_of_lt_of_le (h.dom k hk') hsz
    · rwa [hgs] at hk'
/-- a record more -/
theorem LogIs.recs_end (h : LogIs w T p d fr mn L rv sv rs) {rv2 x : Value} {b : List UInt8} (hx : RecAt w (fun k => T k ∧ k ≠ p ∧ rv.ownBlock ≠ some k ∧ sv.ownBlock ≠ some k) x b) (hm : Moved w w2 rv rv2) (hown : w2.ownsRow 0 23 1 rv2 (L.recs.length + 1) (rs ++ [x])) :
    w2.cell? ⟨p, 3, none⟩ = some rv ∧ w2.frozen? ⟨p, 3, none⟩ = false ∧ Only T w (w2.setCell ⟨p, 3, none⟩ rv2) ∧ LogIs (w2.setCell ⟨p, 3, none⟩ rv2) (Grow T w (w2.setCell ⟨p, 3, none⟩ rv2)) p d fr mn { L with recs := L.recs ++ [b] } rv2 sv (rs ++ [x]) := by
  have hpl : p < w.heap.size := h.dom p h.sd
  have hsp : rv.ownBlock ≠ some p := fun e => (h.rsb p e).2 rfl
  have hself2 : OwnL w2 p d fr mn rv sv L.epoch L.safe L.dirty L.bare L.broken := h.self.of_blk (hm.only.block p hpl hsp)
  have hsz : w.heap.size ≤ w2.heap.size := hm.only.size
  have hk : ∀ k, T k → k ≠ p → rv.ownBlock ≠ some k → (w2.setCell ⟨p, 3, none⟩ rv2).heap[k]? = w.heap[k]? := fun k hk h1 h2 => by
    rw [setCell_heap_ne h1, hm.only.block k (h.dom k hk) h2]
  have hs2 : ∀ g, rv2.ownBlock = some g → (T g ∨ (w.heap.size ≤ g ∧ g < w2.heap.size)) ∧ g ≠ p := fun g hg => by
    rcases hm.blk with e | ⟨g', e, hg'⟩
    · rw [e] at hg; exact ⟨Or.inl (h.rsb g hg).1, (h.rsb g hg).2⟩
    · have hgg : g = g' := by rw [hg] at e; injection e
      obtain ⟨_, hc⟩ := row_block hown hg
      exact ⟨Or.inr ⟨by omega, lt_of_heap hc⟩, by omega⟩
  have hgs : (w2.setCell ⟨p, 3, none⟩ rv2).heap.size = w2.heap.size := by simp
  have honly : Only T w (w2.setCell ⟨p, 3, none⟩ rv2) := (hm.only.mono (fun k _ hk => (h.rsb k hk).1)).setCell (p := ⟨p, 3, none⟩) h.sd _
  have hrl : rs.length = L.recs.length := by have := h.recs.1; omega
  have hrec : ∀ (y : Value) (c : List UInt8), RecAt w (fun k => T k ∧ k ≠ p ∧ rv.ownBlock ≠ some k ∧ sv.ownBlock ≠ some k) y c → RecAt (w2.setCell ⟨p, 3, none⟩ rv2) (fun k => Grow T w (w2.setCell ⟨p, 3, none⟩ rv2) k ∧ k ≠ p ∧ rv2.ownBlock ≠ some k ∧ sv.ownBlock ≠ some k) y c := fun y c hy =>
    hy.later (fun g hg => hk g hg.1 hg.2.1 hg.2.2.1) (fun g hg => ⟨Or.inl hg.1, hg.2.1, fun e => by
      rcases hm.blk with e' | ⟨g', e', hg'⟩
      · rw [e'] at e; exact hg.2.2.1 e
      · rw [e] at e'; injection e' with e'; have := h.dom g hg.1; omega, hg.2.2.2⟩)
  refine ⟨hself2.c3, hself2.free 3, honly, hself2.set3 rv2, Or.inl h.sd, ?_, fun g hg => ⟨?_, (hs2 g hg).2⟩, fun i c hc => ?_, ownsRow_later h.stream (fun g hg => hk g (h.ssb g hg).1 (h.ssb g hg).2 (fun e => h.ne g e hg)), fun g hg => ⟨Or.inl (h.ssb g hg).1, (h.ssb g hg).2⟩, fun k hk' => ?_⟩
  · show World.ownsRow _ _ _ _ _ (L.recs ++ [b]).length _
    rw [List.length_append]
    exact ownsRow_later hown (fun g hg => setCell_heap_ne (hs2 g hg).2)
  · rcases (hs2 g hg).1 with h1 | h1
    · exact Or.inl h1
    · exact Or.inr ⟨h1.1, by rw [hgs]; exact h1.2⟩
  · have hc' : (L.recs ++ [b])[i]? = some c := hc
    by_cases hi : i < L.recs.length
    · rw [List.getElem?_append_left hi] at hc'
      obtain ⟨y, hy, hr⟩ := h.rblk i c hc'
      exact ⟨y, by rw [List.getElem?_append_left (by omega)]; exact hy, hrec y c hr⟩
    · rw [List.getElem?_append_right (by omega)] at hc'
      have hi2 : i = L.recs.length := by
        obtain ⟨hlt, _⟩ := List.getElem?_eq_some_iff.1 hc'
        simp at hlt; omega
      subst hi2
      simp at hc'
      subst hc'
      exact ⟨x, by rw [List.getElem?_append_right (by omega), hrl, Nat.sub_self]; rfl, hrec x b hx⟩
  · rw [hgs]
    rcases hk' with hk' | ⟨_, hk'⟩
    · exact Nat.lt_of_lt_of_le (h.dom k hk') hsz
    · rwa [hgs] at hk'
end
end Go.Proofs.Ytldpflijgbcbhaa.lg

/- Bytes, and records, appended to rows of the call's own. -/
namespace Go.Proofs.Ytldpflijgbcbhaa.lg
open Go.RowKit

/-- an append whose run is known, at a step of a region that draws its order -/
theorem step_append_run {P : Program} {w : World} {ops : Array Oper} {o : Oper} {a : Act} {K : Act → World → Prop} {Q : Exit → Act → World → Prop} {E : Prop} (hgd : o.guard = none) (s x : Operand) (t tn : TypeId)
    (ho : o.op = .call { callee := .builtin .append, args := #[s, x], argTypes := #[t, tn] }) (vs vx : Value) (hs : a.eval s = vs) (hx : a.eval x = vx)
    (v' : Value) (w' : World) (hr : (Builtin.append_ #[t, tn] o.type #[vs, vx]).run P w = .ok v' w') (h : K (a.put o.dst v') w') :
    if Region.wanted o (yielded ops a.tmps) = true then Oper.wp P o a w K Q else E := by
  have hw : Region.wanted o (yielded ops a.tmps) = true := by simp [Region.wanted, hgd]
  rw [if_pos hw]
  exact Lib.wp_append_run w s x t tn ho vs vx hs hx v' w' hr h
theorem infoRow : (Try.prog.info? 23).map (fun i => (i.zero, i.size, i.bytes)) = some (some (.slice none 0 0), 1, 24) := by kernel_rfl
theorem byteV_one' (l : List UInt8) : ∀ u ∈ l.map byteV, u.oneCell' = true := fun u hu => by
  obtain ⟨x, _, rfl⟩ := List.mem_map.1 hu; rfl
/-- bytes appended to a row of the call's own -/
theorem run_append_bytes {w : World} {base : Nat} {v : Value} {n : Nat} {xs : List Value} (hown : w.ownsRow base 5 1 v n xs) {vx : Value} {l : List UInt8} (hl : BytesW w vx l) (hn : n + l.length ≤ 4000000) (hbase : base ≤ w.heap.size) :
    ∀ ty, ∃ v' w', (Builtin.append_ #[23, 23] ty #[v, vx]).run Try.prog w = .ok v' w' ∧ w'.ownsRow base 5 1 v' (n + l.length) (xs ++ l.map byteV) ∧ w.grownBy w' v.ownBlock ∧ (v'.ownBlock = v.ownBlock ∨ v'.ownBlock = some w.heap.size) := by
  intro ty
  obtain ⟨i0, hi0, hz0, hz1, hz2⟩ := info_parts infoU8
  obtain ⟨so, sc, rfl, hc⟩ := hl
  have some_case : ∀ ad : Addr, (∀ j u, (l.map byteV)[j]? = some u → w.cell? (ad.add j) = some u) → ∃ v' w', (Builtin.append_ #[23, 23] ty #[v, .slice (some ad) l.length sc]).run Try.prog w = .ok v' w' ∧ w'.ownsRow base 5 1 v' (n + l.length) (xs ++ l.map byteV) ∧ w.grownBy w' v.ownBlock ∧ (v'.ownBlock = v.ownBlock ∨ v'.ownBlock = some w.heap.size) := fun ad hc => by
    obtain ⟨v', w', hr, h2, h3, _, h5⟩ := run_append_own_at (P := Try.prog) w base 23 ty 5 i0 (.int .u8 0) 1 1 Try.underlying23 hi0 hz0 hz1 hz2 rfl (by decide) v n xs hown ad l.length sc (l.map byteV) (by simp) hc (byteV_one' l) (by unfold maxLen; omega) (by omega) hbase
    exact ⟨v', w', hr, h2, h3, h5⟩
  rcases Nat.eq_zero_or_pos l.length with h0 | h0
  · obtain rfl := List.length_eq_zero_iff.1 h0
    cases so with
    | some ad => exact some_case ad (fun j u h => by simp at h)
    | none =>
      refine ⟨v, w, ?_, by simpa using hown, ⟨rfl, rfl, rfl, Nat.le_refl _, fun _ _ _ => rfl⟩, Or.inl rfl⟩
      rcases hown.2 with ⟨rfl, hn0⟩ | ⟨g, cap, cur, rfl, hg, hh, hcap, _⟩
      · simp [Builtin.append_, run_underlying Try.underlying23, sizeOf, typeInfo, hi0, Builtin.lenOf, Builtin.firstCells]
      · have := run_append_room_src (P := Try.prog) (w := w) 23 23 ty 5 i0 Try.underlying23 hi0 g 0 n cap _ 0 [] (Src.ofNil w Try.underlying23 sc) (by omega) (fun j hj => by cases hj) (fun j hj => by cases hj)
        simpa [World.setCells] using this
  · obtain ⟨b, o, rfl, _, hcc⟩ := hc h0
    exact some_case _ (fun j u hj => by rw [addr_add]; exact hcc j u hj)
/-- a record appended to a row of the call's own -/
theorem run_append_rec {w : World} {base : Nat} {v : Value} {n : Nat} {xs : List Value} (hown : w.ownsRow base 23 1 v n xs) {g : Nat} {x : Value} (hg : w.cell? ⟨g, 0, none⟩ = some x) (hx : x.oneCell' = true) (hn : n ≤ 4000000) (hbase : base ≤ w.heap.size) :
    ∀ ty, ∃ v' w', (Builtin.append_ #[56, 56] ty #[v, .slice (some ⟨g, 0, none⟩) 1 1]).run Try.prog w = .ok v' w' ∧ w'.ownsRow base 23 1 v' (n + 1) (xs ++ [x]) ∧ w.grownBy w' v.ownBlock ∧ (v'.ownBlock = v.ownBlock ∨ v'.ownBlock = some w.heap.size) := by
  intro ty
  obtain ⟨i0, hi0, hz0, hz1, hz2⟩ := info_parts infoRow
  obtain ⟨v', w', hr, h2, h3, _, h5⟩ := run_append_own_at (P := Try.prog) w base 56 ty 23 i0 (.slice none 0 0) 1 24 Try.underlying56 hi0 hz0 hz1 hz2 rfl (by decide) v n xs hown ⟨g, 0, none⟩ 1 1 [x] (by simp) (fun j u hj => by
    have hj0 : j = 0 := by have := (List.getElem?_eq_some_iff.1 hj).1; simp at this; exact this
    subst hj0
    simp only [List.getElem?_cons_zero, Option.some.injEq] at hj
    subst hj
    rw [addr_add]; exact hg) (fun u hu => by rw [List.mem_singleton.1 hu]; exact hx) (by unfold maxLen; omega) (by omega) hbase
  exact ⟨v', w', hr, h2, h3, h5⟩
/-- bytes of a row -/
theorem bytes_of_row {BASE : Nat} {w : World} {v : Value} {n : Nat} {l : List UInt8} (h : w.ownsRow BASE 5 1 v n (l.map byteV)) (hn : n = l.length) : BytesW w v l := by
  subst hn
  rcases Nat.eq_zero_or_pos l.length with h0 | h0
  · rcases h.2 with ⟨rfl, _⟩ | ⟨g, cap, cur, rfl, _⟩
    · exact ⟨none, 0, by rw [h0], fun h1 => by omega⟩
    · exact ⟨some ⟨g, 0, none⟩, cap, rfl, fun h1 => by omega⟩
  · obtain ⟨g, cap, rfl, _, hlt, _⟩ := ownsRow_some h h0
    refine ⟨some ⟨g, 0, none⟩, cap, rfl, fun _ => ⟨g, 0, rfl, hlt, fun j u hj => ?_⟩⟩
    rw [Nat.zero_add, h.cellAt j (by have := (List.getElem?_eq_some_iff.1 hj).1; simpa using this), hj]
/-- bytes cut out of a row -/
theorem bytes_cut {w : World} {g o c c' : Nat} {l : List UInt8} (h : BytesW w (.slice (some ⟨g, o, none⟩) l.length c) l) (a n : Nat) (hn : a + n ≤ l.length) : BytesW w (.slice (some ⟨g, o + a, none⟩) n c') ((l.drop a).take n) := by
  have hlen : ((l.drop a).take n).length = n := by simp; omega
  refine ⟨some ⟨g, o + a, none⟩, c', by rw [hlen], fun h0 => ?_⟩
  obtain ⟨sp, c2, e, hc⟩ := h
  injection e with e1 e2 e3
  subst e1
  obtain ⟨b, o', e4, hlt, hcc⟩ := hc (by omega)
  injection e4 with e4
  injection e4 with e5 e6
  subst e5; subst e6
  refine ⟨g, o + a, rfl, hlt, fun j u hj => ?_⟩
  rw [Nat.add_assoc]
  apply hcc
  rw [List.getElem?_map] at hj ⊢
  rw [List.getElem?_take] at hj
  split at hj
  · rw [List.getElem?_drop] at hj; exact hj
  · cases hj
theorem BytesW.keep {w w' : World} {v : Value} {l : List UInt8} (h : BytesW w v l) (hk : ∀ g, v.ownBlock = some g → w'.heap[g]? = w.heap[g]?) (hs : w.heap.size ≤ w'.heap.size) : BytesW w' v l := by
  obtain ⟨sp, c, rfl, h⟩ := h
  refine ⟨sp, c, rfl, fun h0 => ?_⟩
  obtain ⟨b, o, rfl, hlt, hc⟩ := h h0
  exact ⟨b, o, rfl, Nat.lt_of_lt_of_le hlt hs, fun j u hj => (World.cell?_of_block (hk b rfl)).trans (hc j u hj)⟩
end Go.Proofs.Ytldpflijgbcbhaa.lg
