/- Crash of a disk. -/
import Derived.Test.YtldpflijgbcbhaaDoorBlk7
import Derived.Test.YtldpflijgbcbhaaDoorInts
namespace Go.Proofs.YtldpflijgbcbhaaDoor
open Go.RowKit

theorem IntsAt.later' {B : Nat} {w w' : World} {ao : Option Addr} {zs : List Int} (h : IntsAt w ao zs) (hB : ∀ b off, ao = some ⟨b, off, none⟩ → b < B) (hb : Below B w w') : IntsAt w' ao zs := by
  rcases h with h | ⟨b, off, e, hc⟩
  · exact Or.inl h
  · exact Or.inr ⟨b, off, e, fun i hi => (hb.cell (p := ⟨b, off + i, none⟩) (hB b off e)).trans (hc i hi)⟩

theorem IntsAt.laterN {w w' : World} {ao : Option Addr} {zs : List Int} (h : IntsAt w ao zs) (hb : Below w.heap.size w w') : IntsAt w' ao zs := by
  rcases h with h | ⟨b, off, e, hc⟩
  · exact Or.inl h
  · refine Or.inr ⟨b, off, e, fun i hi => (hb.cell (p := ⟨b, off + i, none⟩) ?_).trans (hc i hi)⟩
    have h0 := hc i hi
    rcases Nat.lt_or_ge b w.heap.size with h1 | h1
    · exact h1
    · simp [World.cell?, Array.getElem?_eq_none h1] at h0

/-- what is there of the writes up to the k-th -/
def crashTo (since : List (Nat × List UInt8)) (keep : List Int) (torn : Int) (l0 : List (Option (List UInt8))) : Nat → List (Option (List UInt8))
  | 0 => l0
  | k + 1 => match since[k]? with
    | some p => if memB keep (k : Int) = true then (crashTo since keep torn l0 k).set p.1 (if (k : Int) = torn then none else some p.2) else crashTo since keep torn l0 k
    | none => crashTo since keep torn l0 k
def DiskM.crash (M : DiskM) (keep : List Int) (torn : Int) : DiskM :=
  { now := crashTo M.since keep torn M.safe M.since.length, safe := crashTo M.since keep torn M.safe M.since.length, since := [], steps := 0, stop := -1 }

theorem crashTo_len (since : List (Nat × List UInt8)) (keep : List Int) (torn : Int) (l0 : List (Option (List UInt8))) (k : Nat) : (crashTo since keep torn l0 k).length = l0.length := by
  induction k with
  | zero => rfl
  | succ k ih =>
    unfold crashTo
    split
    · split
      · rw [List.length_set]; exact ih
      · exact ih
    · exact ih
theorem crashTo_no {since : List (Nat × List UInt8)} {keep : List Int} {torn : Int} {l0 : List (Option (List UInt8))} {k : Nat} {p : Nat × List UInt8} (hp : since[k]? = some p) (hm : memB keep (k : Int) = false) : crashTo since keep torn l0 (k + 1) = crashTo since keep torn l0 k := by
  rw [crashTo, hp]; simp [hm]
theorem crashTo_yes {since : List (Nat × List UInt8)} {keep : List Int} {torn : Int} {l0 : List (Option (List UInt8))} {k : Nat} {p : Nat × List UInt8} (hp : since[k]? = some p) (hm : memB keep (k : Int) = true) :
    crashTo since keep torn l0 (k + 1) = (crashTo since keep torn l0 k).set p.1 (if (k : Int) = torn then none else some p.2) := by
  rw [crashTo, hp]; simp [hm]

structure CrashRel (w : World) (S : Nat → Prop) (d n bl cl : Nat) (l : List (Option (List UInt8))) (ls : List Value) (wr : World) : Prop where
  row : wr.ownsRow 0 22 1 (.slice (some ⟨bl, 0, none⟩) n cl) n ls
  blk : ∀ (i : Nat) (m : Option (List UInt8)), l[i]? = some m → ∃ x, ls[i]? = some x ∧ BlkAt wr (fun k => S k ∧ k ≠ d) x m
  below : Below w.heap.size w wr
  new : w.heap.size ≤ bl
  lt : bl < wr.heap.size

theorem CrashRel.later {w wr w' : World} {S : Nat → Prop} {d n bl cl : Nat} {l : List (Option (List UInt8))} {ls : List Value} (h : CrashRel w S d n bl cl l ls wr) (hS : ∀ k, S k → k < w.heap.size) (hb : Below wr.heap.size wr w') : CrashRel w S d n bl cl l ls w' where
  row := ownsRow_later h.row (fun g hg => by simp only [Value.ownBlock, Option.some.injEq] at hg; subst hg; exact hb.block _ h.lt)
  blk := fun i m hm => by
    obtain ⟨x, hx, hx2⟩ := h.blk i m hm
    exact ⟨x, hx, hx2.later (fun g _ hg _ => hb.block g (Nat.lt_of_lt_of_le (hS g hg.1) h.below.size)) (fun _ h => h)⟩
  below := h.below.trans (hb.mono h.below.size)
  new := h.new
  lt := Nat.lt_of_lt_of_le h.lt hb.size

theorem CrashRel.set {w wr : World} {S : Nat → Prop} {d n bl cl at_ : Nat} {l : List (Option (List UInt8))} {ls : List Value} (h : CrashRel w S d n bl cl l ls wr) (hS : ∀ k, S k → k < w.heap.size) (hln : l.length = n) {x : Value} {m : Option (List UInt8)} (hx : BlkAt wr (fun k => S k ∧ k ≠ d) x m) (hat : at_ < n) :
    CrashRel w S d n bl cl (l.set at_ m) (ls.set at_ x) (wr.setCell ⟨bl, at_, none⟩ x) where
  row := (h.row.stored at_ x).1
  blk := fun i m' hm => by
    have hk : ∀ g, (S g ∧ g ≠ d) → (wr.setCell ⟨bl, at_, none⟩ x).heap[g]? = wr.heap[g]? := fun g hg => Below.heap_setCell _ _ _ _ (by have := hS g hg.1; have := h.new; show g ≠ bl; omega)
    have hlen : ls.length = n := by have := h.row.1; omega
    rw [List.getElem?_set] at hm
    by_cases e : at_ = i
    · subst e
      rw [if_pos rfl, if_pos (by omega)] at hm
      injection hm with hm
      subst hm
      exact ⟨x, by rw [List.getElem?_set, if_pos rfl, if_pos (by omega)], hx.later (fun g _ hg _ => hk g hg) (fun _ h => h)⟩
    · rw [if_neg e] at hm
      obtain ⟨y, hy, hy2⟩ := h.blk i m' hm
      exact ⟨y, by rw [List.getElem?_set, if_neg e]; exact hy, hy2.later (fun g _ hg _ => hk g hg) (fun _ h => h)⟩
  below := h.below.setCell (p := ⟨bl, at_, none⟩) h.new _
  new := h.new
  lt := by rw [World.size_setCell]; exact h.lt

theorem CrashRel.at {w wr : World} {S : Nat → Prop} {d n bl cl i : Nat} {l : List (Option (List UInt8))} {ls : List Value} (h : CrashRel w S d n bl cl l ls wr) (hi : i < n) : (∃ y, wr.cell? ⟨bl, i, none⟩ = some y) ∧ wr.frozen? ⟨bl, i, none⟩ = false := by
  have hlen : ls.length = n := by have := h.row.1; omega
  exact ⟨⟨ls[i]'(by omega), by rw [h.row.cellAt i (by omega)]; simp⟩, h.row.frozenAt i⟩

/-- the disk behind a crash -/
theorem crash_end {w wr w3 : World} {S : Nat → Prop} {d bl cl g cap : Nat} {M : DiskM} {keep : List Int} {torn : Int} {ls : List Value} (hd : DiskAt w S d M)
    (h : CrashRel w S d M.now.length bl cl (crashTo M.since keep torn M.safe M.since.length) ls wr) (hb3 : Below wr.heap.size wr w3) (hg : wr.heap.size ≤ g) (hown3 : w3.ownsRow 0 22 1 (.slice (some ⟨g, 0, none⟩) M.now.length cap) M.now.length ls) :
    Own (((((w3.setCell ⟨d, 0, none⟩ (.slice (some ⟨bl, 0, none⟩) M.now.length cl)).setCell ⟨d, 1, none⟩ (.slice (some ⟨g, 0, none⟩) M.now.length cap)).setCell ⟨d, 2, none⟩ (.slice none 0 0)).setCell ⟨d, 3, none⟩ (.int .i64 0)).setCell ⟨d, 4, none⟩ (.int .i64 (-1))) d (.slice (some ⟨bl, 0, none⟩) M.now.length cl) (.slice (some ⟨g, 0, none⟩) M.now.length cap) (.slice none 0 0) 0 (-1) ∧
      Only S w (((((w3.setCell ⟨d, 0, none⟩ (.slice (some ⟨bl, 0, none⟩) M.now.length cl)).setCell ⟨d, 1, none⟩ (.slice (some ⟨g, 0, none⟩) M.now.length cap)).setCell ⟨d, 2, none⟩ (.slice none 0 0)).setCell ⟨d, 3, none⟩ (.int .i64 0)).setCell ⟨d, 4, none⟩ (.int .i64 (-1))) ∧
      DiskAt (((((w3.setCell ⟨d, 0, none⟩ (.slice (some ⟨bl, 0, none⟩) M.now.length cl)).setCell ⟨d, 1, none⟩ (.slice (some ⟨g, 0, none⟩) M.now.length cap)).setCell ⟨d, 2, none⟩ (.slice none 0 0)).setCell ⟨d, 3, none⟩ (.int .i64 0)).setCell ⟨d, 4, none⟩ (.int .i64 (-1))) (Grow S w (((((w3.setCell ⟨d, 0, none⟩ (.slice (some ⟨bl, 0, none⟩) M.now.length cl)).setCell ⟨d, 1, none⟩ (.slice (some ⟨g, 0, none⟩) M.now.length cap)).setCell ⟨d, 2, none⟩ (.slice none 0 0)).setCell ⟨d, 3, none⟩ (.int .i64 0)).setCell ⟨d, 4, none⟩ (.int .i64 (-1)))) d (M.crash keep torn) := by
  obtain ⟨bn, cn, bs, cs, sv, ns, ss, xs, hi⟩ := hd
  have ho0 : Own w d _ _ _ _ _ := ⟨hi.self⟩
  have hdl := ho0.lt
  have hbw : Below w.heap.size w w3 := h.below.trans (hb3.mono h.below.size)
  have ho3 := ho0.later hbw
  have ho := ((((ho3.set0 (.slice (some ⟨bl, 0, none⟩) M.now.length cl)).set1 (.slice (some ⟨g, 0, none⟩) M.now.length cap)).set2 (.slice none 0 0)).set3 0).set4 (-1)
  have hS := hi.dom
  have hon := ((((((Only.of_below (S := S) hbw).setCell (p := ⟨d, 0, none⟩) hi.sd (.slice (some ⟨bl, 0, none⟩) M.now.length cl)).setCell (p := ⟨d, 1, none⟩) hi.sd (.slice (some ⟨g, 0, none⟩) M.now.length cap)).setCell (p := ⟨d, 2, none⟩) hi.sd (.slice none 0 0)).setCell (p := ⟨d, 3, none⟩) hi.sd (.int .i64 0)).setCell (p := ⟨d, 4, none⟩) hi.sd (.int .i64 (-1)))
  refine ⟨ho, hon, bl, cl, g, cap, .slice none 0 0, ls, ls, [], ?_⟩
  generalize hw : (((((w3.setCell ⟨d, 0, none⟩ (.slice (some ⟨bl, 0, none⟩) M.now.length cl)).setCell ⟨d, 1, none⟩ (.slice (some ⟨g, 0, none⟩) M.now.length cap)).setCell ⟨d, 2, none⟩ (.slice none 0 0)).setCell ⟨d, 3, none⟩ (.int .i64 0)).setCell ⟨d, 4, none⟩ (.int .i64 (-1))) = wf at *
  have hkd : ∀ k, k ≠ d → wf.heap[k]? = w3.heap[k]? := fun k hk => by
    rw [← hw, setCell_heap_ne hk, setCell_heap_ne hk, setCell_heap_ne hk, setCell_heap_ne hk, setCell_heap_ne hk]
  have hss : wf.heap.size = w3.heap.size := by rw [← hw]; simp
  have hsz := hb3.size
  have hsz2 := h.below.size
  have hnew := h.new
  have hlt := h.lt
  have hg3 : g < w3.heap.size := by
    obtain ⟨g', c', hv, _, hlt, _⟩ := ownsRow_some hown3 hi.pos
    injection hv with hv _ _
    injection hv with hv
    injection hv with hv _ _
    rw [hv]; exact hlt
  have e1 : (M.crash keep torn).now.length = M.now.length := by simp [DiskM.crash, crashTo_len, hi.slen]
  have e2 : (M.crash keep torn).safe.length = M.now.length := by simp [DiskM.crash, crashTo_len, hi.slen]
  have hblk : ∀ (i : Nat) (m : Option (List UInt8)), (crashTo M.since keep torn M.safe M.since.length)[i]? = some m → ∃ x, ls[i]? = some x ∧ BlkAt wf (fun k => Grow S w wf k ∧ k ≠ d) x m := by
    intro i m hm
    obtain ⟨x, hx, hx2⟩ := h.blk i m hm
    exact ⟨x, hx, hx2.later (fun k _ hk _ => by rw [hkd k hk.2, hb3.block k (by have := hS k hk.1; omega)]) (fun k hk => ⟨Or.inl hk.1, hk.2⟩)⟩
  refine ⟨?_, Or.inl hi.sd, ⟨?_, Or.inr ⟨hnew, by omega⟩, by omega, hblk⟩, ⟨?_, Or.inr ⟨by omega, by omega⟩, by omega, hblk⟩, ⟨World.ownsRow_nil _ _ _ _, (fun k hk => by simp [Value.ownBlock] at hk), (fun i p hp => by simp [DiskM.crash] at hp)⟩, by rw [e1, e2], by omega, by rw [e1]; exact hi.pos, by rw [e1]; exact hi.le, ?_, by simp [DiskM.crash]⟩
  · rw [e1, e2]; exact ho.heap
  · rw [e1]
    exact ownsRow_later h.row (fun k hk => by
      simp only [Value.ownBlock, Option.some.injEq] at hk
      subst hk
      rw [hkd _ (by omega), hb3.block _ hlt])
  · rw [e2]
    exact ownsRow_later hown3 (fun k hk => by
      simp only [Value.ownBlock, Option.some.injEq] at hk
      subst hk
      exact hkd _ (by omega))
  · intro k hk
    rcases hk with hk | ⟨_, hk⟩
    · have := hS k hk; omega
    · exact hk
end Go.Proofs.YtldpflijgbcbhaaDoor
