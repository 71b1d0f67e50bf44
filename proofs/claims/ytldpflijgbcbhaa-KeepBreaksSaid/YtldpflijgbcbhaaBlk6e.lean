/- What a disk is behind a write. -/
import Derived.Test.YtldpflijgbcbhaaBlk5
namespace Go.Proofs.Ytldpflijgbcbhaa
open Go.RowKit

def padTo (l : List UInt8) : List UInt8 := l ++ List.replicate (64 - l.length) 0
theorem padTo_len {l : List UInt8} (h : l.length ≤ 64) : (padTo l).length = 64 := by simp [padTo]; omega

def DiskM.write (M : DiskM) (i : Nat) (l : List UInt8) : DiskM :=
  { M with now := M.now.set i (some (padTo l)), since := M.since ++ [(i, padTo l)], steps := M.steps + 1 }


def zeros64 : List UInt8 := List.replicate 64 0
theorem mk64 (w : World) : (Instr.makeSlice 23 (.int .i64 64) (.int .i64 64)).run Try.prog w = .ok (.slice (some ⟨w.heap.size, 0, none⟩) 64 64) (w.alloc (.cells (bytesArr zeros64) 5)) := by kernel_rfl

theorem heap_alloc_at {w : World} {n : Nat} (h : w.heap.size = n) (o : Obj) : (w.alloc o).heap[n]? = some o := by
  subst h
  rw [show (w.alloc o).heap = w.heap.push o from rfl]
  simp
theorem row_block {w : World} {base : Nat} {e : TypeId} {sz n : Nat} {v : Value} {xs : List Value} (h : w.ownsRow base e sz v n xs) {g : Nat} (hg : v.ownBlock = some g) : ∃ cur, w.heap[g]? = some (.cells cur e (0, 0)) := by
  obtain ⟨_, h2⟩ := h
  rcases h2 with ⟨h2, _⟩ | ⟨g2, _, cur, hv2, _, hh2, _⟩
  · rw [h2] at hg; simp [Value.ownBlock] at hg
  · rw [hv2] at hg
    simp only [Value.ownBlock, Option.some.injEq] at hg
    subst hg
    exact ⟨cur, hh2⟩
theorem type_ne {w : World} {a b : Nat} {c c' : Array Value} {t t' : TypeId} (h : w.heap[a]? = some (.cells c t (0, 0))) (h' : w.heap[b]? = some (.cells c' t' (0, 0))) (ht : t ≠ t') : a ≠ b := by
  intro e
  rw [e, h'] at h
  injection h with h
  injection h with _ h _
  exact ht h.symm

theorem write_end {w w4 w6 : World} {S : Nat → Prop} {d : Nat} {M : DiskM} {bn cn bs cs gx i : Nat} {sv v' : Value} {ns ss xs : List Value} {l : List UInt8} (h : DiskIs w S d M bn cn bs cs sv ns ss xs)
    (ho4 : Own w4 d (.slice (some ⟨bn, 0, none⟩) M.now.length cn) (.slice (some ⟨bs, 0, none⟩) M.safe.length cs) sv (M.steps + 1) M.stop) (hs4 : Since d w w4) (hi : i < M.now.length) (hl : l.length ≤ 64) (hgx : w.heap.size ≤ gx)
    (hgx4 : w4.heap[gx]? = some (.cells (bytesArr (padTo l)) 5 (0, 0)))
    (hown6 : w6.ownsRow 0 106 2 v' (M.since.length + 1) (xs ++ [.int .i64 (i : Int), .slice (some ⟨gx, 0, none⟩) 64 64]))
    (hgrow6 : ((w4.setCell ⟨bn, i, none⟩ (.slice (some ⟨gx, 0, none⟩) 64 64)).alloc (.cells #[.int .i64 (i : Int), .slice (some ⟨gx, 0, none⟩) 64 64] 106)).grownBy w6 sv.ownBlock)
    (hblk6 : v'.ownBlock = sv.ownBlock ∨ v'.ownBlock = some ((w4.setCell ⟨bn, i, none⟩ (.slice (some ⟨gx, 0, none⟩) 64 64)).alloc (.cells #[.int .i64 (i : Int), .slice (some ⟨gx, 0, none⟩) 64 64] 106)).heap.size) :
    ∃ g6 c6, v' = .slice (some ⟨g6, 0, none⟩) (M.since.length + 1) c6 ∧ w6.cell? ⟨d, 2, none⟩ = some sv ∧ w6.frozen? ⟨d, 2, none⟩ = false ∧
      Only S w (w6.setCell ⟨d, 2, none⟩ (.slice (some ⟨g6, 0, none⟩) (M.since.length + 1) c6)) ∧
      DiskAt (w6.setCell ⟨d, 2, none⟩ (.slice (some ⟨g6, 0, none⟩) (M.since.length + 1) c6)) (Grow S w (w6.setCell ⟨d, 2, none⟩ (.slice (some ⟨g6, 0, none⟩) (M.since.length + 1) c6))) d (M.write i l) := by
  have hk4 : ∀ k, S k → k ≠ d → w4.heap[k]? = w.heap[k]? := fun k hk hne => hs4.only.block k (h.dom k hk) hne
  have hn4 : RowIs w4 S d bn cn M.now ns := h.now.later hk4 (fun _ h => h)
  have hb4 : RowIs w4 S d bs cs M.safe ss := h.safe.later hk4 (fun _ h => h)
  have hi4 : SinceIs w4 S d M.now.length sv M.since xs := h.since.later hk4 (fun _ h => h)
  obtain ⟨curn, hcn⟩ := row_block hn4.own (g := bn) rfl
  obtain ⟨curs, hcs⟩ := row_block hb4.own (g := bs) rfl
  have hrow : ∀ g, sv.ownBlock = some g → g ≠ bn ∧ g ≠ bs ∧ g ≠ gx := fun g hg => by
    obtain ⟨c, hc⟩ := row_block hi4.own hg
    exact ⟨type_ne hc hcn (by decide), type_ne hc hcs (by decide), type_ne hc hgx4 (by decide)⟩
  have hsz4 : w.heap.size ≤ w4.heap.size := hs4.only.size
  have hsz6 : w4.heap.size + 1 ≤ w6.heap.size := by have := hgrow6.size; simpa using this
  have hdl : d < w4.heap.size := lt_of_heap ho4.heap
  -- a block that is neither the row of blocks nor the row of writes is as it was
  have hk6 : ∀ k, k < w4.heap.size → k ≠ bn → sv.ownBlock ≠ some k → w6.heap[k]? = w4.heap[k]? := fun k hk h1 h2 => by
    rw [hgrow6.block k (by simp; omega) (fun e => h2 e.symm), Below.heap_alloc _ _ _ (by simpa using hk), Below.heap_setCell _ _ _ _ h1]
  have hd6 : w6.heap[d]? = w4.heap[d]? := hk6 d hdl (fun e => hn4.ne e.symm) (fun e => (hi4.sb d e).2 rfl)
  have ho6 : Own w6 d (.slice (some ⟨bn, 0, none⟩) M.now.length cn) (.slice (some ⟨bs, 0, none⟩) M.safe.length cs) sv (M.steps + 1) M.stop := ⟨by rw [hd6]; exact ho4.heap⟩
  obtain ⟨g6, c6, hv6, _, hg6lt, _⟩ := ownsRow_some hown6 (by omega)
  refine ⟨g6, c6, hv6, ho6.c2, ho6.free 2, ?_⟩
  have hg6 : g6 ≠ d ∧ g6 ≠ bn ∧ g6 ≠ bs ∧ g6 ≠ gx ∧ (S g6 ∨ w.heap.size ≤ g6) := by
    rw [hv6] at hblk6
    rcases hblk6 with e | e
    · have e' : sv.ownBlock = some g6 := e.symm
      exact ⟨(hi4.sb g6 e').2, (hrow g6 e').1, (hrow g6 e').2.1, (hrow g6 e').2.2, Or.inl (hi4.sb g6 e').1⟩
    · simp only [Value.ownBlock, Option.some.injEq] at e
      simp at e
      have := lt_of_heap hcn
      have := lt_of_heap hcs
      have := lt_of_heap hgx4
      exact ⟨by omega, by omega, by omega, by omega, Or.inr (by omega)⟩
  have hk8 : ∀ k, k ≠ d → (w6.setCell ⟨d, 2, none⟩ (.slice (some ⟨g6, 0, none⟩) (M.since.length + 1) c6)).heap[k]? = w6.heap[k]? := fun k hk => setCell_heap_ne hk
  have hsz8 : (w6.setCell ⟨d, 2, none⟩ (.slice (some ⟨g6, 0, none⟩) (M.since.length + 1) c6)).heap.size = w6.heap.size := by simp
  have hgx6 : (w6.setCell ⟨d, 2, none⟩ (.slice (some ⟨g6, 0, none⟩) (M.since.length + 1) c6)).heap[gx]? = some (.cells (bytesArr (padTo l)) 5 (0, 0)) := by
    have hgd : gx ≠ d := type_ne hgx4 ho4.heap (by decide)
    rw [hk8 gx hgd, hk6 gx (lt_of_heap hgx4) (type_ne hgx4 hcn (by decide)) (fun e => (hrow gx e).2.2 rfl)]
    exact hgx4
  -- what was a block's bytes is that still
  have hbytes : ∀ (x : Value) (m : Option (List UInt8)), BlkAt w4 (fun k => S k ∧ k ≠ d) x m → BlkAt (w6.setCell ⟨d, 2, none⟩ (.slice (some ⟨g6, 0, none⟩) (M.since.length + 1) c6)) (fun k => Grow S w (w6.setCell ⟨d, 2, none⟩ (.slice (some ⟨g6, 0, none⟩) (M.since.length + 1) c6)) k ∧ k ≠ d) x m := by
    intro x m hb
    refine hb.later (fun g l' hg hh => ?_) (fun k hk => ⟨Or.inl hk.1, hk.2⟩)
    rw [hk8 g hg.2, hk6 g (lt_of_heap hh) (type_ne hh hcn (by decide)) (fun e => by
      obtain ⟨c, hc⟩ := row_block hi4.own e
      exact (type_ne hh hc (by decide)) rfl)]
  have hnew : BlkAt (w6.setCell ⟨d, 2, none⟩ (.slice (some ⟨g6, 0, none⟩) (M.since.length + 1) c6)) (fun k => Grow S w (w6.setCell ⟨d, 2, none⟩ (.slice (some ⟨g6, 0, none⟩) (M.since.length + 1) c6)) k ∧ k ≠ d) (.slice (some ⟨gx, 0, none⟩) 64 64) (some (padTo l)) :=
    ⟨padTo_len hl, gx, rfl, ⟨Or.inr ⟨hgx, by rw [hsz8]; have := lt_of_heap hgx4; omega⟩, type_ne hgx4 ho4.heap (by decide)⟩, hgx6⟩
  have hbn6 : (w6.setCell ⟨d, 2, none⟩ (.slice (some ⟨g6, 0, none⟩) (M.since.length + 1) c6)).heap[bn]? = (w4.setCell ⟨bn, i, none⟩ (.slice (some ⟨gx, 0, none⟩) 64 64)).heap[bn]? := by
    rw [hk8 bn hn4.ne, hgrow6.block bn (by simp; have := lt_of_heap hcn; omega) (fun e => (hrow bn e.symm).1 rfl), Below.heap_alloc _ _ _ (by simp; exact lt_of_heap hcn)]
  have hnown := ownsRow_later (w' := w6.setCell ⟨d, 2, none⟩ (.slice (some ⟨g6, 0, none⟩) (M.since.length + 1) c6)) (hn4.own.stored i (.slice (some ⟨gx, 0, none⟩) 64 64)).1 (fun g hg => by simp [Value.ownBlock] at hg; subst hg; exact hbn6)
  have hlen : ns.length = M.now.length := by have := hn4.own.1; omega
  have hxlen : xs.length = M.since.length * 2 := hi4.own.1
  have honly : Only S w (w6.setCell ⟨d, 2, none⟩ (.slice (some ⟨g6, 0, none⟩) (M.since.length + 1) c6)) := by
    refine Only.setCell ?_ (p := ⟨d, 2, none⟩) h.sd _
    refine ⟨hgrow6.os.trans hs4.only.os, hgrow6.tape.trans hs4.only.tape, hgrow6.output.trans hs4.only.output, by omega, fun k hk hn => ?_⟩
    rw [hk6 k (by omega) (fun e => hn (by rw [e]; exact h.now.sb)) (fun e => hn (h.since.sb k e).1), hs4.only.block k hk (fun e => hn (by rw [e]; exact h.sd))]
  refine ⟨honly, bn, cn, bs, cs, .slice (some ⟨g6, 0, none⟩) (M.since.length + 1) c6, ns.set i (.slice (some ⟨gx, 0, none⟩) 64 64), ss, xs ++ [.int .i64 (i : Int), .slice (some ⟨gx, 0, none⟩) 64 64], ?_⟩
  refine ⟨?_, Or.inl h.sd, ⟨?_, Or.inl h.now.sb, h.now.ne, ?_⟩, ⟨?_, Or.inl h.safe.sb, h.safe.ne, ?_⟩, ⟨?_, ?_, ?_⟩, ?_, h.ne, ?_, ?_, ?_, h.stp⟩
  · have := (ho6.set2 (.slice (some ⟨g6, 0, none⟩) (M.since.length + 1) c6)).heap
    simpa [DiskM.write] using this
  · simpa [DiskM.write] using hnown
  · intro j m hm
    simp only [DiskM.write, List.getElem?_set] at hm
    by_cases hj : i = j
    · subst hj
      rw [if_pos rfl, if_pos hi] at hm
      injection hm with hm
      subst hm
      exact ⟨_, by rw [List.getElem?_set, if_pos rfl, if_pos (by omega)], hnew⟩
    · rw [if_neg hj] at hm
      obtain ⟨x, hx, hb⟩ := hn4.blk j m hm
      exact ⟨x, by rw [List.getElem?_set, if_neg hj]; exact hx, hbytes x m hb⟩
  · exact ownsRow_later hb4.own (fun g hg => by
      simp [Value.ownBlock] at hg
      subst hg
      rw [hk8 _ h.safe.ne, hk6 _ (lt_of_heap hcs) (fun e => h.ne e.symm) (fun e => (hrow _ e).2.1 rfl)])
  · intro j m hm
    obtain ⟨x, hx, hb⟩ := hb4.blk j m hm
    exact ⟨x, hx, hbytes x m hb⟩
  · have := ownsRow_later (w' := w6.setCell ⟨d, 2, none⟩ (.slice (some ⟨g6, 0, none⟩) (M.since.length + 1) c6)) hown6 (fun g hg => by rw [hv6] at hg; simp [Value.ownBlock] at hg; subst hg; exact hk8 _ hg6.1)
    rw [hv6] at this
    simpa [DiskM.write] using this
  · intro g hg
    simp only [Value.ownBlock, Option.some.injEq] at hg
    subst hg
    refine ⟨?_, hg6.1⟩
    rcases hg6.2.2.2.2 with hs | hn
    · exact Or.inl hs
    · exact Or.inr ⟨hn, by rw [hsz8]; exact hg6lt⟩
  · intro j p hp
    have e1 : (M.write i l).since = M.since ++ [(i, padTo l)] := rfl
    have e2 : (M.write i l).now.length = M.now.length := by simp [DiskM.write]
    rw [e1] at hp
    rw [e2]
    by_cases hj : j < M.since.length
    · rw [List.getElem?_append_left hj] at hp
      obtain ⟨h1, h2, x, h3, h4⟩ := hi4.blk j p hp
      exact ⟨h1, by rw [List.getElem?_append_left (by omega)]; exact h2, x, by rw [List.getElem?_append_left (by omega)]; exact h3, hbytes x _ h4⟩
    · rw [List.getElem?_append_right (by omega)] at hp
      have hj2 : j = M.since.length := by
        obtain ⟨hlt, _⟩ := List.getElem?_eq_some_iff.1 hp
        simp at hlt; omega
      subst hj2
      simp at hp
      subst hp
      exact ⟨hi, by rw [List.getElem?_append_right (by omega), show 2 * M.since.length - xs.length = 0 by omega]; rfl, _, by rw [List.getElem?_append_right (by omega), show 2 * M.since.length + 1 - xs.length = 1 by omega]; rfl, hnew⟩
  · have : (M.write i l).now.length = M.now.length := by simp [DiskM.write]
    rw [this]; exact h.slen
  · have : (M.write i l).now.length = M.now.length := by simp [DiskM.write]
    rw [this]; exact h.pos
  · have : (M.write i l).now.length = M.now.length := by simp [DiskM.write]
    rw [this]; exact h.le
  · intro k hk
    rw [hsz8]
    rcases hk with hk | ⟨_, hk⟩
    · have := h.dom k hk; omega
    · rwa [hsz8] at hk
end Go.Proofs.Ytldpflijgbcbhaa
