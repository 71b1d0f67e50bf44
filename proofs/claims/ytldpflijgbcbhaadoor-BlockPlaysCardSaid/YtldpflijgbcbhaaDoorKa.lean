/- The document's disk (dayref2.K) in memory: written by mkk.py out of the disk's own texts, at K's types. -/
import Derived.Test.YtldpflijgbcbhaaDoorDiskF
namespace Go.Proofs.YtldpflijgbcbhaaDoor.kk
open Go.RowKit

/-- what was written since: its row of pairs -/
structure SinceIs (w : World) (S : Nat → Prop) (d n : Nat) (sv : Value) (l : List (Nat × List UInt8)) (xs : List Value) : Prop where
  own : w.ownsRow 0 127 2 sv l.length xs
  sb : ∀ g, sv.ownBlock = some g → S g ∧ g ≠ d
  blk : ∀ (i : Nat) (p : Nat × List UInt8), l[i]? = some p → p.1 < n ∧ xs[2 * i]? = some (.int .i64 p.1) ∧ ∃ x, xs[2 * i + 1]? = some x ∧ BlkAt w (fun k => S k ∧ k ≠ d) x (some p.2)
theorem SinceIs.later {w w' : World} {S S' : Nat → Prop} {d n : Nat} {sv : Value} {l : List (Nat × List UInt8)} {xs : List Value} (h : SinceIs w S d n sv l xs) (hk : ∀ k, S k → k ≠ d → w'.heap[k]? = w.heap[k]?) (hS : ∀ k, S k → S' k) : SinceIs w' S' d n sv l xs where
  own := ownsRow_later h.own (fun g hg => hk g (h.sb g hg).1 (h.sb g hg).2)
  sb := fun g hg => ⟨hS g (h.sb g hg).1, (h.sb g hg).2⟩
  blk := fun i p hp => by obtain ⟨h1, h2, x, hx, hb⟩ := h.blk i p hp; exact ⟨h1, h2, x, hx, hb.later (fun g _ hg _ => hk g hg.1 hg.2) (fun k h => ⟨hS k h.1, h.2⟩)⟩
structure DiskIs (w : World) (S : Nat → Prop) (d : Nat) (M : DiskM) (bn cn bs cs : Nat) (sv : Value) (ns ss xs : List Value) : Prop where
  self : w.heap[d]? = some (.cells #[.slice (some ⟨bn, 0, none⟩) M.now.length cn, .slice (some ⟨bs, 0, none⟩) M.safe.length cs, sv, .int .i64 M.steps, .int .i64 M.stop] 69 (0, 0))
  sd : S d
  now : RowIs w S d bn cn M.now ns
  safe : RowIs w S d bs cs M.safe ss
  since : SinceIs w S d M.now.length sv M.since xs
  slen : M.safe.length = M.now.length
  ne : bn ≠ bs
  pos : 0 < M.now.length
  le : M.now.length ≤ 200
  dom : ∀ k, S k → k < w.heap.size
  stp : M.stop ≤ 9223372036854775807 ∧ -1 ≤ M.stop
theorem DiskIs.later {w w' : World} {S : Nat → Prop} {d : Nat} {M : DiskM} {bn cn bs cs : Nat} {sv : Value} {ns ss xs : List Value} (h : DiskIs w S d M bn cn bs cs sv ns ss xs) (hk : ∀ k, S k → w'.heap[k]? = w.heap[k]?) (hsz : w.heap.size ≤ w'.heap.size) :
    DiskIs w' S d M bn cn bs cs sv ns ss xs where
  self := by rw [hk d h.sd]; exact h.self
  sd := h.sd
  now := h.now.later (fun k hs _ => hk k hs) (fun _ h => h)
  safe := h.safe.later (fun k hs _ => hk k hs) (fun _ h => h)
  since := h.since.later (fun k hs _ => hk k hs) (fun _ h => h)
  slen := h.slen
  ne := h.ne
  pos := h.pos
  le := h.le
  dom := fun k hk' => Nat.lt_of_lt_of_le (h.dom k hk') hsz
  stp := h.stp
/-- a disk whose blocks are among S -/
def DiskAt (w : World) (S : Nat → Prop) (d : Nat) (M : DiskM) : Prop := ∃ bn cn bs cs sv ns ss xs, DiskIs w S d M bn cn bs cs sv ns ss xs
theorem DiskAt.later {w w' : World} {S : Nat → Prop} {d : Nat} {M : DiskM} (h : DiskAt w S d M) (hb : Below w.heap.size w w') : DiskAt w' S d M := by
  obtain ⟨bn, cn, bs, cs, sv, ns, ss, xs, h⟩ := h
  exact ⟨bn, cn, bs, cs, sv, ns, ss, xs, h.later (fun k hk => hb.block k (h.dom k hk)) hb.size⟩
/-- what another one does leaves it -/
theorem DiskAt.apart {w w' : World} {S T : Nat → Prop} {d : Nat} {M : DiskM} (h : DiskAt w S d M) (ho : Only T w w') (hT : ∀ k, S k → ¬ T k) : DiskAt w' S d M := by
  obtain ⟨bn, cn, bs, cs, sv, ns, ss, xs, h⟩ := h
  exact ⟨bn, cn, bs, cs, sv, ns, ss, xs, h.later (fun k hk => ho.block k (h.dom k hk) (hT k hk)) ho.size⟩
/-- the disk's own block, and that it may be written -/
structure Own (w : World) (d : Nat) (nv sfv sv : Value) (steps : Nat) (stop : Int) : Prop where
  heap : w.heap[d]? = some (.cells #[nv, sfv, sv, .int .i64 steps, .int .i64 stop] 69 (0, 0))
theorem Own.c0 {w : World} {d : Nat} {nv sfv sv : Value} {steps : Nat} {stop : Int} (h : Own w d nv sfv sv steps stop) : w.cell? ⟨d, 0, none⟩ = some nv := by rw [cell_of_heap h.heap]; rfl
theorem Own.c1 {w : World} {d : Nat} {nv sfv sv : Value} {steps : Nat} {stop : Int} (h : Own w d nv sfv sv steps stop) : w.cell? ⟨d, 1, none⟩ = some sfv := by rw [cell_of_heap h.heap]; rfl
theorem Own.c2 {w : World} {d : Nat} {nv sfv sv : Value} {steps : Nat} {stop : Int} (h : Own w d nv sfv sv steps stop) : w.cell? ⟨d, 2, none⟩ = some sv := by rw [cell_of_heap h.heap]; rfl
theorem Own.c3 {w : World} {d : Nat} {nv sfv sv : Value} {steps : Nat} {stop : Int} (h : Own w d nv sfv sv steps stop) : w.cell? ⟨d, 3, none⟩ = some (.int .i64 steps) := by rw [cell_of_heap h.heap]; rfl
theorem Own.c4 {w : World} {d : Nat} {nv sfv sv : Value} {steps : Nat} {stop : Int} (h : Own w d nv sfv sv steps stop) : w.cell? ⟨d, 4, none⟩ = some (.int .i64 stop) := by rw [cell_of_heap h.heap]; rfl
theorem Own.free {w : World} {d : Nat} {nv sfv sv : Value} {steps : Nat} {stop : Int} (h : Own w d nv sfv sv steps stop) (j : Nat) : w.frozen? ⟨d, j, none⟩ = false := free_of_heap h.heap j
theorem Own.later {w w' : World} {d : Nat} {nv sfv sv : Value} {steps : Nat} {stop : Int} (h : Own w d nv sfv sv steps stop) (hb : Below w.heap.size w w') : Own w' d nv sfv sv steps stop := ⟨by rw [hb.block d (lt_of_heap h.heap)]; exact h.heap⟩
theorem Own.lt {w : World} {d : Nat} {nv sfv sv : Value} {steps : Nat} {stop : Int} (h : Own w d nv sfv sv steps stop) : d < w.heap.size := lt_of_heap h.heap
theorem Own.set0 {w : World} {d : Nat} {nv sfv sv : Value} {steps : Nat} {stop : Int} (h : Own w d nv sfv sv steps stop) (v : Value) : Own (w.setCell ⟨d, 0, none⟩ v) d v sfv sv steps stop := ⟨heap_setCell_same h.heap v⟩
theorem Own.set1 {w : World} {d : Nat} {nv sfv sv : Value} {steps : Nat} {stop : Int} (h : Own w d nv sfv sv steps stop) (v : Value) : Own (w.setCell ⟨d, 1, none⟩ v) d nv v sv steps stop := ⟨heap_setCell_same h.heap v⟩
theorem Own.set2 {w : World} {d : Nat} {nv sfv sv : Value} {steps : Nat} {stop : Int} (h : Own w d nv sfv sv steps stop) (v : Value) : Own (w.setCell ⟨d, 2, none⟩ v) d nv sfv v steps stop := ⟨heap_setCell_same h.heap v⟩
theorem Own.set3 {w : World} {d : Nat} {nv sfv sv : Value} {steps : Nat} {stop : Int} (h : Own w d nv sfv sv steps stop) (n : Nat) : Own (w.setCell ⟨d, 3, none⟩ (.int .i64 (n : Int))) d nv sfv sv n stop := ⟨heap_setCell_same h.heap _⟩
theorem Own.set4 {w : World} {d : Nat} {nv sfv sv : Value} {steps : Nat} {stop : Int} (h : Own w d nv sfv sv steps stop) (n : Int) : Own (w.setCell ⟨d, 4, none⟩ (.int .i64 n)) d nv sfv sv steps n := ⟨heap_setCell_same h.heap _⟩
def DiskPost (S : Nat → Prop) (d : Nat) (w : World) (M' : DiskM) (r : Value) (e : Ending) (w' : World) : Prop :=
  e = .returned r ∧ Only S w w' ∧ DiskAt w' (Grow S w w') d M'
/-- what a disk is when all was made safe -/
theorem flush_end {w w2 w3 : World} {S : Nat → Prop} {d : Nat} {M : DiskM} {bn cn bs cs g cap' : Nat} {sv : Value} {ns ss xs : List Value} (h : DiskIs w S d M bn cn bs cs sv ns ss xs)
    (_ : Own w2 d (.slice (some ⟨bn, 0, none⟩) M.now.length cn) (.slice (some ⟨bs, 0, none⟩) M.safe.length cs) sv (M.steps + 1) M.stop) (hs2 : Since d w w2) (hr2 : RowIs w2 S d bn cn M.now ns) (hb3 : Below w2.heap.size w2 w3) (hg : w2.heap.size ≤ g)
    (hown3 : w3.ownsRow 0 22 1 (.slice (some ⟨g, 0, none⟩) M.now.length cap') M.now.length ns)
    (ho5 : Own ((w3.setCell ⟨d, 1, none⟩ (.slice (some ⟨g, 0, none⟩) M.now.length cap')).setCell ⟨d, 2, none⟩ (.slice none 0 0)) d (.slice (some ⟨bn, 0, none⟩) M.now.length cn) (.slice (some ⟨g, 0, none⟩) M.now.length cap') (.slice none 0 0) (M.steps + 1) M.stop)
    (hs5 : Since d w ((w3.setCell ⟨d, 1, none⟩ (.slice (some ⟨g, 0, none⟩) M.now.length cap')).setCell ⟨d, 2, none⟩ (.slice none 0 0))) :
    Only S w ((w3.setCell ⟨d, 1, none⟩ (.slice (some ⟨g, 0, none⟩) M.now.length cap')).setCell ⟨d, 2, none⟩ (.slice none 0 0)) ∧
      DiskAt ((w3.setCell ⟨d, 1, none⟩ (.slice (some ⟨g, 0, none⟩) M.now.length cap')).setCell ⟨d, 2, none⟩ (.slice none 0 0)) (Grow S w ((w3.setCell ⟨d, 1, none⟩ (.slice (some ⟨g, 0, none⟩) M.now.length cap')).setCell ⟨d, 2, none⟩ (.slice none 0 0))) d M.flush := by
  have hdl : d < w.heap.size := lt_of_heap h.self
  have hsz : w.heap.size ≤ w2.heap.size := hs2.only.size
  have hsz3 : w2.heap.size ≤ w3.heap.size := hb3.size
  have hgd : g ≠ d := by omega
  have hsize : ((w3.setCell ⟨d, 1, none⟩ (.slice (some ⟨g, 0, none⟩) M.now.length cap')).setCell ⟨d, 2, none⟩ (.slice none 0 0)).heap.size = w3.heap.size := by simp
  have hg3 : g < w3.heap.size := by
    obtain ⟨g', c', hv, _, hlt, _⟩ := ownsRow_some hown3 h.pos
    injection hv with hv _ _
    injection hv with hv
    injection hv with hv _ _
    rw [hv]; exact hlt
  have hk5 : ∀ k, k ≠ d → ((w3.setCell ⟨d, 1, none⟩ (.slice (some ⟨g, 0, none⟩) M.now.length cap')).setCell ⟨d, 2, none⟩ (.slice none 0 0)).heap[k]? = w3.heap[k]? := fun k hk => by
    rw [setCell_heap_ne hk, setCell_heap_ne hk]
  have hk2 : ∀ k, S k → k ≠ d → ((w3.setCell ⟨d, 1, none⟩ (.slice (some ⟨g, 0, none⟩) M.now.length cap')).setCell ⟨d, 2, none⟩ (.slice none 0 0)).heap[k]? = w2.heap[k]? := fun k hs hk => by
    rw [hk5 k hk, hb3.block k (by have := h.dom k hs; omega)]
  refine ⟨hs5.only.mono (fun k _ hk => by rw [hk]; exact h.sd), bn, cn, g, cap', .slice none 0 0, ns, ns, [], ?_⟩
  have hrn := hr2.later hk2 (S' := Grow S w ((w3.setCell ⟨d, 1, none⟩ (.slice (some ⟨g, 0, none⟩) M.now.length cap')).setCell ⟨d, 2, none⟩ (.slice none 0 0))) (fun k hk => Or.inl hk)
  refine ⟨ho5.heap, Or.inl h.sd, hrn, ⟨ownsRow_later hown3 (fun k hk => ?_), Or.inr ⟨by omega, by rw [hsize]; exact hg3⟩, hgd, hrn.blk⟩, ⟨World.ownsRow_nil _ _ _ _, (fun k hk => by simp [Value.ownBlock] at hk), (fun i p hp => by simp [DiskM.flush] at hp)⟩, rfl, ?_, h.pos, h.le, ?_, h.stp⟩
  · simp [Value.ownBlock] at hk
    subst hk
    exact hk5 _ hgd
  · have := h.dom bn h.now.sb; omega
  · intro k hk
    rw [hsize]
    rcases hk with hk | ⟨_, hk⟩
    · have := h.dom k hk; omega
    · rwa [hsize] at hk
/-- a change in the disk's own block alone: what it is made of stays -/
theorem own_end {w w' : World} {S : Nat → Prop} {d : Nat} {M M' : DiskM} {bn cn bs cs : Nat} {sv : Value} {ns ss xs : List Value} (h : DiskIs w S d M bn cn bs cs sv ns ss xs) (hs : Since d w w')
    (ho : Own w' d (.slice (some ⟨bn, 0, none⟩) M'.now.length cn) (.slice (some ⟨bs, 0, none⟩) M'.safe.length cs) sv M'.steps M'.stop) (e1 : M'.now = M.now) (e2 : M'.safe = M.safe) (e3 : M'.since = M.since) (hst : M'.stop ≤ 9223372036854775807 ∧ -1 ≤ M'.stop) :
    Only S w w' ∧ DiskAt w' (Grow S w w') d M' := by
  have hk : ∀ k, S k → k ≠ d → w'.heap[k]? = w.heap[k]? := fun k hk hne => hs.only.block k (h.dom k hk) hne
  refine ⟨hs.only.mono (fun k _ hk => by rw [hk]; exact h.sd), bn, cn, bs, cs, sv, ns, ss, xs, ?_⟩
  refine ⟨ho.heap, Or.inl h.sd, ?_, ?_, ?_, by rw [e1, e2]; exact h.slen, h.ne, by rw [e1]; exact h.pos, by rw [e1]; exact h.le, ?_, hst⟩
  · rw [e1]; exact h.now.later hk (fun k h => Or.inl h)
  · rw [e2]; exact h.safe.later hk (fun k h => Or.inl h)
  · rw [e1, e3]; exact h.since.later hk (fun k h => Or.inl h)
  · intro k hk
    rcases hk with hk | ⟨_, hk⟩
    · exact Nat.lt_of_lt_of_le (h.dom k hk) hs.only.size
    · exact hk
theorem write_end {w w4 w6 : World} {S : Nat → Prop} {d : Nat} {M : DiskM} {bn cn bs cs gx i : Nat} {sv v' : Value} {ns ss xs : List Value} {l : List UInt8} (h : DiskIs w S d M bn cn bs cs sv ns ss xs)
    (ho4 : Own w4 d (.slice (some ⟨bn, 0, none⟩) M.now.length cn) (.slice (some ⟨bs, 0, none⟩) M.safe.length cs) sv (M.steps + 1) M.stop) (hs4 : Since d w w4) (hi : i < M.now.length) (hl : l.length ≤ 64) (hgx : w.heap.size ≤ gx)
    (hgx4 : w4.heap[gx]? = some (.cells (bytesArr (padTo l)) 5 (0, 0)))
    (hown6 : w6.ownsRow 0 127 2 v' (M.since.length + 1) (xs ++ [.int .i64 (i : Int), .slice (some ⟨gx, 0, none⟩) 64 64]))
    (hgrow6 : ((w4.setCell ⟨bn, i, none⟩ (.slice (some ⟨gx, 0, none⟩) 64 64)).alloc (.cells #[.int .i64 (i : Int), .slice (some ⟨gx, 0, none⟩) 64 64] 127)).grownBy w6 sv.ownBlock)
    (hblk6 : v'.ownBlock = sv.ownBlock ∨ v'.ownBlock = some ((w4.setCell ⟨bn, i, none⟩ (.slice (some ⟨gx, 0, none⟩) 64 64)).alloc (.cells #[.int .i64 (i : Int), .slice (some ⟨gx, 0, none⟩) 64 64] 127)).heap.size) :
    ∃ g6 c6, v' = .slice (some ⟨g6, 0, none⟩) (M.since.length + 1) c6 ∧ w6.cell? ⟨d, 2, none⟩ = some sv ∧ w6.frozen? ⟨d, 2, none⟩ = false ∧
      Only S w (w6.setCell ⟨d, 2, none⟩ (.slice (some ⟨g6, 0, none⟩) (M.since.length + 1) c6)) ∧
      DiskAt (w6.setCell ⟨d, 2, none⟩ (.slice (some ⟨g6, 0, none⟩) (M.since.length + 1) c6)) (Grow S w (w6.setCell ⟨d, 2, none⟩ (.slice (some ⟨g6, 0, none⟩) (M.since.length + 1) c6))) d (M.write i l) := by
  have hk4 : ∀ k, S k → k ≠ d → w4.heap[k]? = w.heap[k]? := fun k hk hne => hs4.only.block k (h.dom k hk) hne
  have hn4 : RowIs w4 S d bn cn M.now ns := h.now.later hk4 (fun _ h => h)
  have hb4 : RowIs w4 S d bs cs M.safe ss := h.safe.later hk4 (fun _ h => h)
  have hi4 : SinceIs w4 S d M.now.length sv M.since xs := h.since.later hk4 (fun _ h => h)
  obtain ⟨curn, hcn⟩ := row_block hn4.own (g := bn) rfl
  obtain ⟨curs, hcs⟩ := row_block hb4.own (g := bs) rfl
  have hrow : ∀ g, sv.ownBlock = some g → g ≠ bn ∧ g ≠ bs ∧ g ≠ gx := fun g hg => by
    obtain ⟨c, hc⟩ := row_block hi4.own hg
    exact ⟨type_ne hc hcn (by decide), type_ne hc hcs (by decide), type_ne hc hgx4 (by decide)⟩
  have hsz4 : w.heap.size ≤ w4.heap.size := hs4.only.size
  have hsz6 : w4.heap.size + 1 ≤ w6.heap.size := by have := hgrow6.size; simpa using this
  have hdl : d < w4.heap.size := lt_of_heap ho4.heap
  -- a block that is neither the row of blocks nor the row of writes is as it was
  have hk6 : ∀ k, k < w4.heap.size → k ≠ bn → sv.ownBlock ≠ some k → w6.heap[k]? = w4.heap[k]? := fun k hk h1 h2 => by
    rw [hgrow6.block k (by simp; omega) (fun e => h2 e.symm), Below.heap_alloc _ _ _ (by simpa using hk), Below.heap_setCell _ _ _ _ h1]
  have hd6 : w6.heap[d]? = w4.heap[d]? := hk6 d hdl (fun e => hn4.ne e.symm) (fun e => (hi4.sb d e).2 rfl)
  have ho6 : Own w6 d (.slice (some ⟨bn, 0, none⟩) M.now.length cn) (.slice (some ⟨bs, 0, none⟩) M.safe.length cs) sv (M.steps + 1) M.stop := ⟨by rw [hd6]; exact ho4.heap⟩
  obtain ⟨g6, c6, hv6, _, hg6lt, _⟩ := ownsRow_some hown6 (by omega)
  refine ⟨g6, c6, hv6, ho6.c2, ho6.free 2, ?_⟩
  have hg6 : g6 ≠ d ∧ g6 ≠ bn ∧ g6 ≠ bs ∧ g6 ≠ gx ∧ (S g6 ∨ w.heap.size ≤ g6) := by
    rw [hv6] at hblk6
    rcases hblk6 with e | e
    · have e' : sv.ownBlock = some g6 := e.symm
      exact ⟨(hi4.sb g6 e').2, (hrow g6 e').1, (hrow g6 e').2.1, (hrow g6 e').2.2, Or.inl (hi4.sb g6 e').1⟩
    · simp only [Value.ownBlock, Option.some.injEq] at e
      simp at e
      have := lt_of_heap hcn
      have := lt_of_heap hcs
      have := lt_of_heap hgx4
      exact ⟨by omega, by omega, by omega, by omega, Or.inr (by omega)⟩
  have hk8 : ∀ k, k ≠ d → (w6.setCell ⟨d, 2, none⟩ (.slice (some ⟨g6, 0, none⟩) (M.since.length + 1) c6)).heap[k]? = w6.heap[k]? := fun k hk => setCell_heap_ne hk
  have hsz8 : (w6.setCell ⟨d, 2, none⟩ (.slice (some ⟨g6, 0, none⟩) (M.since.length + 1) c6)).heap.size = w6.heap.size := by simp
  have hgx6 : (w6.setCell ⟨d, 2, none⟩ (.slice (some ⟨g6, 0, none⟩) (M.since.length + 1) c6)).heap[gx]? = some (.cells (bytesArr (padTo l)) 5 (0, 0)) := by
    have hgd : gx ≠ d := type_ne hgx4 ho4.heap (by decide)
    rw [hk8 gx hgd, hk6 gx (lt_of_heap hgx4) (type_ne hgx4 hcn (by decide)) (fun e => (hrow gx e).2.2 rfl)]
    exact hgx4
  -- what was a block's bytes is that still
  have hbytes : ∀ (x : Value) (m : Option (List UInt8)), BlkAt w4 (fun k => S k ∧ k ≠ d) x m → BlkAt (w6.setCell ⟨d, 2, none⟩ (.slice (some ⟨g6, 0, none⟩) (M.since.length + 1) c6)) (fun k => Grow S w (w6.setCell ⟨d, 2, none⟩ (.slice (some ⟨g6, 0, none⟩) (M.since.length + 1) c6)) k ∧ k ≠ d) x m := by
    intro x m hb
    refine hb.later (fun g l' hg hh => ?_) (fun k hk => ⟨Or.inl hk.1, hk.2⟩)
    rw [hk8 g hg.2, hk6 g (lt_of_heap hh) (type_ne hh hcn (by decide)) (fun e => by
      obtain ⟨c, hc⟩ := row_block hi4.own e
      exact (type_ne hh hc (by decide)) rfl)]
  have hnew : BlkAt (w6.setCell ⟨d, 2, none⟩ (.slice (some ⟨g6, 0, none⟩) (M.since.length + 1) c6)) (fun k => Grow S w (w6.setCell ⟨d, 2, none⟩ (.slice (some ⟨g6, 0, none⟩) (M.since.length + 1) c6)) k ∧ k ≠ d) (.slice (some ⟨gx, 0, none⟩) 64 64) (some (padTo l)) :=
    ⟨padTo_len hl, gx, rfl, ⟨Or.inr ⟨hgx, by rw [hsz8]; have := lt_of_heap hgx4; omega⟩, type_ne hgx4 ho4.heap (by decide)⟩, hgx6⟩
  have hbn6 : (w6.setCell ⟨d, 2, none⟩ (.slice (some ⟨g6, 0, none⟩) (M.since.length + 1) c6)).heap[bn]? = (w4.setCell ⟨bn, i, none⟩ (.slice (some ⟨gx, 0, none⟩) 64 64)).heap[bn]? := by
    rw [hk8 bn hn4.ne, hgrow6.block bn (by simp; have := lt_of_heap hcn; omega) (fun e => (hrow bn e.symm).1 rfl), Below.heap_alloc _ _ _ (by simp; exact lt_of_heap hcn)]
  have hnown := ownsRow_later (w' := w6.setCell ⟨d, 2, none⟩ (.slice (some ⟨g6, 0, none⟩) (M.since.length + 1) c6)) (hn4.own.stored i (.slice (some ⟨gx, 0, none⟩) 64 64)).1 (fun g hg => by simp [Value.ownBlock] at hg; subst hg; exact hbn6)
  have hlen : ns.length = M.now.length := by have := hn4.own.1; omega
  have hxlen : xs.length = M.since.length * 2 := hi4.own.1
  have honly : Only S w (w6.setCell ⟨d, 2, none⟩ (.slice (some ⟨g6, 0, none⟩) (M.since.length + 1) c6)) := by
    refine Only.setCell ?_ (p := ⟨d, 2, none⟩) h.sd _
    refine ⟨hgrow6.os.trans hs4.only.os, hgrow6.tape.trans hs4.only.tape, hgrow6.output.trans hs4.only.output, by omega, fun k hk hn => ?_⟩
    rw [hk6 k (by omega) (fun e => hn (by rw [e]; exact h.now.sb)) (fun e => hn (h.since.sb k e).1), hs4.only.block k hk (fun e => hn (by rw [e]; exact h.sd))]
  refine ⟨honly, bn, cn, bs, cs, .slice (some ⟨g6, 0, none⟩) (M.since.length + 1) c6, ns.set i (.slice (some ⟨gx, 0, none⟩) 64 64), ss, xs ++ [.int .i64 (i : Int), .slice (some ⟨gx, 0, none⟩) 64 64], ?_⟩
  refine ⟨?_, Or.inl h.sd, ⟨?_, Or.inl h.now.sb, h.now.ne, ?_⟩, ⟨?_, Or.inl h.safe.sb, h.safe.ne, ?_⟩, ⟨?_, ?_, ?_⟩, ?_, h.ne, ?_, ?_, ?_, h.stp⟩
  · have := (ho6.set2 (.slice (some ⟨g6, 0, none⟩) (M.since.length + 1) c6)).heap
    simpa [DiskM.write] using this
  · simpa [DiskM.write] using hnown
  · intro j m hm
    simp only [DiskM.write, List.getElem?_set] at hm
    by_cases hj : i = j
    · subst hj
      rw [if_pos rfl, if_pos hi] at hm
      injection hm with hm
      subst hm
      exact ⟨_, by rw [List.getElem?_set, if_pos rfl, if_pos (by omega)], hnew⟩
    · rw [if_neg hj] at hm
      obtain ⟨x, hx, hb⟩ := hn4.blk j m hm
      exact ⟨x, by rw [List.getElem?_set, if_neg hj]; exact hx, hbytes x m hb⟩
  · exact ownsRow_later hb4.own (fun g hg => by
      simp [Value.ownBlock] at hg
      subst hg
      rw [hk8 _ h.safe.ne, hk6 _ (lt_of_heap hcs) (fun e => h.ne e.symm) (fun e => (hrow _ e).2.1 rfl)])
  · intro j m hm
    obtain ⟨x, hx, hb⟩ := hb4.blk j m hm
    exact ⟨x, hx, hbytes x m hb⟩
  · have := ownsRow_later (w' := w6.setCell ⟨d, 2, none⟩ (.slice (some ⟨g6, 0, none⟩) (M.since.length + 1) c6)) hown6 (fun g hg => by rw [hv6] at hg; simp [Value.ownBlock] at hg; subst hg; exact hk8 _ hg6.1)
    rw [hv6] at this
    simpa [DiskM.write] using this
  · intro g hg
    simp only [Value.ownBlock, Option.some.injEq] at hg
    subst hg
    refine ⟨?_, hg6.1⟩
    rcases hg6.2.2.2.2 with hs | hn
    · exact Or.inl hs
    · exact Or.inr ⟨hn, by rw [hsz8]; exact hg6lt⟩
  · intro j p hp
    have e1 : (M.write i l).since = M.since ++ [(i, padTo l)] := rfl
    have e2 : (M.write i l).now.length = M.now.length := by simp [DiskM.write]
    rw [e1] at hp
    rw [e2]
    by_cases hj : j < M.since.length
    · rw [List.getElem?_append_left hj] at hp
      obtain ⟨h1, h2, x, h3, h4⟩ := hi4.blk j p hp
      exact ⟨h1, by rw [List.getElem?_append_left (by omega)]; exact h2, x, by rw [List.getElem?_append_left (by omega)]; exact h3, hbytes x _ h4⟩
    · rw [List.getElem?_append_right (by omega)] at hp
      have hj2 : j = M.since.length := by
        obtain ⟨hlt, _⟩ := List.getElem?_eq_some_iff.1 hp
        simp at hlt; omega
      subst hj2
      simp at hp
      subst hp
      exact ⟨hi, by rw [List.getElem?_append_right (by omega), show 2 * M.since.length - xs.length = 0 by omega]; rfl, _, by rw [List.getElem?_append_right (by omega), show 2 * M.since.length + 1 - xs.length = 1 by omega]; rfl, hnew⟩
  · have : (M.write i l).now.length = M.now.length := by simp [DiskM.write]
    rw [this]; exact h.slen
  · have : (M.write i l).now.length = M.now.length := by simp [DiskM.write]
    rw [this]; exact h.pos
  · have : (M.write i l).now.length = M.now.length := by simp [DiskM.write]
    rw [this]; exact h.le
  · intro k hk
    rw [hsz8]
    rcases hk with hk | ⟨_, hk⟩
    · have := h.dom k hk; omega
    · rwa [hsz8] at hk
structure NewRel (w : World) (d k : Nat) (na : Option Addr) (nc : Nat) (ns : List Value) (wr : World) : Prop where
  own : Own wr d (.slice na k nc) (.slice none 0 0) (.slice none 0 0) 0 (-1)
  row : wr.ownsRow (d + 1) 22 1 (.slice na k nc) k ns
  blk : ∀ (i : Nat), i < k → ∃ x, ns[i]? = some x ∧ BlkAt wr (fun g => d < g ∧ g < wr.heap.size) x (some zeros64)
  below : Below d w wr
/-- what a round does -/
theorem new_step {w wr w1 : World} {d k : Nat} {na : Option Addr} {nc g cap : Nat} {ns : List Value} (h : NewRel w d k na nc ns wr)
    (hown1 : w1.ownsRow (d + 1) 22 1 (.slice (some ⟨g, 0, none⟩) (k + 1) cap) (k + 1) (ns ++ [.slice (some ⟨wr.heap.size, 0, none⟩) 64 64]))
    (hgrow : (((wr.alloc (.cells (bytesArr zeros64) 5)).alloc (.cells #[.slice (some ⟨wr.heap.size, 0, none⟩) 64 64] 22)).drew).grownBy w1 (Value.slice na k nc).ownBlock) :
    NewRel w d (k + 1) (some ⟨g, 0, none⟩) cap (ns ++ [.slice (some ⟨wr.heap.size, 0, none⟩) 64 64]) (w1.setCell ⟨d, 0, none⟩ (.slice (some ⟨g, 0, none⟩) (k + 1) cap)) ∧
      w1.cell? ⟨d, 0, none⟩ = some (.slice na k nc) ∧ w1.frozen? ⟨d, 0, none⟩ = false := by
  have hd : d < wr.heap.size := lt_of_heap h.own.heap
  have hrow : ∀ b, (Value.slice na k nc).ownBlock = some b → d + 1 ≤ b ∧ ∃ cur, wr.heap[b]? = some (.cells cur 22 (0, 0)) := fun b hb => by
    obtain ⟨_, h2⟩ := h.row
    rcases h2 with ⟨h2, _⟩ | ⟨g2, _, cur, hv2, hg2, hh2, _⟩
    · rw [h2] at hb; simp [Value.ownBlock] at hb
    · rw [hv2] at hb
      simp only [Value.ownBlock, Option.some.injEq] at hb
      subst hb
      exact ⟨hg2, cur, hh2⟩
  have hsz : wr.heap.size + 2 ≤ w1.heap.size := by have := hgrow.size; simpa using this
  have hk : ∀ b, b < wr.heap.size → (Value.slice na k nc).ownBlock ≠ some b → w1.heap[b]? = wr.heap[b]? := fun b hb hn => by
    rw [hgrow.block b (by simp; omega) (fun e => hn e.symm)]
    show ((wr.alloc _).alloc _).heap[b]? = _
    rw [Below.heap_alloc _ _ _ (by simp; omega), Below.heap_alloc _ _ _ hb]
  have hd1 : w1.heap[d]? = wr.heap[d]? := hk d hd (fun e => by have := (hrow d e).1; omega)
  have ho1 : Own w1 d (.slice na k nc) (.slice none 0 0) (.slice none 0 0) 0 (-1) := ⟨by rw [hd1]; exact h.own.heap⟩
  have hz : w1.heap[wr.heap.size]? = some (.cells (bytesArr zeros64) 5 (0, 0)) := by
    rw [hgrow.block _ (by simp; omega) (fun e => by
      obtain ⟨_, cur, hc⟩ := hrow _ e.symm
      have := lt_of_heap hc; omega)]
    show ((wr.alloc _).alloc _).heap[wr.heap.size]? = _
    rw [Below.heap_alloc _ _ _ (by simp)]
    exact heap_alloc_at rfl _
  have hkd : ∀ b, b ≠ d → (w1.setCell ⟨d, 0, none⟩ (.slice (some ⟨g, 0, none⟩) (k + 1) cap)).heap[b]? = w1.heap[b]? := fun b hb => setCell_heap_ne hb
  have hss : (w1.setCell ⟨d, 0, none⟩ (.slice (some ⟨g, 0, none⟩) (k + 1) cap)).heap.size = w1.heap.size := by simp
  refine ⟨⟨ho1.set0 _, ownsRow_later hown1 (fun b hb => ?_), fun i hi => ?_, ?_⟩, ho1.c0, ho1.free 0⟩
  · simp only [Value.ownBlock, Option.some.injEq] at hb
    subst hb
    refine hkd _ ?_
    obtain ⟨_, h2⟩ := hown1
    rcases h2 with ⟨h2, _⟩ | ⟨g2, _, cur, hv2, hg2, _⟩
    · cases h2
    · injection hv2 with hv2 _ _
      injection hv2 with hv2
      injection hv2 with hv2 _ _
      omega
  · have hlen : ns.length = k := by have := h.row.1; omega
    by_cases hik : i < k
    · obtain ⟨x, hx, hb⟩ := h.blk i hik
      refine ⟨x, by rw [List.getElem?_append_left (by omega)]; exact hx, hb.later (fun b l hg hh => ?_) (fun b hb => ⟨hb.1, by rw [hss]; omega⟩)⟩
      rw [hkd b (by omega), hk b hg.2 (fun e => by
        obtain ⟨_, cur, hc⟩ := hrow _ e
        exact (type_ne hh hc (by decide)) rfl)]
    · have : i = k := by omega
      subst this
      refine ⟨_, by rw [List.getElem?_append_right (by omega), show i - ns.length = 0 by omega]; rfl, by simp [zeros64], wr.heap.size, rfl, ⟨hd, by rw [hss]; omega⟩, ?_⟩
      rw [hkd _ (by omega)]
      exact hz
  · refine Below.setCell ?_ (Nat.le_refl d) _
    refine ((((h.below.alloc (by omega) _).alloc (by simp; omega) _).drew).grown hgrow (by simp; omega) (fun b hb => ?_))
    have := (hrow b hb).1
    omega
theorem new_end {w wr w3 : World} {d n b nc g cap : Nat} {ns : List Value} (h : NewRel w d n (some ⟨b, 0, none⟩) nc ns wr) (h1 : 1 ≤ n) (h2 : n ≤ 200) (hown3 : w3.ownsRow 0 22 1 (.slice (some ⟨g, 0, none⟩) n cap) n ns) (hb3 : Below wr.heap.size wr w3) (hg : wr.heap.size ≤ g) :
    Below d w (w3.setCell ⟨d, 1, none⟩ (.slice (some ⟨g, 0, none⟩) n cap)) ∧
      DiskAt (w3.setCell ⟨d, 1, none⟩ (.slice (some ⟨g, 0, none⟩) n cap)) (fun k => d ≤ k ∧ k < (w3.setCell ⟨d, 1, none⟩ (.slice (some ⟨g, 0, none⟩) n cap)).heap.size) d (DiskM.new n) := by
  have hd : d < wr.heap.size := lt_of_heap h.own.heap
  have ho3 := h.own.later hb3
  have hkd : ∀ k, k ≠ d → (w3.setCell ⟨d, 1, none⟩ (.slice (some ⟨g, 0, none⟩) n cap)).heap[k]? = w3.heap[k]? := fun k hk => setCell_heap_ne hk
  have hss : (w3.setCell ⟨d, 1, none⟩ (.slice (some ⟨g, 0, none⟩) n cap)).heap.size = w3.heap.size := by simp
  have hsz := hb3.size
  have hbg : d + 1 ≤ b ∧ b < wr.heap.size := by
    obtain ⟨_, h3⟩ := h.row
    rcases h3 with ⟨_, h3⟩ | ⟨b', c, cur, hv, hb, hh, _⟩
    · omega
    · injection hv with hv _ _
      injection hv with hv
      injection hv with hv _ _
      rw [hv]; exact ⟨hb, lt_of_heap hh⟩
  have hg3 : g < w3.heap.size := by
    obtain ⟨g', c', hv, _, hlt, _⟩ := ownsRow_some hown3 (by omega)
    injection hv with hv _ _
    injection hv with hv
    injection hv with hv _ _
    rw [hv]; exact hlt
  refine ⟨(h.below.trans (hb3.mono (by omega))).setCell (Nat.le_refl d) _, b, nc, g, cap, .slice none 0 0, ns, ns, [], ?_⟩
  have e1 : (DiskM.new n).now.length = n := by simp [DiskM.new]
  have e2 : (DiskM.new n).safe.length = n := by simp [DiskM.new]
  have hblk : ∀ (i : Nat) (m : Option (List UInt8)), (List.replicate n (some zeros64))[i]? = some m → ∃ x, ns[i]? = some x ∧ BlkAt (w3.setCell ⟨d, 1, none⟩ (.slice (some ⟨g, 0, none⟩) n cap)) (fun k => (d ≤ k ∧ k < (w3.setCell ⟨d, 1, none⟩ (.slice (some ⟨g, 0, none⟩) n cap)).heap.size) ∧ k ≠ d) x m := by
    intro i m hm
    rw [List.getElem?_replicate] at hm
    split at hm
    · rename_i hi
      injection hm with hm
      subst hm
      obtain ⟨x, hx, hb⟩ := h.blk i hi
      refine ⟨x, hx, hb.later (fun k l hk hh => ?_) (fun k hk => ⟨⟨by omega, by rw [hss]; omega⟩, by omega⟩)⟩
      rw [hkd k (by omega), hb3.block k hk.2]
    · cases hm
  refine ⟨?_, ⟨Nat.le_refl _, by rw [hss]; omega⟩, ⟨?_, ⟨by omega, by rw [hss]; omega⟩, by omega, hblk⟩, ⟨?_, ⟨by omega, by rw [hss]; omega⟩, by omega, hblk⟩, ⟨World.ownsRow_nil _ _ _ _, (fun k hk => by simp [Value.ownBlock] at hk), (fun i p hp => by simp [DiskM.new] at hp)⟩, by rw [e1, e2], by omega, by rw [e1]; omega, by rw [e1]; omega, (fun k hk => hk.2), by simp [DiskM.new]⟩
  · rw [e1, e2]; exact (ho3.set1 _).heap
  · rw [e1]
    exact ownsRow_later (ownsRow_base h.row 0) (fun k hk => by
      simp only [Value.ownBlock, Option.some.injEq] at hk
      subst hk
      rw [hkd _ (by omega), hb3.block _ hbg.2])
  · rw [e2]
    exact ownsRow_later hown3 (fun k hk => by
      simp only [Value.ownBlock, Option.some.injEq] at hk
      subst hk
      exact hkd _ (by omega))
/-- the disk behind a crash -/
theorem crash_end {w wr w3 : World} {S : Nat → Prop} {d bl cl g cap : Nat} {M : DiskM} {keep : List Int} {torn : Int} {ls : List Value} (hd : DiskAt w S d M)
    (h : CrashRel w S d M.now.length bl cl (crashTo M.since keep torn M.safe M.since.length) ls wr) (hb3 : Below wr.heap.size wr w3) (hg : wr.heap.size ≤ g) (hown3 : w3.ownsRow 0 22 1 (.slice (some ⟨g, 0, none⟩) M.now.length cap) M.now.length ls) :
    Own (((((w3.setCell ⟨d, 0, none⟩ (.slice (some ⟨bl, 0, none⟩) M.now.length cl)).setCell ⟨d, 1, none⟩ (.slice (some ⟨g, 0, none⟩) M.now.length cap)).setCell ⟨d, 2, none⟩ (.slice none 0 0)).setCell ⟨d, 3, none⟩ (.int .i64 0)).setCell ⟨d, 4, none⟩ (.int .i64 (-1))) d (.slice (some ⟨bl, 0, none⟩) M.now.length cl) (.slice (some ⟨g, 0, none⟩) M.now.length cap) (.slice none 0 0) 0 (-1) ∧
      Only S w (((((w3.setCell ⟨d, 0, none⟩ (.slice (some ⟨bl, 0, none⟩) M.now.length cl)).setCell ⟨d, 1, none⟩ (.slice (some ⟨g, 0, none⟩) M.now.length cap)).setCell ⟨d, 2, none⟩ (.slice none 0 0)).setCell ⟨d, 3, none⟩ (.int .i64 0)).setCell ⟨d, 4, none⟩ (.int .i64 (-1))) ∧
      DiskAt (((((w3.setCell ⟨d, 0, none⟩ (.slice (some ⟨bl, 0, none⟩) M.now.length cl)).setCell ⟨d, 1, none⟩ (.slice (some ⟨g, 0, none⟩) M.now.length cap)).setCell ⟨d, 2, none⟩ (.slice none 0 0)).setCell ⟨d, 3, none⟩ (.int .i64 0)).setCell ⟨d, 4, none⟩ (.int .i64 (-1))) (Grow S w (((((w3.setCell ⟨d, 0, none⟩ (.slice (some ⟨bl, 0, none⟩) M.now.length cl)).setCell ⟨d, 1, none⟩ (.slice (some ⟨g, 0, none⟩) M.now.length cap)).setCell ⟨d, 2, none⟩ (.slice none 0 0)).setCell ⟨d, 3, none⟩ (.int .i64 0)).setCell ⟨d, 4, none⟩ (.int .i64 (-1)))) d (M.crash keep torn) := by
  obtain ⟨bn, cn, bs, cs, sv, ns, ss, xs, hi⟩ := hd
  have ho0 : Own w d _ _ _ _ _ := ⟨hi.self⟩
  have hdl := ho0.lt
  have hbw : Below w.heap.size w w3 := h.below.trans (hb3.mono h.below.size)
  have ho3 := ho0.later hbw
  have ho := ((((ho3.set0 (.slice (some ⟨bl, 0, none⟩) M.now.length cl)).set1 (.slice (some ⟨g, 0, none⟩) M.now.length cap)).set2 (.slice none 0 0)).set3 0).set4 (-1)
  have hS := hi.dom
  have hon := ((((((Only.of_below (S := S) hbw).setCell (p := ⟨d, 0, none⟩) hi.sd (.slice (some ⟨bl, 0, none⟩) M.now.length cl)).setCell (p := ⟨d, 1, none⟩) hi.sd (.slice (some ⟨g, 0, none⟩) M.now.length cap)).setCell (p := ⟨d, 2, none⟩) hi.sd (.slice none 0 0)).setCell (p := ⟨d, 3, none⟩) hi.sd (.int .i64 0)).setCell (p := ⟨d, 4, none⟩) hi.sd (.int .i64 (-1)))
  refine ⟨ho, hon, bl, cl, g, cap, .slice none 0 0, ls, ls, [], ?_⟩
  generalize hw : (((((w3.setCell ⟨d, 0, none⟩ (.slice (some ⟨bl, 0, none⟩) M.now.length cl)).setCell ⟨d, 1, none⟩ (.slice (some ⟨g, 0, none⟩) M.now.length cap)).setCell ⟨d, 2, none⟩ (.slice none 0 0)).setCell ⟨d, 3, none⟩ (.int .i64 0)).setCell ⟨d, 4, none⟩ (.int .i64 (-1))) = wf at *
  have hkd : ∀ k, k ≠ d → wf.heap[k]? = w3.heap[k]? := fun k hk => by
    rw [← hw, setCell_heap_ne hk, setCell_heap_ne hk, setCell_heap_ne hk, setCell_heap_ne hk, setCell_heap_ne hk]
  have hss : wf.heap.size = w3.heap.size := by rw [← hw]; simp
  have hsz := hb3.size
  have hsz2 := h.below.size
  have hnew := h.new
  have hlt := h.lt
  have hg3 : g < w3.heap.size := by
    obtain ⟨g', c', hv, _, hlt, _⟩ := ownsRow_some hown3 hi.pos
    injection hv with hv _ _
    injection hv with hv
    injection hv with hv _ _
    rw [hv]; exact hlt
  have e1 : (M.crash keep torn).now.length = M.now.length := by simp [DiskM.crash, crashTo_len, hi.slen]
  have e2 : (M.crash keep torn).safe.length = M.now.length := by simp [DiskM.crash, crashTo_len, hi.slen]
  have hblk : ∀ (i : Nat) (m : Option (List UInt8)), (crashTo M.since keep torn M.safe M.since.length)[i]? = some m → ∃ x, ls[i]? = some x ∧ BlkAt wf (fun k => Grow S w wf k ∧ k ≠ d) x m := by
    intro i m hm
    obtain ⟨x, hx, hx2⟩ := h.blk i m hm
    exact ⟨x, hx, hx2.later (fun k _ hk _ => by rw [hkd k hk.2, hb3.block k (by have := hS k hk.1; omega)]) (fun k hk => ⟨Or.inl hk.1, hk.2⟩)⟩
  refine ⟨?_, Or.inl hi.sd, ⟨?_, Or.inr ⟨hnew, by omega⟩, by omega, hblk⟩, ⟨?_, Or.inr ⟨by omega, by omega⟩, by omega, hblk⟩, ⟨World.ownsRow_nil _ _ _ _, (fun k hk => by simp [Value.ownBlock] at hk), (fun i p hp => by simp [DiskM.crash] at hp)⟩, by rw [e1, e2], by omega, by rw [e1]; exact hi.pos, by rw [e1]; exact hi.le, ?_, by simp [DiskM.crash]⟩
  · rw [e1, e2]; exact ho.heap
  · rw [e1]
    exact ownsRow_later h.row (fun k hk => by
      simp only [Value.ownBlock, Option.some.injEq] at hk
      subst hk
      rw [hkd _ (by omega), hb3.block _ hlt])
  · rw [e2]
    exact ownsRow_later hown3 (fun k hk => by
      simp only [Value.ownBlock, Option.some.injEq] at hk
      subst hk
      exact hkd _ (by omega))
  · intro k hk
    rcases hk with hk | ⟨_, hk⟩
    · have := hS k hk; omega
    · exact hk
theorem infoWr : (Tryd.prog.info? 127).map (fun i => (i.zero, i.size, i.bytes)) = some (some (.agg #[.int .i64 0, .slice none 0 0]), 2, 32) := by kernel_rfl
/-- a disk whose blocks lie from B on and are none of F's -/
def DiskF (B : Nat) (F : Nat → Prop) (w : World) (d : Nat) (M : DiskM) : Prop := ∃ S, DiskAt w S d M ∧ (∀ k, S k → B ≤ k ∧ ¬ F k) ∧ B ≤ w.heap.size ∧ ∀ k, F k → k < w.heap.size
theorem DiskF.later {B : Nat} {F : Nat → Prop} {w w' : World} {d : Nat} {M : DiskM} (h : DiskF B F w d M) (hb : Below w.heap.size w w') : DiskF B F w' d M := by
  obtain ⟨S, h1, h2, h3, h4⟩ := h
  exact ⟨S, h1.later hb, h2, Nat.le_trans h3 hb.size, fun k hk => Nat.lt_of_lt_of_le (h4 k hk) hb.size⟩
/-- the new blocks are others' -/
theorem DiskF.more {B : Nat} {F : Nat → Prop} {w w' : World} {d : Nat} {M : DiskM} (h : DiskF B F w d M) (hb : Below w.heap.size w w') (G : Nat → Prop) (hG : ∀ k, G k → F k ∨ (w.heap.size ≤ k ∧ k < w'.heap.size)) : DiskF B G w' d M := by
  obtain ⟨S, h1, h2, h3, h4⟩ := h
  have hdom : ∀ k, S k → k < w.heap.size := by obtain ⟨_, _, _, _, _, _, _, _, hd⟩ := h1; exact hd.dom
  refine ⟨S, h1.later hb, fun k hk => ⟨(h2 k hk).1, fun hg => ?_⟩, Nat.le_trans h3 hb.size, fun k hk => ?_⟩
  · rcases hG k hg with hf | ⟨hf, _⟩
    · exact (h2 k hk).2 hf
    · have := hdom k hk; omega
  · rcases hG k hk with hf | ⟨_, hf⟩
    · exact Nat.lt_of_lt_of_le (h4 k hf) hb.size
    · exact hf
/-- others write into their own blocks -/
theorem DiskF.stays {B : Nat} {F : Nat → Prop} {w w' : World} {d : Nat} {M : DiskM} (h : DiskF B F w d M) (ho : Only F w w') : DiskF B F w' d M := by
  obtain ⟨S, h1, h2, h3, h4⟩ := h
  exact ⟨S, h1.apart ho (fun k hk => (h2 k hk).2), h2, Nat.le_trans h3 ho.size, fun k hk => Nat.lt_of_lt_of_le (h4 k hk) ho.size⟩
theorem DiskF.lt {B : Nat} {F : Nat → Prop} {w : World} {d : Nat} {M : DiskM} (h : DiskF B F w d M) : B ≤ w.heap.size ∧ ∀ k, F k → k < w.heap.size := by
  obtain ⟨S, _, _, h3, h4⟩ := h
  exact ⟨h3, h4⟩
def StepF (B : Nat) (F : Nat → Prop) (w : World) (d : Nat) (r : Value) (M' : DiskM) (e : Ending) (w' : World) : Prop := e = .returned r ∧ Stays B F w w' ∧ DiskF B F w' d M'
theorem stepF_of {B : Nat} {F : Nat → Prop} {w w' : World} {S : Nat → Prop} {d : Nat} {M' : DiskM} (h2 : ∀ k, S k → B ≤ k ∧ ¬ F k) (h3 : B ≤ w.heap.size) (h4 : ∀ k, F k → k < w.heap.size) (ho : Only S w w') (hd : DiskAt w' (Grow S w w') d M') : Stays B F w w' ∧ DiskF B F w' d M' := by
  refine ⟨⟨ho.below h3 (fun k hk => (h2 k hk).1), fun k hk => ho.block k (h4 k hk) (fun hs => (h2 k hs).2 hk)⟩, Grow S w w', hd, fun k hk => ?_, Nat.le_trans h3 ho.size, fun k hk => Nat.lt_of_lt_of_le (h4 k hk) ho.size⟩
  rcases hk with hk | ⟨hk, _⟩
  · exact h2 k hk
  · exact ⟨by omega, fun hf => by have := h4 k hf; omega⟩
theorem stepF_below {B : Nat} {F : Nat → Prop} {w w' : World} {S : Nat → Prop} {d : Nat} {M : DiskM} (h1 : DiskAt w S d M) (h2 : ∀ k, S k → B ≤ k ∧ ¬ F k) (h3 : B ≤ w.heap.size) (h4 : ∀ k, F k → k < w.heap.size) (hb : Below w.heap.size w w') : Stays B F w w' ∧ DiskF B F w' d M :=
  ⟨Stays.of_below hb h3 h4, (DiskF.later ⟨S, h1, h2, h3, h4⟩ hb)⟩
end Go.Proofs.YtldpflijgbcbhaaDoor.kk
