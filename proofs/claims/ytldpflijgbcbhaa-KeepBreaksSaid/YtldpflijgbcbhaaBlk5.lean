/- A disk in memory ('DiskIs'), and its small methods: stopped, Steps, Blocks, Fail. -/
import Derived.Test.YtldpflijgbcbhaaBlk1
import Derived.BigQuiet
import Derived.Deep.QuietTactic
import Derived.WalkSmall
namespace Go.Proofs.Ytldpflijgbcbhaa
open Go.RowKit

/-- a disk, in plain terms: its blocks now, those that are safe, what was written since, steps, where it stops -/
structure DiskM where
  now : List (Option (List UInt8))
  safe : List (Option (List UInt8))
  since : List (Nat × List UInt8)
  steps : Nat
  stop : Int

def DiskM.stopped (M : DiskM) : Bool := decide (0 ≤ M.stop) && decide (M.stop ≤ (M.steps : Int))

/-- a row of blocks in memory: its block is b, not d -/
structure RowIs (w : World) (S : Nat → Prop) (d : Nat) (b c : Nat) (l : List (Option (List UInt8))) (ns : List Value) : Prop where
  own : w.ownsRow 0 23 1 (.slice (some ⟨b, 0, none⟩) l.length c) l.length ns
  sb : S b
  ne : b ≠ d
  blk : ∀ (i : Nat) (m : Option (List UInt8)), l[i]? = some m → ∃ x, ns[i]? = some x ∧ BlkAt w (fun k => S k ∧ k ≠ d) x m

/-- what was written since: its row of pairs -/
structure SinceIs (w : World) (S : Nat → Prop) (d n : Nat) (sv : Value) (l : List (Nat × List UInt8)) (xs : List Value) : Prop where
  own : w.ownsRow 0 106 2 sv l.length xs
  sb : ∀ g, sv.ownBlock = some g → S g ∧ g ≠ d
  blk : ∀ (i : Nat) (p : Nat × List UInt8), l[i]? = some p → p.1 < n ∧ xs[2 * i]? = some (.int .i64 p.1) ∧ ∃ x, xs[2 * i + 1]? = some x ∧ BlkAt w (fun k => S k ∧ k ≠ d) x (some p.2)

theorem ownsRow_later {w w' : World} {base : Nat} {e : TypeId} {sz : Nat} {v : Value} {n : Nat} {xs : List Value} (h : w.ownsRow base e sz v n xs) (hk : ∀ g, v.ownBlock = some g → w'.heap[g]? = w.heap[g]?) : w'.ownsRow base e sz v n xs := by
  obtain ⟨h1, h2⟩ := h
  refine ⟨h1, ?_⟩
  rcases h2 with h2 | ⟨g, cap, cur, hv, hg, hh, r⟩
  · exact Or.inl h2
  · exact Or.inr ⟨g, cap, cur, hv, hg, by rw [hk g (by rw [hv]; rfl)]; exact hh, r⟩

theorem RowIs.later {w w' : World} {S S' : Nat → Prop} {d b c : Nat} {l : List (Option (List UInt8))} {ns : List Value} (h : RowIs w S d b c l ns) (hk : ∀ k, S k → k ≠ d → w'.heap[k]? = w.heap[k]?) (hS : ∀ k, S k → S' k) : RowIs w' S' d b c l ns where
  own := ownsRow_later h.own (fun g hg => by simp [Value.ownBlock] at hg; subst hg; exact hk _ h.sb h.ne)
  sb := hS _ h.sb
  ne := h.ne
  blk := fun i m hm => by obtain ⟨x, hx, hb⟩ := h.blk i m hm; exact ⟨x, hx, hb.later (fun g _ hg _ => hk g hg.1 hg.2) (fun k h => ⟨hS k h.1, h.2⟩)⟩
theorem SinceIs.later {w w' : World} {S S' : Nat → Prop} {d n : Nat} {sv : Value} {l : List (Nat × List UInt8)} {xs : List Value} (h : SinceIs w S d n sv l xs) (hk : ∀ k, S k → k ≠ d → w'.heap[k]? = w.heap[k]?) (hS : ∀ k, S k → S' k) : SinceIs w' S' d n sv l xs where
  own := ownsRow_later h.own (fun g hg => hk g (h.sb g hg).1 (h.sb g hg).2)
  sb := fun g hg => ⟨hS g (h.sb g hg).1, (h.sb g hg).2⟩
  blk := fun i p hp => by obtain ⟨h1, h2, x, hx, hb⟩ := h.blk i p hp; exact ⟨h1, h2, x, hx, hb.later (fun g _ hg _ => hk g hg.1 hg.2) (fun k h => ⟨hS k h.1, h.2⟩)⟩

structure DiskIs (w : World) (S : Nat → Prop) (d : Nat) (M : DiskM) (bn cn bs cs : Nat) (sv : Value) (ns ss xs : List Value) : Prop where
  self : w.heap[d]? = some (.cells #[.slice (some ⟨bn, 0, none⟩) M.now.length cn, .slice (some ⟨bs, 0, none⟩) M.safe.length cs, sv, .int .i64 M.steps, .int .i64 M.stop] 94 (0, 0))
  sd : S d
  now : RowIs w S d bn cn M.now ns
  safe : RowIs w S d bs cs M.safe ss
  since : SinceIs w S d M.now.length sv M.since xs
  slen : M.safe.length = M.now.length
  ne : bn ≠ bs
  pos : 0 < M.now.length
  le : M.now.length ≤ 200
  dom : ∀ k, S k → k < w.heap.size
  stp : M.stop ≤ 9223372036854775807 ∧ -1 ≤ M.stop

theorem DiskIs.later {w w' : World} {S : Nat → Prop} {d : Nat} {M : DiskM} {bn cn bs cs : Nat} {sv : Value} {ns ss xs : List Value} (h : DiskIs w S d M bn cn bs cs sv ns ss xs) (hk : ∀ k, S k → w'.heap[k]? = w.heap[k]?) (hsz : w.heap.size ≤ w'.heap.size) :
    DiskIs w' S d M bn cn bs cs sv ns ss xs where
  self := by rw [hk d h.sd]; exact h.self
  sd := h.sd
  now := h.now.later (fun k hs _ => hk k hs) (fun _ h => h)
  safe := h.safe.later (fun k hs _ => hk k hs) (fun _ h => h)
  since := h.since.later (fun k hs _ => hk k hs) (fun _ h => h)
  slen := h.slen
  ne := h.ne
  pos := h.pos
  le := h.le
  dom := fun k hk' => Nat.lt_of_lt_of_le (h.dom k hk') hsz
  stp := h.stp

/-- the blocks of S, and the new ones -/
def Grow (S : Nat → Prop) (w w' : World) : Nat → Prop := fun k => S k ∨ (w.heap.size ≤ k ∧ k < w'.heap.size)

/-- a disk whose blocks are among S -/
def DiskAt (w : World) (S : Nat → Prop) (d : Nat) (M : DiskM) : Prop := ∃ bn cn bs cs sv ns ss xs, DiskIs w S d M bn cn bs cs sv ns ss xs

theorem DiskAt.later {w w' : World} {S : Nat → Prop} {d : Nat} {M : DiskM} (h : DiskAt w S d M) (hb : Below w.heap.size w w') : DiskAt w' S d M := by
  obtain ⟨bn, cn, bs, cs, sv, ns, ss, xs, h⟩ := h
  exact ⟨bn, cn, bs, cs, sv, ns, ss, xs, h.later (fun k hk => hb.block k (h.dom k hk)) hb.size⟩
/-- what another one does leaves it -/
theorem DiskAt.apart {w w' : World} {S T : Nat → Prop} {d : Nat} {M : DiskM} (h : DiskAt w S d M) (ho : Only T w w') (hT : ∀ k, S k → ¬ T k) : DiskAt w' S d M := by
  obtain ⟨bn, cn, bs, cs, sv, ns, ss, xs, h⟩ := h
  exact ⟨bn, cn, bs, cs, sv, ns, ss, xs, h.later (fun k hk => ho.block k (h.dom k hk) (hT k hk)) ho.size⟩

set_option maxHeartbeats 1000000 in
theorem stopped_any (w : World) (S : Nat → Prop) (d : Nat) (M : DiskM) (h : DiskAt w S d M) (_ : M.steps ≤ 1000000000000) :
    Calls Try.prog 74 #[.pointer (some ⟨d, 0, none⟩)] w fun e w' => e = .returned (.bool M.stopped) ∧ Below w.heap.size w w' := by
  obtain ⟨bn, cn, bs, cs, sv, ns, ss, xs, h⟩ := h
  have c3 : w.cell? ⟨d, 3, none⟩ = some (.int .i64 M.steps) := by rw [cell_of_heap h.self]; rfl
  have c4 : w.cell? ⟨d, 4, none⟩ = some (.int .i64 M.stop) := by rw [cell_of_heap h.self]; rfl
  have hst := h.stp
  have hb : Hid (M.stopped = (decide (0 ≤ M.stop) && decide (M.stop ≤ (M.steps : Int)))) := rfl
  clear h
  generalize M.stopped = b at hb
  generalize M.stop = t at *
  generalize M.steps = n at *
  by_cases h0 : 0 ≤ t
  · by_cases h1 : t ≤ (n : Int)
    · have hbt : b = true := by rw [hb.out]; simp [h0, h1]
      subst hbt
      go_enter Try.func74, Try.ntmps74
      go_wp2_with fail
      go_quiet (fail)
      go_wp2_with fail
      go_ret
      exact ⟨ret_bool (by simp), below_drewN (Below.refl _ _) _⟩
    · have hbt : b = false := by rw [hb.out]; simp [h1]
      subst hbt
      go_enter Try.func74, Try.ntmps74
      go_wp2_with fail
      go_quiet (fail)
      go_wp2_with fail
      go_ret
      exact ⟨ret_bool (by simp [h1]), below_drewN (Below.refl _ _) _⟩
  · have hbt : b = false := by rw [hb.out]; simp [h0]
    have h0d : decide (0 ≤ t) = false := decide_eq_false h0
    subst hbt
    go_enter Try.func74, Try.ntmps74
    go_wp2_with fail
    go_quiet (fail)
    go_wp2_with fail
    go_ret
    exact ⟨rfl, below_drewN (Below.refl _ _) _⟩
end Go.Proofs.Ytldpflijgbcbhaa

/- Flush of a disk: what it answers, and what the disk is then. -/
namespace Go.Proofs.Ytldpflijgbcbhaa
open Go.RowKit

theorem RowIs.one {w : World} {S : Nat → Prop} {d b c : Nat} {l : List (Option (List UInt8))} {ns : List Value} (h : RowIs w S d b c l ns) : ∀ v ∈ ns, v.oneCell' = true := by
  intro v hv
  obtain ⟨i, hi, rfl⟩ := List.getElem_of_mem hv
  have hl : i < l.length := by have := h.own.1; omega
  obtain ⟨x, hx, hb⟩ := h.blk i l[i] (by simp [hl])
  rw [List.getElem?_eq_getElem hi] at hx
  injection hx with hx
  rw [hx]
  cases hm : l[i] with
  | none => rw [hm] at hb; rw [show x = .slice none 0 0 from hb]; rfl
  | some m => rw [hm] at hb; obtain ⟨_, g, hx, _⟩ := hb; rw [hx]; rfl

/-- the disk's own block, and that it may be written -/
structure Own (w : World) (d : Nat) (nv sfv sv : Value) (steps : Nat) (stop : Int) : Prop where
  heap : w.heap[d]? = some (.cells #[nv, sfv, sv, .int .i64 steps, .int .i64 stop] 94 (0, 0))
theorem Own.c0 {w : World} {d : Nat} {nv sfv sv : Value} {steps : Nat} {stop : Int} (h : Own w d nv sfv sv steps stop) : w.cell? ⟨d, 0, none⟩ = some nv := by rw [cell_of_heap h.heap]; rfl
theorem Own.c1 {w : World} {d : Nat} {nv sfv sv : Value} {steps : Nat} {stop : Int} (h : Own w d nv sfv sv steps stop) : w.cell? ⟨d, 1, none⟩ = some sfv := by rw [cell_of_heap h.heap]; rfl
theorem Own.c2 {w : World} {d : Nat} {nv sfv sv : Value} {steps : Nat} {stop : Int} (h : Own w d nv sfv sv steps stop) : w.cell? ⟨d, 2, none⟩ = some sv := by rw [cell_of_heap h.heap]; rfl
theorem Own.c3 {w : World} {d : Nat} {nv sfv sv : Value} {steps : Nat} {stop : Int} (h : Own w d nv sfv sv steps stop) : w.cell? ⟨d, 3, none⟩ = some (.int .i64 steps) := by rw [cell_of_heap h.heap]; rfl
theorem Own.c4 {w : World} {d : Nat} {nv sfv sv : Value} {steps : Nat} {stop : Int} (h : Own w d nv sfv sv steps stop) : w.cell? ⟨d, 4, none⟩ = some (.int .i64 stop) := by rw [cell_of_heap h.heap]; rfl
theorem Own.free {w : World} {d : Nat} {nv sfv sv : Value} {steps : Nat} {stop : Int} (h : Own w d nv sfv sv steps stop) (j : Nat) : w.frozen? ⟨d, j, none⟩ = false := free_of_heap h.heap j
theorem Own.later {w w' : World} {d : Nat} {nv sfv sv : Value} {steps : Nat} {stop : Int} (h : Own w d nv sfv sv steps stop) (hb : Below w.heap.size w w') : Own w' d nv sfv sv steps stop := ⟨by rw [hb.block d (lt_of_heap h.heap)]; exact h.heap⟩
theorem Own.lt {w : World} {d : Nat} {nv sfv sv : Value} {steps : Nat} {stop : Int} (h : Own w d nv sfv sv steps stop) : d < w.heap.size := lt_of_heap h.heap
theorem Own.set0 {w : World} {d : Nat} {nv sfv sv : Value} {steps : Nat} {stop : Int} (h : Own w d nv sfv sv steps stop) (v : Value) : Own (w.setCell ⟨d, 0, none⟩ v) d v sfv sv steps stop := ⟨heap_setCell_same h.heap v⟩
theorem Own.set1 {w : World} {d : Nat} {nv sfv sv : Value} {steps : Nat} {stop : Int} (h : Own w d nv sfv sv steps stop) (v : Value) : Own (w.setCell ⟨d, 1, none⟩ v) d nv v sv steps stop := ⟨heap_setCell_same h.heap v⟩
theorem Own.set2 {w : World} {d : Nat} {nv sfv sv : Value} {steps : Nat} {stop : Int} (h : Own w d nv sfv sv steps stop) (v : Value) : Own (w.setCell ⟨d, 2, none⟩ v) d nv sfv v steps stop := ⟨heap_setCell_same h.heap v⟩
theorem Own.set3 {w : World} {d : Nat} {nv sfv sv : Value} {steps : Nat} {stop : Int} (h : Own w d nv sfv sv steps stop) (n : Nat) : Own (w.setCell ⟨d, 3, none⟩ (.int .i64 (n : Int))) d nv sfv sv n stop := ⟨heap_setCell_same h.heap _⟩
theorem Own.set4 {w : World} {d : Nat} {nv sfv sv : Value} {steps : Nat} {stop : Int} (h : Own w d nv sfv sv steps stop) (n : Int) : Own (w.setCell ⟨d, 4, none⟩ (.int .i64 n)) d nv sfv sv steps n := ⟨heap_setCell_same h.heap _⟩

/-- only the disk's own block and new ones have turned -/
structure Since (d : Nat) (w w' : World) : Prop where
  only : Only (fun k => k = d) w w'
theorem Since.refl (d : Nat) (w : World) : Since d w w := ⟨Only.refl _ _⟩
theorem Since.set {d : Nat} {w w' : World} (h : Since d w w') (j : Nat) (v : Value) : Since d w (w'.setCell ⟨d, j, none⟩ v) := ⟨h.only.setCell (p := ⟨d, j, none⟩) rfl v⟩
theorem Since.below {d : Nat} {w w' w'' : World} (h : Since d w w') (hb : Below w'.heap.size w' w'') : Since d w w'' := ⟨h.only.later hb⟩

def DiskM.flush (M : DiskM) : DiskM := { M with safe := M.now, since := [], steps := M.steps + 1 }

def DiskPost (S : Nat → Prop) (d : Nat) (w : World) (M' : DiskM) (r : Value) (e : Ending) (w' : World) : Prop :=
  e = .returned r ∧ Only S w w' ∧ DiskAt w' (Grow S w w') d M'

theorem setCell_heap_ne {w : World} {d j k : Nat} {v : Value} (h : k ≠ d) : (w.setCell ⟨d, j, none⟩ v).heap[k]? = w.heap[k]? := Below.heap_setCell _ _ _ _ h

/-- what a disk is when all was made safe -/
theorem flush_end {w w2 w3 : World} {S : Nat → Prop} {d : Nat} {M : DiskM} {bn cn bs cs g cap' : Nat} {sv : Value} {ns ss xs : List Value} (h : DiskIs w S d M bn cn bs cs sv ns ss xs)
    (_ : Own w2 d (.slice (some ⟨bn, 0, none⟩) M.now.length cn) (.slice (some ⟨bs, 0, none⟩) M.safe.length cs) sv (M.steps + 1) M.stop) (hs2 : Since d w w2) (hr2 : RowIs w2 S d bn cn M.now ns) (hb3 : Below w2.heap.size w2 w3) (hg : w2.heap.size ≤ g)
    (hown3 : w3.ownsRow 0 23 1 (.slice (some ⟨g, 0, none⟩) M.now.length cap') M.now.length ns)
    (ho5 : Own ((w3.setCell ⟨d, 1, none⟩ (.slice (some ⟨g, 0, none⟩) M.now.length cap')).setCell ⟨d, 2, none⟩ (.slice none 0 0)) d (.slice (some ⟨bn, 0, none⟩) M.now.length cn) (.slice (some ⟨g, 0, none⟩) M.now.length cap') (.slice none 0 0) (M.steps + 1) M.stop)
    (hs5 : Since d w ((w3.setCell ⟨d, 1, none⟩ (.slice (some ⟨g, 0, none⟩) M.now.length cap')).setCell ⟨d, 2, none⟩ (.slice none 0 0))) :
    Only S w ((w3.setCell ⟨d, 1, none⟩ (.slice (some ⟨g, 0, none⟩) M.now.length cap')).setCell ⟨d, 2, none⟩ (.slice none 0 0)) ∧
      DiskAt ((w3.setCell ⟨d, 1, none⟩ (.slice (some ⟨g, 0, none⟩) M.now.length cap')).setCell ⟨d, 2, none⟩ (.slice none 0 0)) (Grow S w ((w3.setCell ⟨d, 1, none⟩ (.slice (some ⟨g, 0, none⟩) M.now.length cap')).setCell ⟨d, 2, none⟩ (.slice none 0 0))) d M.flush := by
  have hdl : d < w.heap.size := lt_of_heap h.self
  have hsz : w.heap.size ≤ w2.heap.size := hs2.only.size
  have hsz3 : w2.heap.size ≤ w3.heap.size := hb3.size
  have hgd : g ≠ d := by omega
  have hsize : ((w3.setCell ⟨d, 1, none⟩ (.slice (some ⟨g, 0, none⟩) M.now.length cap')).setCell ⟨d, 2, none⟩ (.slice none 0 0)).heap.size = w3.heap.size := by simp
  have hg3 : g < w3.heap.size := by
    obtain ⟨g', c', hv, _, hlt, _⟩ := ownsRow_some hown3 h.pos
    injection hv with hv _ _
    injection hv with hv
    injection hv with hv _ _
    rw [hv]; exact hlt
  have hk5 : ∀ k, k ≠ d → ((w3.setCell ⟨d, 1, none⟩ (.slice (some ⟨g, 0, none⟩) M.now.length cap')).setCell ⟨d, 2, none⟩ (.slice none 0 0)).heap[k]? = w3.heap[k]? := fun k hk => by
    rw [setCell_heap_ne hk, setCell_heap_ne hk]
  have hk2 : ∀ k, S k → k ≠ d → ((w3.setCell ⟨d, 1, none⟩ (.slice (some ⟨g, 0, none⟩) M.now.length cap')).setCell ⟨d, 2, none⟩ (.slice none 0 0)).heap[k]? = w2.heap[k]? := fun k hs hk => by
    rw [hk5 k hk, hb3.block k (by have := h.dom k hs; omega)]
  refine ⟨hs5.only.mono (fun k _ hk => by rw [hk]; exact h.sd), bn, cn, g, cap', .slice none 0 0, ns, ns, [], ?_⟩
  have hrn := hr2.later hk2 (S' := Grow S w ((w3.setCell ⟨d, 1, none⟩ (.slice (some ⟨g, 0, none⟩) M.now.length cap')).setCell ⟨d, 2, none⟩ (.slice none 0 0))) (fun k hk => Or.inl hk)
  refine ⟨ho5.heap, Or.inl h.sd, hrn, ⟨ownsRow_later hown3 (fun k hk => ?_), Or.inr ⟨by omega, by rw [hsize]; exact hg3⟩, hgd, hrn.blk⟩, ⟨World.ownsRow_nil _ _ _ _, (fun k hk => by simp [Value.ownBlock] at hk), (fun i p hp => by simp [DiskM.flush] at hp)⟩, rfl, ?_, h.pos, h.le, ?_, h.stp⟩
  · simp [Value.ownBlock] at hk
    subst hk
    exact hk5 _ hgd
  · have := h.dom bn h.now.sb; omega
  · intro k hk
    rw [hsize]
    rcases hk with hk | ⟨_, hk⟩
    · have := h.dom k hk; omega
    · rwa [hsize] at hk

set_option maxHeartbeats 2000000 in
theorem flush_ok (w : World) (S : Nat → Prop) (d : Nat) (M : DiskM) (h : DiskAt w S d M) (hs : M.steps ≤ 1000000000000) (hst : M.stopped = false) :
    Calls Try.prog 53 #[.pointer (some ⟨d, 0, none⟩)] w (DiskPost S d w M.flush .nilIface) := by
  have hstop := stopped_any w S d M h hs
  rw [hst] at hstop
  obtain ⟨bn, cn, bs, cs, sv, ns, ss, xs, h⟩ := h
  have how : Own w d _ _ _ _ _ := ⟨h.self⟩
  have H := Lib.hid h
  have hpos := h.pos
  have hle := h.le
  clear h hst
  go_enter Try.func53, Try.ntmps53
  go_wp2_with fail
  refine hstop.mono ?_
  rintro e w1 ⟨rfl, hb1⟩
  have ho1 := how.later hb1
  have hs1 : Since d w w1 := (Since.refl d w).below hb1
  have c0 := ho1.c0
  have c3 := ho1.c3
  have f3 := ho1.free 3
  have hrow1 := H.out.now.later (fun k hk _ => hb1.block k (H.out.dom k hk)) (S' := S) (fun _ h => h)
  have ho2 := ho1.set3 (M.steps + 1)
  have hs2 := hs1.set 3 (.int .i64 ((M.steps + 1 : Nat) : Int))
  have hrow2 := hrow1.later (w' := w1.setCell ⟨d, 3, none⟩ (.int .i64 ((M.steps + 1 : Nat) : Int))) (fun k _ hne => Below.heap_setCell _ _ _ _ hne) (S' := S) (fun _ h => h)
  have hcl := clone_rows bn cn M.now.length ns _ hrow2.own hpos (by omega) hrow2.one
  have ecast : ((M.steps + 1 : Nat) : Int) = (M.steps : Int) + 1 := by omega
  rw [ecast] at hcl ho2 hs2 hrow2
  have HR2 := Lib.hid hrow2
  have HO2 := Lib.hid ho2
  have HS2 := Lib.hid hs2
  clear hstop how ho1 hs1 hrow1 ho2 hs2 hrow2 ecast hb1
  go_wp2_with fail
  refine hcl.mono ?_
  rintro e w3 ⟨g, cap', rfl, hg, hown3, hb3⟩
  have ho3 := HO2.out.later hb3
  have hs3 := HS2.out.below hb3
  have c1 := ho3.c1
  have c2 := ho3.c2
  have f1 := ho3.free 1
  have f2 := ho3.free 2
  have ho5 := (ho3.set1 (.slice (some ⟨g, 0, none⟩) M.now.length cap')).set2 (.slice none 0 0)
  have hs5 := (hs3.set 1 (.slice (some ⟨g, 0, none⟩) M.now.length cap')).set 2 (.slice none 0 0)
  have hfin := flush_end (w := w) (S := S) (d := d) (M := M) H.out HO2.out HS2.out HR2.out hb3 hg hown3 ho5 hs5
  clear hcl ho3 hs3 ho5 hs5 hown3 hb3 hg c0 c3 f3
  go_wp2_with fail
  go_ret
  exact ⟨rfl, hfin⟩
end Go.Proofs.Ytldpflijgbcbhaa

/- Read, Fail, Steps, Blocks of a disk, and Flush where it has stopped. -/
namespace Go.Proofs.Ytldpflijgbcbhaa
open Go.RowKit

set_option maxHeartbeats 2000000 in
theorem flush_stop (w : World) (S : Nat → Prop) (d : Nat) (M : DiskM) (h : DiskAt w S d M) (hs : M.steps ≤ 1000000000000) (hst : M.stopped = true) :
    Calls Try.prog 53 #[.pointer (some ⟨d, 0, none⟩)] w fun e w' => e = .returned (errV 7) ∧ Below w.heap.size w w' := by
  have hstop := stopped_any w S d M h hs
  rw [hst] at hstop
  clear h hst
  go_enter Try.func53, Try.ntmps53
  go_wp2_with fail
  refine hstop.mono ?_
  rintro e w1 ⟨rfl, hb1⟩
  clear hstop
  go_wp2_with fail
  go_ret
  exact ⟨rfl, hb1⟩

theorem steps_any (w : World) (S : Nat → Prop) (d : Nat) (M : DiskM) (h : DiskAt w S d M) :
    Calls Try.prog 26 #[.pointer (some ⟨d, 0, none⟩)] w fun e w' => e = .returned (.int .i64 M.steps) ∧ w = w' := by
  obtain ⟨bn, cn, bs, cs, sv, ns, ss, xs, h⟩ := h
  have c3 := (⟨h.self⟩ : Own w d _ _ _ _ _).c3
  clear h
  go_enter Try.func26, Try.ntmps26
  go_wp2_with fail
  go_ret
  exact ⟨rfl, rfl⟩

theorem blocks_any (w : World) (S : Nat → Prop) (d : Nat) (M : DiskM) (h : DiskAt w S d M) :
    Calls Try.prog 59 #[.pointer (some ⟨d, 0, none⟩)] w fun e w' => e = .returned (.int .i64 M.now.length) ∧ w = w' := by
  obtain ⟨bn, cn, bs, cs, sv, ns, ss, xs, h⟩ := h
  have c0 := (⟨h.self⟩ : Own w d _ _ _ _ _).c0
  clear h
  go_enter Try.func59, Try.ntmps59
  go_wp2_with fail
  go_ret
  exact ⟨rfl, rfl⟩

set_option maxHeartbeats 2000000 in
/-- no such block -/
theorem read_range (i : Int) (w : World) (S : Nat → Prop) (d : Nat) (M : DiskM) (h : DiskAt w S d M) (hi : i < 0 ∨ (M.now.length : Int) ≤ i) :
    Calls Try.prog 69 #[.pointer (some ⟨d, 0, none⟩), .int .i64 i] w fun e w' => e = .returned (.tuple #[.slice none 0 0, errV 1]) ∧ w = w' := by
  obtain ⟨bn, cn, bs, cs, sv, ns, ss, xs, h⟩ := h
  have c0 := (⟨h.self⟩ : Own w d _ _ _ _ _).c0
  clear h
  rcases hi with hi | hi
  · go_enter Try.func69, Try.ntmps69
    go_wp2_with fail
    go_ret2
    exact ⟨rfl, rfl⟩
  · have h0 : ¬ i < 0 := by omega
    go_enter Try.func69, Try.ntmps69
    go_wp2_with fail
    go_ret2
    exact ⟨rfl, rfl⟩

set_option maxHeartbeats 2000000 in
/-- the block was torn -/
theorem read_torn (i : Nat) (w : World) (S : Nat → Prop) (d : Nat) (M : DiskM) (h : DiskAt w S d M) (hi : M.now[i]? = some none) :
    Calls Try.prog 69 #[.pointer (some ⟨d, 0, none⟩), .int .i64 i] w fun e w' => e = .returned (.tuple #[.slice none 0 0, errV 9]) ∧ w = w' := by
  obtain ⟨bn, cn, bs, cs, sv, ns, ss, xs, h⟩ := h
  have c0 := (⟨h.self⟩ : Own w d _ _ _ _ _).c0
  obtain ⟨hlt, _⟩ := List.getElem?_eq_some_iff.1 hi
  obtain ⟨x, hx, hb⟩ := h.now.blk i _ hi
  have hx2 : x = .slice none 0 0 := hb
  have cx := h.now.own.cellAt i (by omega)
  rw [hx, hx2] at cx
  have hle := h.le
  have hnil := fun wx => Lib.run_eql_slice_nil (P := Try.prog) wx 23 5 none 0 0 0 0 Try.underlying23
  clear h hb hx hx2 hi
  go_enter Try.func69, Try.ntmps69
  go_wp2_with fail
  go_ret2
  exact ⟨rfl, rfl⟩

set_option maxHeartbeats 2000000 in
/-- a copy of the block -/
theorem read_ok (i : Nat) (l : List UInt8) (w : World) (S : Nat → Prop) (d : Nat) (M : DiskM) (h : DiskAt w S d M) (hi : M.now[i]? = some (some l)) :
    Calls Try.prog 69 #[.pointer (some ⟨d, 0, none⟩), .int .i64 i] w fun e w' =>
      ∃ g c, e = .returned (.tuple #[.slice (some ⟨g, 0, none⟩) 64 c, .nilIface]) ∧ w'.ownsRow w.heap.size 5 1 (.slice (some ⟨g, 0, none⟩) 64 c) 64 (l.map byteV) ∧ l.length = 64 ∧ Below w.heap.size w w' := by
  obtain ⟨bn, cn, bs, cs, sv, ns, ss, xs, h⟩ := h
  have c0 := (⟨h.self⟩ : Own w d _ _ _ _ _).c0
  obtain ⟨hlt, _⟩ := List.getElem?_eq_some_iff.1 hi
  obtain ⟨x, hx, hl, g, rfl, hg, hh⟩ := h.now.blk i _ hi
  have cx := h.now.own.cellAt i (by omega)
  rw [hx] at cx
  have hle := h.le
  have hin : BytesIn w (.slice (some ⟨g, 0, none⟩) 64 64) l := Or.inr ⟨g, 0, 64, by rw [hl], by omega, lt_of_heap hh, fun j y hj => by
    rw [Nat.zero_add, cell_of_heap hh]; simp [bytesArr, hj]⟩
  have hcl := clone_bytes _ l w hin (by omega)
  have HL := Lib.hid hl
  have hnil := fun wx => Lib.run_eql_slice_nil (P := Try.prog) wx 23 5 (some ⟨g, 0, none⟩) 64 64 0 0 Try.underlying23
  clear h hx hi hin hh hg hl
  go_enter Try.func69, Try.ntmps69
  go_wp2_with fail
  refine hcl.mono ?_
  rintro e w1 ⟨v', rfl, hown, _, hb1⟩
  rw [HL.out] at hown
  obtain ⟨g', c', rfl, hg', _, _⟩ := ownsRow_some hown (by decide)
  clear hcl
  go_wp2_with fail
  go_ret2
  exact ⟨g', c', rfl, hown, HL.out, hb1⟩

def DiskM.fail (M : DiskM) (n : Int) : DiskM := { M with stop := if n ≤ -1 then -1 else n }
end Go.Proofs.Ytldpflijgbcbhaa

/- Fail and Write of a disk. -/
namespace Go.Proofs.Ytldpflijgbcbhaa
open Go.RowKit

/-- a change in the disk's own block alone: what it is made of stays -/
theorem own_end {w w' : World} {S : Nat → Prop} {d : Nat} {M M' : DiskM} {bn cn bs cs : Nat} {sv : Value} {ns ss xs : List Value} (h : DiskIs w S d M bn cn bs cs sv ns ss xs) (hs : Since d w w')
    (ho : Own w' d (.slice (some ⟨bn, 0, none⟩) M'.now.length cn) (.slice (some ⟨bs, 0, none⟩) M'.safe.length cs) sv M'.steps M'.stop) (e1 : M'.now = M.now) (e2 : M'.safe = M.safe) (e3 : M'.since = M.since) (hst : M'.stop ≤ 9223372036854775807 ∧ -1 ≤ M'.stop) :
    Only S w w' ∧ DiskAt w' (Grow S w w') d M' := by
  have hk : ∀ k, S k → k ≠ d → w'.heap[k]? = w.heap[k]? := fun k hk hne => hs.only.block k (h.dom k hk) hne
  refine ⟨hs.only.mono (fun k _ hk => by rw [hk]; exact h.sd), bn, cn, bs, cs, sv, ns, ss, xs, ?_⟩
  refine ⟨ho.heap, Or.inl h.sd, ?_, ?_, ?_, by rw [e1, e2]; exact h.slen, h.ne, by rw [e1]; exact h.pos, by rw [e1]; exact h.le, ?_, hst⟩
  · rw [e1]; exact h.now.later hk (fun k h => Or.inl h)
  · rw [e2]; exact h.safe.later hk (fun k h => Or.inl h)
  · rw [e1, e3]; exact h.since.later hk (fun k h => Or.inl h)
  · intro k hk
    rcases hk with hk | ⟨_, hk⟩
    · exact Nat.lt_of_lt_of_le (h.dom k hk) hs.only.size
    · exact hk

set_option maxHeartbeats 2000000 in
theorem fail_any (n : Int) (w : World) (S : Nat → Prop) (d : Nat) (M : DiskM) (h : DiskAt w S d M) (hn : n ≤ 9223372036854775807) :
    Calls Try.prog 25 #[.pointer (some ⟨d, 0, none⟩), .int .i64 n] w fun e w' => e = .returned (.tuple #[]) ∧ Only S w w' ∧ DiskAt w' (Grow S w w') d (M.fail n) := by
  obtain ⟨bn, cn, bs, cs, sv, ns, ss, xs, h⟩ := h
  have how : Own w d _ _ _ _ _ := ⟨h.self⟩
  have c4 := how.c4
  have f4 := how.free 4
  by_cases hc : n ≤ -1
  · have hfin := own_end (M' := M.fail n) h ((Since.refl d w).set 4 (.int .i64 (-1))) (by have := how.set4 (-1); simpa [DiskM.fail, hc] using this) rfl rfl rfl (by simp [DiskM.fail, hc])
    clear h how
    go_enter Try.func25, Try.ntmps25
    go_wp2_with fail
    go_end0
    exact ⟨rfl, hfin⟩
  · have hfin := own_end (M' := M.fail n) h ((Since.refl d w).set 4 (.int .i64 n)) (by have := how.set4 n; simpa [DiskM.fail, hc] using this) rfl rfl rfl (by simp [DiskM.fail, hc]; omega)
    clear h how
    go_enter Try.func25, Try.ntmps25
    go_wp2_with fail
    go_end0
    exact ⟨rfl, hfin⟩
end Go.Proofs.Ytldpflijgbcbhaa
