/- Flush of a disk: what it answers, and what the disk is then. -/
import Derived.Test.YtldpflijgbcbhaaDoorBlk2
namespace Go.Proofs.YtldpflijgbcbhaaDoor
open Go.RowKit

theorem RowIs.one {w : World} {S : Nat → Prop} {d b c : Nat} {l : List (Option (List UInt8))} {ns : List Value} (h : RowIs w S d b c l ns) : ∀ v ∈ ns, v.oneCell' = true := by
  intro v hv
  obtain ⟨i, hi, rfl⟩ := List.getElem_of_mem hv
  have hl : i < l.length := by have := h.own.1; omega
  obtain ⟨x, hx, hb⟩ := h.blk i l[i] (by simp [hl])
  rw [List.getElem?_eq_getElem hi] at hx
  injection hx with hx
  rw [hx]
  cases hm : l[i] with
  | none => rw [hm] at hb; rw [show x = .slice none 0 0 from hb]; rfl
  | some m => rw [hm] at hb; obtain ⟨_, g, hx, _⟩ := hb; rw [hx]; rfl

/-- the disk's own block, and that it may be written -/
structure Own (w : World) (d : Nat) (nv sfv sv : Value) (steps : Nat) (stop : Int) : Prop where
  heap : w.heap[d]? = some (.cells #[nv, sfv, sv, .int .i64 steps, .int .i64 stop] 119 (0, 0))
theorem Own.c0 {w : World} {d : Nat} {nv sfv sv : Value} {steps : Nat} {stop : Int} (h : Own w d nv sfv sv steps stop) : w.cell? ⟨d, 0, none⟩ = some nv := by rw [cell_of_heap h.heap]; rfl
theorem Own.c1 {w : World} {d : Nat} {nv sfv sv : Value} {steps : Nat} {stop : Int} (h : Own w d nv sfv sv steps stop) : w.cell? ⟨d, 1, none⟩ = some sfv := by rw [cell_of_heap h.heap]; rfl
theorem Own.c2 {w : World} {d : Nat} {nv sfv sv : Value} {steps : Nat} {stop : Int} (h : Own w d nv sfv sv steps stop) : w.cell? ⟨d, 2, none⟩ = some sv := by rw [cell_of_heap h.heap]; rfl
theorem Own.c3 {w : World} {d : Nat} {nv sfv sv : Value} {steps : Nat} {stop : Int} (h : Own w d nv sfv sv steps stop) : w.cell? ⟨d, 3, none⟩ = some (.int .i64 steps) := by rw [cell_of_heap h.heap]; rfl
theorem Own.c4 {w : World} {d : Nat} {nv sfv sv : Value} {steps : Nat} {stop : Int} (h : Own w d nv sfv sv steps stop) : w.cell? ⟨d, 4, none⟩ = some (.int .i64 stop) := by rw [cell_of_heap h.heap]; rfl
theorem Own.free {w : World} {d : Nat} {nv sfv sv : Value} {steps : Nat} {stop : Int} (h : Own w d nv sfv sv steps stop) (j : Nat) : w.frozen? ⟨d, j, none⟩ = false := free_of_heap h.heap j
theorem Own.later {w w' : World} {d : Nat} {nv sfv sv : Value} {steps : Nat} {stop : Int} (h : Own w d nv sfv sv steps stop) (hb : Below w.heap.size w w') : Own w' d nv sfv sv steps stop := ⟨by rw [hb.block d (lt_of_heap h.heap)]; exact h.heap⟩
theorem Own.lt {w : World} {d : Nat} {nv sfv sv : Value} {steps : Nat} {stop : Int} (h : Own w d nv sfv sv steps stop) : d < w.heap.size := lt_of_heap h.heap
theorem Own.set0 {w : World} {d : Nat} {nv sfv sv : Value} {steps : Nat} {stop : Int} (h : Own w d nv sfv sv steps stop) (v : Value) : Own (w.setCell ⟨d, 0, none⟩ v) d v sfv sv steps stop := ⟨heap_setCell_same h.heap v⟩
theorem Own.set1 {w : World} {d : Nat} {nv sfv sv : Value} {steps : Nat} {stop : Int} (h : Own w d nv sfv sv steps stop) (v : Value) : Own (w.setCell ⟨d, 1, none⟩ v) d nv v sv steps stop := ⟨heap_setCell_same h.heap v⟩
theorem Own.set2 {w : World} {d : Nat} {nv sfv sv : Value} {steps : Nat} {stop : Int} (h : Own w d nv sfv sv steps stop) (v : Value) : Own (w.setCell ⟨d, 2, none⟩ v) d nv sfv v steps stop := ⟨heap_setCell_same h.heap v⟩
theorem Own.set3 {w : World} {d : Nat} {nv sfv sv : Value} {steps : Nat} {stop : Int} (h : Own w d nv sfv sv steps stop) (n : Nat) : Own (w.setCell ⟨d, 3, none⟩ (.int .i64 (n : Int))) d nv sfv sv n stop := ⟨heap_setCell_same h.heap _⟩
theorem Own.set4 {w : World} {d : Nat} {nv sfv sv : Value} {steps : Nat} {stop : Int} (h : Own w d nv sfv sv steps stop) (n : Int) : Own (w.setCell ⟨d, 4, none⟩ (.int .i64 n)) d nv sfv sv steps n := ⟨heap_setCell_same h.heap _⟩

/-- only the disk's own block and new ones have turned -/
structure Since (d : Nat) (w w' : World) : Prop where
  only : Only (fun k => k = d) w w'
theorem Since.refl (d : Nat) (w : World) : Since d w w := ⟨Only.refl _ _⟩
theorem Since.set {d : Nat} {w w' : World} (h : Since d w w') (j : Nat) (v : Value) : Since d w (w'.setCell ⟨d, j, none⟩ v) := ⟨h.only.setCell (p := ⟨d, j, none⟩) rfl v⟩
theorem Since.below {d : Nat} {w w' w'' : World} (h : Since d w w') (hb : Below w'.heap.size w' w'') : Since d w w'' := ⟨h.only.later hb⟩

def DiskM.flush (M : DiskM) : DiskM := { M with safe := M.now, since := [], steps := M.steps + 1 }

def DiskPost (S : Nat → Prop) (d : Nat) (w : World) (M' : DiskM) (r : Value) (e : Ending) (w' : World) : Prop :=
  e = .returned r ∧ Only S w w' ∧ DiskAt w' (Grow S w w') d M'

theorem setCell_heap_ne {w : World} {d j k : Nat} {v : Value} (h : k ≠ d) : (w.setCell ⟨d, j, none⟩ v).heap[k]? = w.heap[k]? := Below.heap_setCell _ _ _ _ h

/-- what a disk is when all was made safe -/
theorem flush_end {w w2 w3 : World} {S : Nat → Prop} {d : Nat} {M : DiskM} {bn cn bs cs g cap' : Nat} {sv : Value} {ns ss xs : List Value} (h : DiskIs w S d M bn cn bs cs sv ns ss xs)
    (_ : Own w2 d (.slice (some ⟨bn, 0, none⟩) M.now.length cn) (.slice (some ⟨bs, 0, none⟩) M.safe.length cs) sv (M.steps + 1) M.stop) (hs2 : Since d w w2) (hr2 : RowIs w2 S d bn cn M.now ns) (hb3 : Below w2.heap.size w2 w3) (hg : w2.heap.size ≤ g)
    (hown3 : w3.ownsRow 0 22 1 (.slice (some ⟨g, 0, none⟩) M.now.length cap') M.now.length ns)
    (ho5 : Own ((w3.setCell ⟨d, 1, none⟩ (.slice (some ⟨g, 0, none⟩) M.now.length cap')).setCell ⟨d, 2, none⟩ (.slice none 0 0)) d (.slice (some ⟨bn, 0, none⟩) M.now.length cn) (.slice (some ⟨g, 0, none⟩) M.now.length cap') (.slice none 0 0) (M.steps + 1) M.stop)
    (hs5 : Since d w ((w3.setCell ⟨d, 1, none⟩ (.slice (some ⟨g, 0, none⟩) M.now.length cap')).setCell ⟨d, 2, none⟩ (.slice none 0 0))) :
    Only S w ((w3.setCell ⟨d, 1, none⟩ (.slice (some ⟨g, 0, none⟩) M.now.length cap')).setCell ⟨d, 2, none⟩ (.slice none 0 0)) ∧
      DiskAt ((w3.setCell ⟨d, 1, none⟩ (.slice (some ⟨g, 0, none⟩) M.now.length cap')).setCell ⟨d, 2, none⟩ (.slice none 0 0)) (Grow S w ((w3.setCell ⟨d, 1, none⟩ (.slice (some ⟨g, 0, none⟩) M.now.length cap')).setCell ⟨d, 2, none⟩ (.slice none 0 0))) d M.flush := by
  have hdl : d < w.heap.size := lt_of_heap h.self
  have hsz : w.heap.size ≤ w2.heap.size := hs2.only.size
  have hsz3 : w2.heap.size ≤ w3.heap.size := hb3.size
  have hgd : g ≠ d := by omega
  have hsize : ((w3.setCell ⟨d, 1, none⟩ (.slice (some ⟨g, 0, none⟩) M.now.length cap')).setCell ⟨d, 2, none⟩ (.slice none 0 0)).heap.size = w3.heap.size := by simp
  have hg3 : g < w3.heap.size := by
    obtain ⟨g', c', hv, _, hlt, _⟩ := ownsRow_some hown3 h.pos
    injection hv with hv _ _
    injection hv with hv
    injection hv with hv _ _
    rw [hv]; exact hlt
  have hk5 : ∀ k, k ≠ d → ((w3.setCell ⟨d, 1, none⟩ (.slice (some ⟨g, 0, none⟩) M.now.length cap')).setCell ⟨d, 2, none⟩ (.slice none 0 0)).heap[k]? = w3.heap[k]? := fun k hk => by
    rw [setCell_heap_ne hk, setCell_heap_ne hk]
  have hk2 : ∀ k, S k → k ≠ d → ((w3.setCell ⟨d, 1, none⟩ (.slice (some ⟨g, 0, none⟩) M.now.length cap')).setCell ⟨d, 2, none⟩ (.slice none 0 0)).heap[k]? = w2.heap[k]? := fun k hs hk => by
    rw [hk5 k hk, hb3.block k (by have := h.dom k hs; omega)]
  refine ⟨hs5.only.mono (fun k _ hk => by rw [hk]; exact h.sd), bn, cn, g, cap', .slice none 0 0, ns, ns, [], ?_⟩
  have hrn := hr2.later hk2 (S' := Grow S w ((w3.setCell ⟨d, 1, none⟩ (.slice (some ⟨g, 0, none⟩) M.now.length cap')).setCell ⟨d, 2, none⟩ (.slice none 0 0))) (fun k hk => Or.inl hk)
  refine ⟨ho5.heap, Or.inl h.sd, hrn, ⟨ownsRow_later hown3 (fun k hk => ?_), Or.inr ⟨by omega, by rw [hsize]; exact hg3⟩, hgd, hrn.blk⟩, ⟨World.ownsRow_nil _ _ _ _, (fun k hk => by simp [Value.ownBlock] at hk), (fun i p hp => by simp [DiskM.flush] at hp)⟩, rfl, ?_, h.pos, h.le, ?_, h.stp⟩
  · simp [Value.ownBlock] at hk
    subst hk
    exact hk5 _ hgd
  · have := h.dom bn h.now.sb; omega
  · intro k hk
    rw [hsize]
    rcases hk with hk | ⟨_, hk⟩
    · have := h.dom k hk; omega
    · rwa [hsize] at hk

set_option maxHeartbeats 2000000 in
theorem flush_ok (w : World) (S : Nat → Prop) (d : Nat) (M : DiskM) (h : DiskAt w S d M) (hs : M.steps ≤ 1000000000000) (hst : M.stopped = false) :
    Calls Tryd.prog 27 #[.pointer (some ⟨d, 0, none⟩)] w (DiskPost S d w M.flush .nilIface) := by
  have hstop := stopped_any w S d M h hs
  rw [hst] at hstop
  obtain ⟨bn, cn, bs, cs, sv, ns, ss, xs, h⟩ := h
  have how : Own w d _ _ _ _ _ := ⟨h.self⟩
  have H := Lib.hid h
  have hpos := h.pos
  have hle := h.le
  clear h hst
  go_enter Tryd.func27, Tryd.ntmps27
  go_wp2_with fail
  refine hstop.mono ?_
  rintro e w1 ⟨rfl, hb1⟩
  have ho1 := how.later hb1
  have hs1 : Since d w w1 := (Since.refl d w).below hb1
  have c0 := ho1.c0
  have c3 := ho1.c3
  have f3 := ho1.free 3
  have hrow1 := H.out.now.later (fun k hk _ => hb1.block k (H.out.dom k hk)) (S' := S) (fun _ h => h)
  have ho2 := ho1.set3 (M.steps + 1)
  have hs2 := hs1.set 3 (.int .i64 ((M.steps + 1 : Nat) : Int))
  have hrow2 := hrow1.later (w' := w1.setCell ⟨d, 3, none⟩ (.int .i64 ((M.steps + 1 : Nat) : Int))) (fun k _ hne => Below.heap_setCell _ _ _ _ hne) (S' := S) (fun _ h => h)
  have hcl := clone_rows bn cn M.now.length ns _ hrow2.own hpos (by omega) hrow2.one
  have ecast : ((M.steps + 1 : Nat) : Int) = (M.steps : Int) + 1 := by omega
  rw [ecast] at hcl ho2 hs2 hrow2
  have HR2 := Lib.hid hrow2
  have HO2 := Lib.hid ho2
  have HS2 := Lib.hid hs2
  clear hstop how ho1 hs1 hrow1 ho2 hs2 hrow2 ecast hb1
  go_wp2_with fail
  refine hcl.mono ?_
  rintro e w3 ⟨g, cap', rfl, hg, hown3, hb3⟩
  have ho3 := HO2.out.later hb3
  have hs3 := HS2.out.below hb3
  have c1 := ho3.c1
  have c2 := ho3.c2
  have f1 := ho3.free 1
  have f2 := ho3.free 2
  have ho5 := (ho3.set1 (.slice (some ⟨g, 0, none⟩) M.now.length cap')).set2 (.slice none 0 0)
  have hs5 := (hs3.set 1 (.slice (some ⟨g, 0, none⟩) M.now.length cap')).set 2 (.slice none 0 0)
  have hfin := flush_end (w := w) (S := S) (d := d) (M := M) H.out HO2.out HS2.out HR2.out hb3 hg hown3 ho5 hs5
  clear hcl ho3 hs3 ho5 hs5 hown3 hb3 hg c0 c3 f3
  go_wp2_with fail
  go_ret
  exact ⟨rfl, hfin⟩
end Go.Proofs.YtldpflijgbcbhaaDoor
