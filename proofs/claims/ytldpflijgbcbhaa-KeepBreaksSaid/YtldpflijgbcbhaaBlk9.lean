/- Crash of a disk. -/
import Derived.Test.YtldpflijgbcbhaaBlk7
import Derived.Test.YtldpflijgbcbhaaInts
namespace Go.Proofs.Ytldpflijgbcbhaa
open Go.RowKit

theorem IntsAt.later' {B : Nat} {w w' : World} {ao : Option Addr} {zs : List Int} (h : IntsAt w ao zs) (hB : ∀ b off, ao = some ⟨b, off, none⟩ → b < B) (hb : Below B w w') : IntsAt w' ao zs := by
  rcases h with h | ⟨b, off, e, hc⟩
  · exact Or.inl h
  · exact Or.inr ⟨b, off, e, fun i hi => (hb.cell (p := ⟨b, off + i, none⟩) (hB b off e)).trans (hc i hi)⟩

theorem IntsAt.laterN {w w' : World} {ao : Option Addr} {zs : List Int} (h : IntsAt w ao zs) (hb : Below w.heap.size w w') : IntsAt w' ao zs := by
  rcases h with h | ⟨b, off, e, hc⟩
  · exact Or.inl h
  · refine Or.inr ⟨b, off, e, fun i hi => (hb.cell (p := ⟨b, off + i, none⟩) ?_).trans (hc i hi)⟩
    have h0 := hc i hi
    rcases Nat.lt_or_ge b w.heap.size with h1 | h1
    · exact h1
    · simp [World.cell?, Array.getElem?_eq_none h1] at h0

/-- what is there of the writes up to the k-th -/
def crashTo (since : List (Nat × List UInt8)) (keep : List Int) (torn : Int) (l0 : List (Option (List UInt8))) : Nat → List (Option (List UInt8))
  | 0 => l0
  | k + 1 => match since[k]? with
    | some p => if memB keep (k : Int) = true then (crashTo since keep torn l0 k).set p.1 (if (k : Int) = torn then none else some p.2) else crashTo since keep torn l0 k
    | none => crashTo since keep torn l0 k
def DiskM.crash (M : DiskM) (keep : List Int) (torn : Int) : DiskM :=
  { now := crashTo M.since keep torn M.safe M.since.length, safe := crashTo M.since keep torn M.safe M.since.length, since := [], steps := 0, stop := -1 }

theorem crashTo_len (since : List (Nat × List UInt8)) (keep : List Int) (torn : Int) (l0 : List (Option (List UInt8))) (k : Nat) : (crashTo since keep torn l0 k).length = l0.length := by
  induction k with
  | zero => rfl
  | succ k ih =>
    unfold crashTo
    split
    · split
      · rw [List.length_set]; exact ih
      · exact ih
    · exact ih
theorem crashTo_no {since : List (Nat × List UInt8)} {keep : List Int} {torn : Int} {l0 : List (Option (List UInt8))} {k : Nat} {p : Nat × List UInt8} (hp : since[k]? = some p) (hm : memB keep (k : Int) = false) : crashTo since keep torn l0 (k + 1) = crashTo since keep torn l0 k := by
  rw [crashTo, hp]; simp [hm]
theorem crashTo_yes {since : List (Nat × List UInt8)} {keep : List Int} {torn : Int} {l0 : List (Option (List UInt8))} {k : Nat} {p : Nat × List UInt8} (hp : since[k]? = some p) (hm : memB keep (k : Int) = true) :
    crashTo since keep torn l0 (k + 1) = (crashTo since keep torn l0 k).set p.1 (if (k : Int) = torn then none else some p.2) := by
  rw [crashTo, hp]; simp [hm]

structure CrashRel (w : World) (S : Nat → Prop) (d n bl cl : Nat) (l : List (Option (List UInt8))) (ls : List Value) (wr : World) : Prop where
  row : wr.ownsRow 0 23 1 (.slice (some ⟨bl, 0, none⟩) n cl) n ls
  blk : ∀ (i : Nat) (m : Option (List UInt8)), l[i]? = some m → ∃ x, ls[i]? = some x ∧ BlkAt wr (fun k => S k ∧ k ≠ d) x m
  below : Below w.heap.size w wr
  new : w.heap.size ≤ bl
  lt : bl < wr.heap.size

theorem CrashRel.later {w wr w' : World} {S : Nat → Prop} {d n bl cl : Nat} {l : List (Option (List UInt8))} {ls : List Value} (h : CrashRel w S d n bl cl l ls wr) (hS : ∀ k, S k → k < w.heap.size) (hb : Below wr.heap.size wr w') : CrashRel w S d n bl cl l ls w' where
  row := ownsRow_later h.row (fun g hg => by simp only [Value.ownBlock, Option.some.injEq] at hg; subst hg; exact hb.block _ h.lt)
  blk := fun i m hm => by
    obtain ⟨x, hx, hx2⟩ := h.blk i m hm
    exact ⟨x, hx, hx2.later (fun g _ hg _ => hb.block g (Nat.lt_of_lt_of_le (hS g hg.1) h.below.size)) (fun _ h => h)⟩
  below := h.below.trans (hb.mono h.below.size)
  new := h.new
  lt := Nat.lt_of_lt_of_le h.lt hb.size

theorem CrashRel.set {w wr : World} {S : Nat → Prop} {d n bl cl at_ : Nat} {l : List (Option (List UInt8))} {ls : List Value} (h : CrashRel w S d n bl cl l ls wr) (hS : ∀ k, S k → k < w.heap.size) (hln : l.length = n) {x : Value} {m : Option (List UInt8)} (hx : BlkAt wr (fun k => S k ∧ k ≠ d) x m) (hat : at_ < n) :
    CrashRel w S d n bl cl (l.set at_ m) (ls.set at_ x) (wr.setCell ⟨bl, at_, none⟩ x) where
  row := (h.row.stored at_ x).1
  blk := fun i m' hm => by
    have hk : ∀ g, (S g ∧ g ≠ d) → (wr.setCell ⟨bl, at_, none⟩ x).heap[g]? = wr.heap[g]? := fun g hg => Below.heap_setCell _ _ _ _ (by have := hS g hg.1; have := h.new; show g ≠ bl; omega)
    have hlen : ls.length = n := by have := h.row.1; omega
    rw [List.getElem?_set] at hm
    by_cases e : at_ = i
    · subst e
      rw [if_pos rfl, if_pos (by omega)] at hm
      injection hm with hm
      subst hm
      exact ⟨x, by rw [List.getElem?_set, if_pos rfl, if_pos (by omega)], hx.later (fun g _ hg _ => hk g hg) (fun _ h => h)⟩
    · rw [if_neg e] at hm
      obtain ⟨y, hy, hy2⟩ := h.blk i m' hm
      exact ⟨y, by rw [List.getElem?_set, if_neg e]; exact hy, hy2.later (fun g _ hg _ => hk g hg) (fun _ h => h)⟩
  below := h.below.setCell (p := ⟨bl, at_, none⟩) h.new _
  new := h.new
  lt := by rw [World.size_setCell]; exact h.lt

theorem CrashRel.at {w wr : World} {S : Nat → Prop} {d n bl cl i : Nat} {l : List (Option (List UInt8))} {ls : List Value} (h : CrashRel w S d n bl cl l ls wr) (hi : i < n) : (∃ y, wr.cell? ⟨bl, i, none⟩ = some y) ∧ wr.frozen? ⟨bl, i, none⟩ = false := by
  have hlen : ls.length = n := by have := h.row.1; omega
  exact ⟨⟨ls[i]'(by omega), by rw [h.row.cellAt i (by omega)]; simp⟩, h.row.frozenAt i⟩

/-- the disk behind a crash -/
theorem crash_end {w wr w3 : World} {S : Nat → Prop} {d bl cl g cap : Nat} {M : DiskM} {keep : List Int} {torn : Int} {ls : List Value} (hd : DiskAt w S d M)
    (h : CrashRel w S d M.now.length bl cl (crashTo M.since keep torn M.safe M.since.length) ls wr) (hb3 : Below wr.heap.size wr w3) (hg : wr.heap.size ≤ g) (hown3 : w3.ownsRow 0 23 1 (.slice (some ⟨g, 0, none⟩) M.now.length cap) M.now.length ls) :
    Own (((((w3.setCell ⟨d, 0, none⟩ (.slice (some ⟨bl, 0, none⟩) M.now.length cl)).setCell ⟨d, 1, none⟩ (.slice (some ⟨g, 0, none⟩) M.now.length cap)).setCell ⟨d, 2, none⟩ (.slice none 0 0)).setCell ⟨d, 3, none⟩ (.int .i64 0)).setCell ⟨d, 4, none⟩ (.int .i64 (-1))) d (.slice (some ⟨bl, 0, none⟩) M.now.length cl) (.slice (some ⟨g, 0, none⟩) M.now.length cap) (.slice none 0 0) 0 (-1) ∧
      Only S w (((((w3.setCell ⟨d, 0, none⟩ (.slice (some ⟨bl, 0, none⟩) M.now.length cl)).setCell ⟨d, 1, none⟩ (.slice (some ⟨g, 0, none⟩) M.now.length cap)).setCell ⟨d, 2, none⟩ (.slice none 0 0)).setCell ⟨d, 3, none⟩ (.int .i64 0)).setCell ⟨d, 4, none⟩ (.int .i64 (-1))) ∧
      DiskAt (((((w3.setCell ⟨d, 0, none⟩ (.slice (some ⟨bl, 0, none⟩) M.now.length cl)).setCell ⟨d, 1, none⟩ (.slice (some ⟨g, 0, none⟩) M.now.length cap)).setCell ⟨d, 2, none⟩ (.slice none 0 0)).setCell ⟨d, 3, none⟩ (.int .i64 0)).setCell ⟨d, 4, none⟩ (.int .i64 (-1))) (Grow S w (((((w3.setCell ⟨d, 0, none⟩ (.slice (some ⟨bl, 0, none⟩) M.now.length cl)).setCell ⟨d, 1, none⟩ (.slice (some ⟨g, 0, none⟩) M.now.length cap)).setCell ⟨d, 2, none⟩ (.slice none 0 0)).setCell ⟨d, 3, none⟩ (.int .i64 0)).setCell ⟨d, 4, none⟩ (.int .i64 (-1)))) d (M.crash keep torn) := by
  obtain ⟨bn, cn, bs, cs, sv, ns, ss, xs, hi⟩ := hd
  have ho0 : Own w d _ _ _ _ _ := ⟨hi.self⟩
  have hdl := ho0.lt
  have hbw : Below w.heap.size w w3 := h.below.trans (hb3.mono h.below.size)
  have ho3 := ho0.later hbw
  have ho := ((((ho3.set0 (.slice (some ⟨bl, 0, none⟩) M.now.length cl)).set1 (.slice (some ⟨g, 0, none⟩) M.now.length cap)).set2 (.slice none 0 0)).set3 0).set4 (-1)
  have hS := hi.dom
  have hon := ((((((Only.of_below (S := S) hbw).setCell (p := ⟨d, 0, none⟩) hi.sd (.slice (some ⟨bl, 0, none⟩) M.now.length cl)).setCell (p := ⟨d, 1, none⟩) hi.sd (.slice (some ⟨g, 0, none⟩) M.now.length cap)).setCell (p := ⟨d, 2, none⟩) hi.sd (.slice none 0 0)).setCell (p := ⟨d, 3, none⟩) hi.sd (.int .i64 0)).setCell (p := ⟨d, 4, none⟩) hi.sd (.int .i64 (-1)))
  refine ⟨ho, hon, bl, cl, g, cap, .slice none 0 0, ls, ls, [], ?_⟩
  generalize hw : (((((w3.setCell ⟨d, 0, none⟩ (.slice (some ⟨bl, 0, none⟩) M.now.length cl)).setCell ⟨d, 1, none⟩ (.slice (some ⟨g, 0, none⟩) M.now.length cap)).setCell ⟨d, 2, none⟩ (.slice none 0 0)).setCell ⟨d, 3, none⟩ (.int .i64 0)).setCell ⟨d, 4, none⟩ (.int .i64 (-1))) = wf at *
  have hkd : ∀ k, k ≠ d → wf.heap[k]? = w3.heap[k]? := fun k hk => by
    rw [← hw, setCell_heap_ne hk, setCell_heap_ne hk, setCell_heap_ne hk, setCell_heap_ne hk, setCell_heap_ne hk]
  have hss : wf.heap.size = w3.heap.size := by rw [← hw]; simp
  have hsz := hb3.size
  have hsz2 := h.below.size
  have hnew := h.new
  have hlt := h.lt
  have hg3 : g < w3.heap.size := by
    obtain ⟨g', c', hv, _, hlt, _⟩ := ownsRow_some hown3 hi.pos
    injection hv with hv _ _
    injection hv with hv
    injection hv with hv _ _
    rw [hv]; exact hlt
  have e1 : (M.crash keep torn).now.length = M.now.length := by simp [DiskM.crash, crashTo_len, hi.slen]
  have e2 : (M.crash keep torn).safe.length = M.now.length := by simp [DiskM.crash, crashTo_len, hi.slen]
  have hblk : ∀ (i : Nat) (m : Option (List UInt8)), (crashTo M.since keep torn M.safe M.since.length)[i]? = some m → ∃ x, ls[i]? = some x ∧ BlkAt wf (fun k => Grow S w wf k ∧ k ≠ d) x m := by
    intro i m hm
    obtain ⟨x, hx, hx2⟩ := h.blk i m hm
    exact ⟨x, hx, hx2.later (fun k _ hk _ => by rw [hkd k hk.2, hb3.block k (by have := hS k hk.1; omega)]) (fun k hk => ⟨Or.inl hk.1, hk.2⟩)⟩
  refine ⟨?_, Or.inl hi.sd, ⟨?_, Or.inr ⟨hnew, by omega⟩, by omega, hblk⟩, ⟨?_, Or.inr ⟨by omega, by omega⟩, by omega, hblk⟩, ⟨World.ownsRow_nil _ _ _ _, (fun k hk => by simp [Value.ownBlock] at hk), (fun i p hp => by simp [DiskM.crash] at hp)⟩, by rw [e1, e2], by omega, by rw [e1]; exact hi.pos, by rw [e1]; exact hi.le, ?_, by simp [DiskM.crash]⟩
  · rw [e1, e2]; exact ho.heap
  · rw [e1]
    exact ownsRow_later h.row (fun k hk => by
      simp only [Value.ownBlock, Option.some.injEq] at hk
      subst hk
      rw [hkd _ (by omega), hb3.block _ hlt])
  · rw [e2]
    exact ownsRow_later hown3 (fun k hk => by
      simp only [Value.ownBlock, Option.some.injEq] at hk
      subst hk
      exact hkd _ (by omega))
  · intro k hk
    rcases hk with hk | ⟨_, hk⟩
    · have := hS k hk; omega
    · exact hk
end Go.Proofs.Ytldpflijgbcbhaa

/- Crash of a disk: the walk. -/
namespace Go.Proofs.Ytldpflijgbcbhaa
open Go.RowKit

theorem RowIs.below {w w' : World} {S : Nat → Prop} {d b c : Nat} {l : List (Option (List UInt8))} {ns : List Value} (h : RowIs w S d b c l ns) (hS : ∀ k, S k → k < w.heap.size) (hb : Below w.heap.size w w') : RowIs w' S d b c l ns :=
  h.later (fun k hk _ => hb.block k (hS k hk)) (fun _ h => h)

set_option maxRecDepth 100000 in
set_option maxHeartbeats 4000000 in
theorem crash_any (ao : Option Addr) (kcap : Nat) (keep : List Int) (torn : Int) (w : World) (S : Nat → Prop) (d : Nat) (M : DiskM) (h : DiskAt w S d M) (hz : IntsAt w ao keep) (hkl : keep.length ≤ 9223372036854775807) (hsn : M.since.length ≤ 1000000000) :
    Calls Try.prog 27 #[.pointer (some ⟨d, 0, none⟩), .slice ao keep.length kcap, .int .i64 torn] w fun e w' => e = .returned (.tuple #[]) ∧ Only S w w' ∧ DiskAt w' (Grow S w w') d (M.crash keep torn) := by
  have HD := Lib.hid h
  obtain ⟨bn, cn, bs, cs, sv, ns, ss, xs, h⟩ := h
  have how : Own w d _ _ _ _ _ := ⟨h.self⟩
  have c1 := how.c1
  have hpos := h.pos
  have hle := h.le
  have hslen := h.slen
  rw [hslen] at c1
  have hcl := clone_rows bs cs M.now.length ss w (by have := h.safe.own; rw [hslen] at this; exact this) hpos (by omega) h.safe.one
  obtain ⟨sa, sc, hsv, hsa⟩ : ∃ sa sc, sv = .slice sa M.since.length sc ∧ (0 < M.since.length → ∃ b, sa = some ⟨b, 0, none⟩) := by
    obtain ⟨_, h2⟩ := h.since.own
    rcases h2 with ⟨h2, h3⟩ | ⟨b, c, cur, h2, _⟩
    · exact ⟨none, 0, by rw [h2, h3], fun h => by omega⟩
    · exact ⟨_, _, h2, fun _ => ⟨b, rfl⟩⟩
  subst hsv
  have H := Lib.hid h
  have HSA := Lib.hid hsa
  have HZ := Lib.hid hz
  have HSL := Lib.hid hslen
  clear h hsa hz hslen
  go_enter Try.func27, Try.ntmps27
  go_wp2_with fail
  refine hcl.mono ?_
  rintro e w1 ⟨bl, cl, rfl, hnew, hrow1, hb1⟩
  have c2 := (how.later hb1).c2
  have hrel0 : CrashRel w S d M.now.length bl cl M.safe ss w1 := ⟨hrow1, fun i m hm => by
      obtain ⟨x, hx, hx2⟩ := H.out.safe.blk i m hm
      exact ⟨x, hx, hx2.later (fun g _ hg _ => hb1.block g (H.out.dom g hg.1)) (fun _ h => h)⟩, hb1, hnew, by
      obtain ⟨g', c', hv, _, hlt, _⟩ := ownsRow_some hrow1 hpos
      injection hv with hv _ _
      injection hv with hv
      injection hv with hv _ _
      rw [hv]; exact hlt⟩
  clear hcl hrow1 hb1 c1
  go_wp2_with fail
  go_loopw [19] (fun i wr => ∃ (k : Nat) (ls : List Value), k ≤ M.since.length ∧ i = .int .i64 k ∧ CrashRel w S d M.now.length bl cl (crashTo M.since keep torn M.safe k) ls wr) (fun i _ => M.since.length - (intOf i).toNat)
  case atStart => exact ⟨0, ss, Nat.zero_le _, rfl, hrel0⟩
  case round =>
    clear hrel0 c2
    obtain ⟨k, ls, hk, rfl, hR⟩ := hrel
    have hS := Lib.hid H.out.dom
    by_cases hlt : k < M.since.length
    · obtain ⟨bv, rfl⟩ := HSA.out (by omega)
      obtain ⟨⟨at_, by_⟩, hp⟩ : ∃ p, M.since[k]? = some p := ⟨M.since[k], by simp [hlt]⟩
      have hsi := H.out.since.later (w' := wr) (fun j hj _ => hR.below.block j (H.out.dom j hj)) (S' := S) (fun _ h => h)
      obtain ⟨hat, hx1, x, hx2, hblk⟩ := hsi.blk k _ hp
      have e1 := hsi.own.cellAt (k * 2) (by omega)
      have e2 := hsi.own.cellAt (k * 2 + 1) (by omega)
      rw [Nat.mul_comm k 2, hx1] at e1
      rw [Nat.mul_comm k 2, hx2] at e2
      rw [Nat.mul_comm 2 k] at e1 e2
      have hlen := crashTo_len M.since keep torn M.safe k
      rw [HSL.out] at hlen
      obtain ⟨hl64, gx, rfl, _⟩ := hblk
      have hblk : BlkAt wr (fun k => S k ∧ k ≠ d) (.slice (some ⟨gx, 0, none⟩) 64 64) (some by_) := by
        obtain ⟨_, _, x', hx', hb'⟩ := hsi.blk k _ hp
        rw [hx2] at hx'
        injection hx' with hx'
        rw [hx']; exact hb'
      dsimp only at hat e1
      have hR2 := hR.later hS.out ((Below.refl _ _).alloc (Nat.le_refl _) (.cells #[.int .i64 (at_ : Int), .slice (some ⟨gx, 0, none⟩) 64 64] 106))
      have hcon := contains_ints ao kcap keep (k : Int) (wr.alloc (.cells #[.int .i64 (at_ : Int), .slice (some ⟨gx, 0, none⟩) 64 64] 106)) (HZ.out.laterN hR2.below) hkl
      have hblk2 := hblk.later (w' := wr.alloc (.cells #[.int .i64 (at_ : Int), .slice (some ⟨gx, 0, none⟩) 64 64] 106)) (S' := fun k => S k ∧ k ≠ d) (fun g _ hg _ => Below.heap_alloc _ _ _ (Nat.lt_of_lt_of_le (hS.out g hg.1) hR.below.size)) (fun _ h => h)
      by_cases hmem : memB keep (k : Int) = true
      · rw [hmem] at hcon
        have hR3 := hR.set hS.out hlen hblk hat
        obtain ⟨⟨y, hy⟩, hfr⟩ := hR.at hat
        have hblt := hR.lt
        have hi0 : (at_ : Int) < (M.now.length : Int) := by omega
        have hyes := crashTo_yes (torn := torn) (l0 := M.safe) hp hmem
        by_cases hq : (k : Int) = torn
        · have hqb : ((k : Int) == torn) = true := beq_iff_eq.2 hq
          have hR4 := (hR3.set hS.out (by rw [List.length_set]; exact hlen) (x := .slice none 0 0) (m := none) rfl hat).later hS.out ((Below.refl _ _).alloc (Nat.le_refl _) (.cells #[.int .i64 (at_ : Int), .slice (some ⟨gx, 0, none⟩) 64 64] 106))
          rw [if_pos hq] at hyes
          rw [List.set_set, ← hyes] at hR4
          clear hsi hp hx1 hx2 hblk hlen hl64 hR hR2 hblk2 hR3 hyes hmem hq
          go_wp2_with fail
          refine hcon.mono ?_
          rintro e w2 ⟨rfl, rfl⟩
          go_wp2_with fail
          go_roundw
          case rel => exact ⟨k + 1, _, by omega, by go_num, hR4⟩
          case measure => simp [intOf]; omega
        · have hqb : ((k : Int) == torn) = false := beq_eq_false_iff_ne.2 hq
          have hR4 := hR3.later hS.out ((Below.refl _ _).alloc (Nat.le_refl _) (.cells #[.int .i64 (at_ : Int), .slice (some ⟨gx, 0, none⟩) 64 64] 106))
          rw [if_neg hq] at hyes
          rw [← hyes] at hR4
          clear hsi hp hx1 hx2 hblk hlen hl64 hR hR2 hblk2 hR3 hyes hmem hq
          go_wp2_with fail
          refine hcon.mono ?_
          rintro e w2 ⟨rfl, rfl⟩
          go_wp2_with fail
          go_roundw
          case rel => exact ⟨k + 1, _, by omega, by go_num, hR4⟩
          case measure => simp [intOf]; omega
      · have hmem' : memB keep (k : Int) = false := by simpa using hmem
        rw [hmem'] at hcon
        have hno := crashTo_no (torn := torn) (l0 := M.safe) hp hmem'
        rw [← hno] at hR2
        clear hsi hp hx1 hx2 hblk hlen hl64 hR hblk2 hno hmem hmem'
        go_wp2_with fail
        refine hcon.mono ?_
        rintro e w2 ⟨rfl, rfl⟩
        go_wp2_with fail
        go_roundw
        case rel => exact ⟨k + 1, _, by omega, by go_num, hR2⟩
        case measure => simp [intOf]; omega
    · have hke : k = M.since.length := by omega
      subst hke
      have hone : ∀ v ∈ ls, v.oneCell' = true := by
        intro v hv
        obtain ⟨i, hi, rfl⟩ := List.getElem_of_mem hv
        have hl := hR.row.1
        have hcl := crashTo_len M.since keep torn M.safe M.since.length
        rw [HSL.out] at hcl
        obtain ⟨x, hx, hx2⟩ := hR.blk i ((crashTo M.since keep torn M.safe M.since.length)[i]'(by omega)) (by simp)
        rw [List.getElem?_eq_getElem hi] at hx
        injection hx with hx
        rw [hx]
        cases hm : (crashTo M.since keep torn M.safe M.since.length)[i]'(by omega) with
        | none => rw [hm] at hx2; rw [show x = .slice none 0 0 from hx2]; rfl
        | some m => rw [hm] at hx2; obtain ⟨_, g, hx3, _⟩ := hx2; rw [hx3]; rfl
      have hcl2 := clone_rows bl cl M.now.length ls wr hR.row hpos (by omega) hone
      have how2 := (how.later hR.below)
      have HR := Lib.hid hR
      clear hR hone
      go_wp2_with fail
      refine hcl2.mono ?_
      rintro e w3 ⟨g, cap', rfl, hg, hown3, hb3⟩
      obtain ⟨ho5, hon, hfin⟩ := crash_end HD.out HR.out hb3 hg hown3
      have ho3 := how2.later hb3
      have d0 := ho3.c0
      have d1 := ho3.c1
      have d2 := ho3.c2
      have d3 := ho3.c3
      have d4 := ho3.c4
      have f0 := ho3.free 0
      have f1 := ho3.free 1
      have f2 := ho3.free 2
      have f3 := ho3.free 3
      have f4 := ho3.free 4
      clear hcl2 ho3 hown3 hb3 ho5 how2
      go_wp2_with fail
      go_end0
      exact ⟨rfl, hon, hfin⟩
end Go.Proofs.Ytldpflijgbcbhaa
