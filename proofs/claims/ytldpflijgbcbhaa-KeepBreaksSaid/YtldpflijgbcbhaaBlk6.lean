/- Write of a disk: what is refused, and what the disk is then. -/
import Derived.Test.YtldpflijgbcbhaaBlk6e
import Derived.Maps.AppendAt
namespace Go.Proofs.Ytldpflijgbcbhaa
open Go.RowKit

set_option maxHeartbeats 2000000 in
theorem write_stop (i : Int) (v : Value) (w : World) (S : Nat → Prop) (d : Nat) (M : DiskM) (h : DiskAt w S d M) (hs : M.steps ≤ 1000000000000) (hst : M.stopped = true) :
    Calls Try.prog 52 #[.pointer (some ⟨d, 0, none⟩), .int .i64 i, v] w fun e w' => e = .returned (errV 7) ∧ Below w.heap.size w w' := by
  have hstop := stopped_any w S d M h hs
  rw [hst] at hstop
  clear h hst
  go_enter Try.func52, Try.ntmps52
  go_wp2_with fail
  refine hstop.mono ?_
  rintro e w1 ⟨rfl, hb1⟩
  clear hstop
  go_wp2_with fail
  go_ret
  exact ⟨rfl, hb1⟩

set_option maxHeartbeats 2000000 in
theorem write_range (i : Int) (v : Value) (w : World) (S : Nat → Prop) (d : Nat) (M : DiskM) (h : DiskAt w S d M) (hs : M.steps ≤ 1000000000000) (hst : M.stopped = false) (hi : i < 0 ∨ (M.now.length : Int) ≤ i) :
    Calls Try.prog 52 #[.pointer (some ⟨d, 0, none⟩), .int .i64 i, v] w fun e w' => e = .returned (errV 1) ∧ Below w.heap.size w w' := by
  have hstop := stopped_any w S d M h hs
  rw [hst] at hstop
  obtain ⟨bn, cn, bs, cs, sv, ns, ss, xs, h⟩ := h
  have how : Own w d _ _ _ _ _ := ⟨h.self⟩
  clear h hst
  rcases hi with hi | hi
  · go_enter Try.func52, Try.ntmps52
    go_wp2_with fail
    refine hstop.mono ?_
    rintro e w1 ⟨rfl, hb1⟩
    clear hstop how
    go_wp2_with fail
    go_ret
    exact ⟨rfl, hb1⟩
  · have h0 : ¬ i < 0 := by omega
    go_enter Try.func52, Try.ntmps52
    go_wp2_with fail
    refine hstop.mono ?_
    rintro e w1 ⟨rfl, hb1⟩
    have c0 := (how.later hb1).c0
    clear hstop how
    go_wp2_with fail
    go_ret
    exact ⟨rfl, hb1⟩

set_option maxHeartbeats 2000000 in
theorem write_full (i n : Nat) (ao : Option Addr) (c : Nat) (w : World) (S : Nat → Prop) (d : Nat) (M : DiskM) (h : DiskAt w S d M) (hs : M.steps ≤ 1000000000000) (hst : M.stopped = false) (hi : i < M.now.length) (hn : 64 < n) (hn2 : n ≤ 9223372036854775807) :
    Calls Try.prog 52 #[.pointer (some ⟨d, 0, none⟩), .int .i64 i, .slice ao n c] w fun e w' => e = .returned (errV 4) ∧ Below w.heap.size w w' := by
  have hstop := stopped_any w S d M h hs
  rw [hst] at hstop
  obtain ⟨bn, cn, bs, cs, sv, ns, ss, xs, h⟩ := h
  have how : Own w d _ _ _ _ _ := ⟨h.self⟩
  have hle := h.le
  have hdn : decide ((64 : Int) < (n : Int)) = true := decide_eq_true (by omega)
  clear h hst
  go_enter Try.func52, Try.ntmps52
  go_wp2_with fail
  refine hstop.mono ?_
  rintro e w1 ⟨rfl, hb1⟩
  have c0 := (how.later hb1).c0
  clear hstop how
  go_wp2_with fail
  go_ret
  exact ⟨rfl, hb1⟩

/-- the bytes l are what a slice holds; of an empty slice nothing is said on where it lies -/
def BytesW (w : World) (v : Value) (l : List UInt8) : Prop := ∃ sp c, v = .slice sp l.length c ∧
    (0 < l.length → ∃ b o, sp = some ⟨b, o, none⟩ ∧ b < w.heap.size ∧ ∀ (j : Nat) (u : Value), (l.map byteV)[j]? = some u → w.cell? ⟨b, o + j, none⟩ = some u)
theorem BytesIn.toW {w : World} {v : Value} {l : List UInt8} (h : BytesIn w v l) : BytesW w v l := by
  rcases h with ⟨rfl, rfl⟩ | ⟨b, off, cap, rfl, hc, hlt, hx⟩
  · exact ⟨none, 0, rfl, fun h => by simp at h⟩
  · refine ⟨some ⟨b, off, none⟩, cap, rfl, fun _ => ⟨b, off, rfl, hlt, fun j u hj => ?_⟩⟩
    rw [List.getElem?_map] at hj
    cases hl : l[j]? with
    | none => rw [hl] at hj; cases hj
    | some x =>
      rw [hl] at hj
      simp only [Option.map_some, Option.some.injEq] at hj
      subst hj
      exact hx j x hl
theorem BytesW.lt {w : World} {v : Value} {l : List UInt8} (h : BytesW w v l) (h0 : 0 < l.length) : ∀ b, v.ownBlock = some b → b < w.heap.size := by
  obtain ⟨sp, c, rfl, h⟩ := h
  obtain ⟨b, o, rfl, hlt, _⟩ := h h0
  intro b' hb
  simp only [Value.ownBlock, Option.some.injEq] at hb
  subst hb
  exact hlt
theorem BytesW.below {B : Nat} {w w' : World} {v : Value} {l : List UInt8} (h : BytesW w v l) (hb : Below B w w') (hB : 0 < l.length → ∀ b, v.ownBlock = some b → b < B) : BytesW w' v l := by
  obtain ⟨sp, c, rfl, h⟩ := h
  refine ⟨sp, c, rfl, fun h0 => ?_⟩
  obtain ⟨b, o, rfl, hlt, hc⟩ := h h0
  exact ⟨b, o, rfl, Nat.lt_of_lt_of_le hlt hb.size, fun j u hj => (hb.cell (p := ⟨b, o + j, none⟩) (hB h0 b rfl)).trans (hc j u hj)⟩

theorem infoWr : (Try.prog.info? 106).map (fun i => (i.zero, i.size, i.bytes)) = some (some (.agg #[.int .i64 0, .slice none 0 0]), 2, 32) := by kernel_rfl

theorem splice_pad {l : List UInt8} (_ : l.length ≤ 64) : (splice (zeros64.map byteV) 0 (l.map byteV)).toArray = bytesArr (padTo l) := by
  unfold splice bytesArr padTo zeros64
  rw [List.take_zero, List.nil_append, Nat.zero_add, List.length_map, ← List.map_drop, ← List.map_append, List.drop_replicate]

set_option maxRecDepth 100000 in
set_option maxHeartbeats 4000000 in
theorem write_ok (i : Nat) (v : Value) (l : List UInt8) (w : World) (S : Nat → Prop) (d : Nat) (M : DiskM) (h : DiskAt w S d M) (hs : M.steps ≤ 1000000000000) (hsn : M.since.length ≤ 1000000000) (hst : M.stopped = false) (hi : i < M.now.length)
    (hl : l.length ≤ 64) (hv : BytesW w v l) (hvd : 0 < l.length → ∀ b, v.ownBlock = some b → ¬ S b) :
    Calls Try.prog 52 #[.pointer (some ⟨d, 0, none⟩), .int .i64 i, v] w (DiskPost S d w (M.write i l) .nilIface) := by
  have hstop := stopped_any w S d M h hs
  rw [hst] at hstop
  obtain ⟨bn, cn, bs, cs, sv, ns, ss, xs, h⟩ := h
  have how : Own w d _ _ _ _ _ := ⟨h.self⟩
  have H := Lib.hid h
  have hle := h.le
  obtain ⟨sp, sc, rfl, hsrc⟩ := hv
  have HSRC := Lib.hid hsrc
  have HVD := Lib.hid hvd
  have hdn : decide ((64 : Int) < (l.length : Int)) = false := decide_eq_false (by omega)
  clear h hst hsrc hvd
  go_enter Try.func52, Try.ntmps52
  go_wp2_with fail
  refine hstop.mono ?_
  rintro e w1 ⟨rfl, hb1⟩
  have ho1 := how.later hb1
  have hs1 : Since d w w1 := (Since.refl d w).below hb1
  have c0 := ho1.c0
  have c3 := ho1.c3
  have f3 := ho1.free 3
  have ho2 := ho1.set3 (M.steps + 1)
  have hs2 := hs1.set 3 (.int .i64 ((M.steps + 1 : Nat) : Int))
  have ecast : ((M.steps + 1 : Nat) : Int) = (M.steps : Int) + 1 := by omega
  rw [ecast] at ho2 hs2
  have hmk := mk64
  have HO2 := Lib.hid ho2
  have HS2 := Lib.hid hs2
  clear hstop how ho1 hs1 ho2 hs2 ecast
  obtain ⟨w2, hw2⟩ : ∃ w2, w2 = w1.setCell ⟨d, 3, none⟩ (.int .i64 ((M.steps : Int) + 1)) := ⟨_, rfl⟩
  have hsz2 : w2.heap.size = w1.heap.size := by rw [hw2]; simp
  have hb3 : Below w2.heap.size w2 (w2.alloc (.cells (bytesArr zeros64) 5)) := (Below.refl _ _).alloc (Nat.le_refl _) _
  have HW2 := Lib.hid hw2
  have HSZ2 := Lib.hid hsz2
  have HB3 := Lib.hid hb3
  clear hw2 hsz2 hb3
  obtain ⟨W3, hW3⟩ : ∃ W3, W3 = (w1.setCell ⟨d, 3, none⟩ (.int .i64 ((M.steps : Int) + 1))).alloc (.cells (bytesArr zeros64) 5) := ⟨_, rfl⟩
  have P1 : Hid (((w1.setCell ⟨d, 3, none⟩ (.int .i64 ((M.steps : Int) + 1))).alloc (.cells (bytesArr zeros64) 5)).heap[w1.heap.size]? = some (.cells (zeros64.map byteV).toArray 5 (0, 0))) := heap_alloc_at (by rw [← HW2.out]; exact HSZ2.out) _
  have P2 : Hid ((l.map byteV).length = Nat.min l.length 64) := by show _ = _; rw [List.length_map]; show l.length = min l.length 64; omega
  have P3 : Hid (0 < (l.map byteV).length → ∃ ad, sp = some ad ∧ ∀ j v, (l.map byteV)[j]? = some v → ((w1.setCell ⟨d, 3, none⟩ (.int .i64 ((M.steps : Int) + 1))).alloc (.cells (bytesArr zeros64) 5)).cell? (ad.add j) = some v) := by
    intro h0
    rw [List.length_map] at h0
    obtain ⟨b, o, hsp, hlt, hc⟩ := HSRC.out h0
    refine ⟨⟨b, o, none⟩, hsp, fun j u hj => ?_⟩
    have hbd : b ≠ d := fun e => HVD.out h0 b (by rw [hsp]; rfl) (by rw [e]; exact H.out.sd)
    rw [addr_add, World.cell?_alloc_lt _ _ ⟨b, o + j, none⟩ (by rw [World.size_setCell]; exact Nat.lt_of_lt_of_le hlt hb1.size), World.cell?_setCell_other _ _ _ _ (by intro he; injection he with he _ _; exact hbd he.symm)]
    exact (hb1.cell (p := ⟨b, o + j, none⟩) hlt).trans (hc j u hj)
  have P4 : Hid (0 + (l.map byteV).length ≤ (zeros64.map byteV).length) := by show _ ≤ _; rw [List.length_map, List.length_map]; simp [zeros64]; omega
  have P5 : Hid (Below w2.heap.size w2 ((w1.setCell ⟨d, 3, none⟩ (.int .i64 ((M.steps : Int) + 1))).alloc (.cells (bytesArr zeros64) 5))) := by have := HB3.out; rw [HW2.out] at this ⊢; exact this
  have P6 : Hid (w2.heap.size ≤ w1.heap.size) := by show _ ≤ _; rw [HSZ2.out]; exact Nat.le_refl _
  clear hW3
  go_wp2_with (refine wpList_copy_splice (o := ⟨some 40, _, _, _, _, _⟩) rfl (.tmp 38) (.tmp 39) _ _ rfl 5 Try.underlying23 (by kernel_rfl) (some ⟨w1.heap.size, 0, none⟩) sp 64 64 l.length sc rfl rfl w1.heap.size 0 (zeros64.map byteV) 5 P1.out (l.map byteV) P2.out (fun h0 => ⟨rfl, P3.out h0⟩) P4.out (byteV_one l) w2.heap.size w2 P5.out P6.out ?_)
  intro w4 hg4 hb4
  have HG4 : Hid (w4.heap[w1.heap.size]? = some (.cells (bytesArr (padTo l)) 5 (0, 0))) := by
    show _ = _
    rw [hg4.out, splice_pad hl]
  have ho2' := HO2.out
  rw [← HW2.out] at ho2'
  have ho4 := ho2'.later hb4
  have hs4 : Since d w w4 := (show Since d w w2 by rw [HW2.out]; exact HS2.out).below hb4
  have e0 := ho4.c0
  have hnow4 : RowIs w4 S d bn cn M.now ns := H.out.now.later (fun k hk hne => hs4.only.block k (H.out.dom k hk) hne) (fun _ h => h)
  have hsin4 : SinceIs w4 S d M.now.length sv M.since xs := H.out.since.later (fun k hk hne => hs4.only.block k (H.out.dom k hk) hne) (fun _ h => h)
  have er := hnow4.own.cellAt i (by omega)
  have fr := hnow4.own.frozenAt i
  obtain ⟨x0, hx0⟩ : ∃ x0, ns[i]? = some x0 := ⟨ns[i]'(by have := hnow4.own.1; omega), by simp⟩
  rw [hx0] at er
  have e2 := ho4.c2
  have f2 := ho4.free 2
  have hdbn : ¬ d = bn := fun e => hnow4.ne e.symm
  have hbnd : ¬ bn = d := hnow4.ne
  have HS4 := Lib.hid hs4
  have HO4 := Lib.hid ho4
  have HN4 := Lib.hid hnow4
  have HI4 := Lib.hid hsin4
  have hi2 : (i : Int) < (M.now.length : Int) := by omega
  obtain ⟨i0, hi0, hz0, hz1, hz2⟩ := info_parts infoWr
  have HI0 := Lib.hid hi0
  have HZ0 := Lib.hid hz0
  have HZ1 := Lib.hid hz1
  have HZ2 := Lib.hid hz2
  clear hg4 ho2' ho4 hs4 hnow4 hsin4 hx0 hmk c0 c3 f3 hi0 hz0 hz1 hz2
  have hrowne : ∀ g, sv.ownBlock = some g → g ≠ bn := fun g hg e => by
    obtain ⟨_, h2⟩ := HI4.out.own
    obtain ⟨_, h3⟩ := HN4.out.own
    rcases h2 with ⟨h2, _⟩ | ⟨g2, _, _, hv2, _, hh2, _⟩
    · rw [h2] at hg; simp [Value.ownBlock] at hg
    · rcases h3 with ⟨h3, _⟩ | ⟨g3, _, _, hv3, _, hh3, _⟩
      · cases h3
      · injection hv3 with hv3 _ _
        injection hv3 with hv3
        injection hv3 with hv3 _ _
        rw [hv2] at hg
        simp only [Value.ownBlock, Option.some.injEq] at hg
        rw [hg, e, hv3, hh3] at hh2
        simp at hh2
  have Q1 : Hid (((w4.setCell ⟨bn, i, none⟩ (.slice (some ⟨w1.heap.size, 0, none⟩) 64 64)).alloc (.cells #[.int .i64 (i : Int), .slice (some ⟨w1.heap.size, 0, none⟩) 64 64] 106)).ownsRow 0 106 2 sv M.since.length xs) :=
    (ownsRow_later HI4.out.own (fun g hg => Below.heap_setCell _ _ _ _ (hrowne g hg))).alloc _
  have Q2 : Hid (∀ (j : Nat) (u : Value), ([Value.int .i64 (i : Int), .slice (some ⟨w1.heap.size, 0, none⟩) 64 64] : List Value)[j]? = some u → ((w4.setCell ⟨bn, i, none⟩ (.slice (some ⟨w1.heap.size, 0, none⟩) 64 64)).alloc (.cells #[.int .i64 (i : Int), .slice (some ⟨w1.heap.size, 0, none⟩) 64 64] 106)).cell? (Addr.add ⟨w4.heap.size, 0, none⟩ j) = some u) := by
    intro j u hj
    rw [addr_add, World.cell?_alloc_at _ _ _ _ (by rw [World.size_setCell])]
    match j, hj with
    | 0, hj => exact hj
    | 1, hj => exact hj
  have Q3 : Hid (∀ u ∈ ([Value.int .i64 (i : Int), .slice (some ⟨w1.heap.size, 0, none⟩) 64 64] : List Value), u.oneCell' = true) := by
    intro u hu
    simp at hu
    rcases hu with rfl | rfl <;> rfl
  obtain ⟨sa, sc2, hsv⟩ : ∃ sa sc2, sv = .slice sa M.since.length sc2 := by
    obtain ⟨_, h2⟩ := HI4.out.own
    rcases h2 with ⟨h2, h3⟩ | ⟨g, c, _, h2, _⟩
    · exact ⟨none, 0, by rw [h2, h3]⟩
    · exact ⟨_, _, h2⟩
  have HSV := Lib.hid hsv
  rw [hsv] at e2 Q1
  clear hrowne hsv
  go_wp2_with (refine wpList_append_own_at (o := ⟨some 57, _, _, _, _, _⟩) _ rfl (.tmp 52) (.tmp 56) 92 rfl 0 106 i0 (.agg #[.int .i64 0, .slice none 0 0]) 2 32 Try.underlying92 HI0.out HZ0.out HZ1.out HZ2.out rfl (by decide) (.slice sa M.since.length sc2) M.since.length xs rfl Q1.out ⟨w4.heap.size, 0, none⟩ 1 1 [.int .i64 (i : Int), .slice (some ⟨w1.heap.size, 0, none⟩) 64 64] rfl rfl Q2.out Q3.out (by unfold maxLen; omega) (by omega) (Nat.zero_le _) ?_)
  intro v' w6 hown6 hgrow6 hnil6 hblk6
  have ho4' := HO4.out
  rw [HSV.out] at ho4'
  have h' := H.out
  rw [HSV.out] at h'
  obtain ⟨g6, c6, rfl, k2, kf, hfin⟩ := write_end h' ho4' HS4.out hi hl hb1.size HG4.out hown6 hgrow6 (by rw [World.size_alloc, World.size_setCell]; exact hblk6)
  clear hown6 hgrow6 hnil6 hblk6 ho4' h'
  go_wp2_with fail
  go_ret
  exact ⟨rfl, hfin⟩
end Go.Proofs.Ytldpflijgbcbhaa
