/- The document's disk: a Write that is done. -/
import Derived.Test.YtldpflijgbcbhaaDoorKb
import Derived.Maps.AppendAt
namespace Go.Proofs.YtldpflijgbcbhaaDoor.kk
open Go.RowKit

set_option maxRecDepth 100000 in
set_option maxHeartbeats 8000000 in
theorem kwrite_ok (i : Nat) (v : Value) (l : List UInt8) (w : World) (S : Nat → Prop) (d : Nat) (M : DiskM) (h : DiskAt w S d M) (hs : M.steps ≤ 1000000000000) (hsn : M.since.length ≤ 1000000000) (hst : M.stopped = false) (hi : i < M.now.length)
    (hl : l.length ≤ 64) (hv : BytesW w v l) (hvd : 0 < l.length → ∀ b, v.ownBlock = some b → ¬ S b) :
    Calls Tryd.prog 30 #[.pointer (some ⟨d, 0, none⟩), .int .i64 i, v] w (DiskPost S d w (M.write i l) (.int .i64 0)) := by
  obtain ⟨bn, cn, bs, cs, sv, ns, ss, xs, h⟩ := h
  have how : Own w d _ _ _ _ _ := ⟨h.self⟩
  have H := Lib.hid h
  have HOW := Lib.hid how
  have hle := h.le
  obtain ⟨sp, sc, rfl, hsrc⟩ := hv
  have HSRC := Lib.hid hsrc
  have HVD := Lib.hid hvd
  have r1 : decide ((i : Int) < 0) = false := decide_eq_false (by omega)
  have r2 : decide ((M.now.length : Int) ≤ (i : Int)) = false := decide_eq_false (by omega)
  have r2n : decide (M.now.length ≤ i) = false := decide_eq_false (by omega)
  have r3 : decide ((64 : Int) < (l.length : Int)) = false := decide_eq_false (by omega)
  have hcase : (decide (0 ≤ M.stop) = false) ∨ (decide (0 ≤ M.stop) = true ∧ decide (M.stop ≤ (M.steps : Int)) = false) := by
    rcases stop_case M with ⟨h0, _⟩ | ⟨_, q⟩ | ⟨_, q⟩
    · rw [hst] at h0; cases h0
    · exact Or.inl q
    · exact Or.inr q
  have c0 := how.c0
  have c3 := how.c3
  have c4 := how.c4
  clear h hst hsrc hvd how
  rcases hcase with q1 | ⟨q1, q2⟩
  all_goals
    go_enter Tryd.func30, Tryd.ntmps30
    go_wp2_with fail
    go_quiet (fail)
    have hb1 : Below w.heap.size w (w.drewN nq) := below_drewN (Below.refl _ _) nq
    generalize w.drewN nq = w1 at *
    have ho1 := HOW.out.later hb1
    have hs1 : Since d w w1 := (Since.refl d w).below hb1
    have HO1 := Lib.hid ho1
    have HS1 := Lib.hid hs1
    have HB1 := Lib.hid hb1
    have hmk := mk64
    have d0 := ho1.c0
    have hb3 : Below w1.heap.size w1 (w1.alloc (.cells (bytesArr zeros64) 5)) := (Below.refl _ _).alloc (Nat.le_refl _) _
    have P1 : Hid ((w1.alloc (.cells (bytesArr zeros64) 5)).heap[w1.heap.size]? = some (.cells (zeros64.map byteV).toArray 5 (0, 0))) := heap_alloc_at rfl _
    have P2 : Hid ((l.map byteV).length = Nat.min l.length 64) := by show _ = _; rw [List.length_map]; show l.length = min l.length 64; omega
    have P3 : Hid (0 < (l.map byteV).length → ∃ ad, sp = some ad ∧ ∀ j v, (l.map byteV)[j]? = some v → (w1.alloc (.cells (bytesArr zeros64) 5)).cell? (ad.add j) = some v) := by
      intro h0
      rw [List.length_map] at h0
      obtain ⟨b, o, hsp, hlt, hc⟩ := HSRC.out h0
      refine ⟨⟨b, o, none⟩, hsp, fun j u hj => ?_⟩
      rw [addr_add, World.cell?_alloc_lt _ _ ⟨b, o + j, none⟩ (Nat.lt_of_lt_of_le hlt HB1.out.size)]
      exact (HB1.out.cell (p := ⟨b, o + j, none⟩) hlt).trans (hc j u hj)
    have P4 : Hid (0 + (l.map byteV).length ≤ (zeros64.map byteV).length) := by show _ ≤ _; rw [List.length_map, List.length_map]; simp [zeros64]; omega
    have P5 := Lib.hid hb3
    clear c0 c3 c4 ho1 hs1 hb1 hb3
    go_wp2_with (refine wpList_copy_splice (o := ⟨some 41, _, _, _, _, _⟩) rfl (.tmp 39) (.tmp 40) _ _ rfl 5 Tryd.underlying22 (by kernel_rfl) (some ⟨w1.heap.size, 0, none⟩) sp 64 64 l.length sc rfl rfl w1.heap.size 0 (zeros64.map byteV) 5 P1.out (l.map byteV) P2.out (fun h0 => ⟨rfl, P3.out h0⟩) P4.out (byteV_one l) w1.heap.size w1 P5.out (Nat.le_refl _) ?_)
    intro w4 hg4 hb4
    have HG4 : Hid (w4.heap[w1.heap.size]? = some (.cells (bytesArr (padTo l)) 5 (0, 0))) := by
      show _ = _
      rw [hg4.out, splice_pad hl]
    have ho4 := HO1.out.later hb4
    have hs4 : Since d w w4 := HS1.out.below hb4
    have ho5 := ho4.set3 (M.steps + 1)
    have hs5 := hs4.set 3 (.int .i64 ((M.steps + 1 : Nat) : Int))
    have ecast : ((M.steps + 1 : Nat) : Int) = (M.steps : Int) + 1 := by omega
    rw [ecast] at ho5 hs5
    have hgd : w1.heap.size ≠ d := by have := HOW.out.lt; have := HB1.out.size; omega
    have HG5 : Hid ((w4.setCell ⟨d, 3, none⟩ (.int .i64 ((M.steps : Int) + 1))).heap[w1.heap.size]? = some (.cells (bytesArr (padTo l)) 5 (0, 0))) := by
      show _ = _
      rw [setCell_heap_ne hgd]; exact HG4.out
    have e0 := ho4.c0
    have e3 := ho4.c3
    have f3 := ho4.free 3
    have e2 := ho4.c2
    have f2 := ho4.free 2
    have hnow4 : RowIs w4 S d bn cn M.now ns := H.out.now.later (fun k hk hne => hs4.only.block k (H.out.dom k hk) hne) (fun _ h => h)
    have hsin5 : SinceIs (w4.setCell ⟨d, 3, none⟩ (.int .i64 ((M.steps : Int) + 1))) S d M.now.length sv M.since xs := H.out.since.later (fun k hk hne => hs5.only.block k (H.out.dom k hk) hne) (fun _ h => h)
    have er := hnow4.own.cellAt i (by omega)
    have fr := hnow4.own.frozenAt i
    obtain ⟨x0, hx0⟩ : ∃ x0, ns[i]? = some x0 := ⟨ns[i]'(by have := hnow4.own.1; omega), by simp⟩
    rw [hx0] at er
    have hdbn : ¬ d = bn := fun e => hnow4.ne e.symm
    have hbnd : ¬ bn = d := hnow4.ne
    have hi2 : (i : Int) < (M.now.length : Int) := by omega
    have hi0 : (0 : Int) ≤ (i : Int) := by omega
    obtain ⟨i0, hi0', hz0, hz1, hz2⟩ := info_parts infoWr
    have HI0 := Lib.hid hi0'
    have HZ0 := Lib.hid hz0
    have HZ1 := Lib.hid hz1
    have HZ2 := Lib.hid hz2
    have hrowne : ∀ g, sv.ownBlock = some g → g ≠ bn := fun g hg => by
      obtain ⟨c, hc⟩ := row_block H.out.since.own hg
      obtain ⟨c', hc'⟩ := row_block H.out.now.own (g := bn) rfl
      exact type_ne hc hc' (by decide)
    have Q1 : Hid ((((w4.setCell ⟨d, 3, none⟩ (.int .i64 ((M.steps : Int) + 1))).setCell ⟨bn, i, none⟩ (.slice (some ⟨w1.heap.size, 0, none⟩) 64 64)).alloc (.cells #[.int .i64 (i : Int), .slice (some ⟨w1.heap.size, 0, none⟩) 64 64] 127)).ownsRow 0 127 2 sv M.since.length xs) :=
      (ownsRow_later hsin5.own (fun g hg => Below.heap_setCell _ _ _ _ (hrowne g hg))).alloc _
    have Q2 : Hid (∀ (j : Nat) (u : Value), ([Value.int .i64 (i : Int), .slice (some ⟨w1.heap.size, 0, none⟩) 64 64] : List Value)[j]? = some u → (((w4.setCell ⟨d, 3, none⟩ (.int .i64 ((M.steps : Int) + 1))).setCell ⟨bn, i, none⟩ (.slice (some ⟨w1.heap.size, 0, none⟩) 64 64)).alloc (.cells #[.int .i64 (i : Int), .slice (some ⟨w1.heap.size, 0, none⟩) 64 64] 127)).cell? (Addr.add ⟨w4.heap.size, 0, none⟩ j) = some u) := by
      intro j u hj
      rw [addr_add, World.cell?_alloc_at _ _ _ _ (by rw [World.size_setCell, World.size_setCell])]
      match j, hj with
      | 0, hj => exact hj
      | 1, hj => exact hj
    have Q3 : Hid (∀ u ∈ ([Value.int .i64 (i : Int), .slice (some ⟨w1.heap.size, 0, none⟩) 64 64] : List Value), u.oneCell' = true) := by
      intro u hu
      simp at hu
      rcases hu with rfl | rfl <;> rfl
    obtain ⟨sa, sc2, hsv⟩ : ∃ sa sc2, sv = .slice sa M.since.length sc2 := by
      obtain ⟨_, h2⟩ := H.out.since.own
      rcases h2 with ⟨h2, h3⟩ | ⟨g, c, _, h2, _⟩
      · exact ⟨none, 0, by rw [h2, h3]⟩
      · exact ⟨_, _, h2⟩
    have HSV := Lib.hid hsv
    have HO5 := Lib.hid ho5
    have HS5 := Lib.hid hs5
    have HB14 : Hid (w.heap.size ≤ w1.heap.size) := HB1.out.size
    rw [hsv] at e2 Q1
    clear hg4 ho4 hs4 ho5 hs5 hnow4 hsin5 hx0 hmk d0 hi0' hz0 hz1 hz2 hrowne hsv ecast hgd hb4
    go_wp2_with (refine wpList_append_own_at (o := ⟨some 65, _, _, _, _, _⟩) _ rfl (.tmp 60) (.tmp 64) 67 rfl 0 127 i0 (.agg #[.int .i64 0, .slice none 0 0]) 2 32 Tryd.underlying67 HI0.out HZ0.out HZ1.out HZ2.out rfl (by decide) (.slice sa M.since.length sc2) M.since.length xs rfl Q1.out ⟨w4.heap.size, 0, none⟩ 1 1 [.int .i64 (i : Int), .slice (some ⟨w1.heap.size, 0, none⟩) 64 64] rfl rfl Q2.out Q3.out (by unfold maxLen; omega) (by omega) (by omega) ?_)
    intro v' w6 hown6 hgrow6 hnil6 hblk6
    have ho5' := HO5.out
    rw [HSV.out] at ho5'
    have h' := H.out
    rw [HSV.out] at h'
    obtain ⟨g6, c6, rfl, k2, kf, hfin⟩ := write_end h' ho5' HS5.out hi hl HB14.out HG5.out hown6 hgrow6 (by rw [World.size_alloc, World.size_setCell, World.size_setCell]; exact hblk6)
    clear hown6 hgrow6 hnil6 hblk6 ho5' h'
    have HFIN := Lib.hid hfin
    clear hfin
    go_wp2_with fail
    go_ret
    exact ⟨rfl, HFIN.out⟩
end Go.Proofs.YtldpflijgbcbhaaDoor.kk
