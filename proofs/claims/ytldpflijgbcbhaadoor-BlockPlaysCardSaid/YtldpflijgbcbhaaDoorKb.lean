/- The document's disk: Flush and Write. -/
import Derived.Test.YtldpflijgbcbhaaDoorKa
import Derived.Deep.AppendLies
namespace Go.Proofs.YtldpflijgbcbhaaDoor.kk
open Go.RowKit

/-- has it stopped? as the text asks -/
theorem stop_case (M : DiskM) : (M.stopped = true ∧ decide (0 ≤ M.stop) = true ∧ decide (M.stop ≤ (M.steps : Int)) = true) ∨ (M.stopped = false ∧ decide (0 ≤ M.stop) = false) ∨ (M.stopped = false ∧ decide (0 ≤ M.stop) = true ∧ decide (M.stop ≤ (M.steps : Int)) = false) := by
  unfold DiskM.stopped
  cases decide (0 ≤ M.stop) <;> cases decide (M.stop ≤ (M.steps : Int)) <;> simp

/-- a disk whose rows are new -/
theorem disk_new {w wf : World} {S : Nat → Prop} {d bn cn bs cs bl cl g cap : Nat} {M M' : DiskM} {sv : Value} {ns ss xs ls : List Value} (hi : DiskIs w S d M bn cn bs cs sv ns ss xs) (hon : Only S w wf)
    (ho : Own wf d (.slice (some ⟨bl, 0, none⟩) M.now.length cl) (.slice (some ⟨g, 0, none⟩) M.now.length cap) (.slice none 0 0) M'.steps M'.stop)
    (h1 : wf.ownsRow 0 22 1 (.slice (some ⟨bl, 0, none⟩) M.now.length cl) M.now.length ls) (h2 : wf.ownsRow 0 22 1 (.slice (some ⟨g, 0, none⟩) M.now.length cap) M.now.length ls)
    (hbl : Grow S w wf bl ∧ bl ≠ d) (hgg : Grow S w wf g ∧ g ≠ d) (hne : bl ≠ g)
    (hblk : ∀ (i : Nat) (m : Option (List UInt8)), M'.now[i]? = some m → ∃ x, ls[i]? = some x ∧ BlkAt wf (fun k => Grow S w wf k ∧ k ≠ d) x m)
    (e1 : M'.now.length = M.now.length) (e2 : M'.safe = M'.now) (e3 : M'.since = []) (hst : M'.stop ≤ 9223372036854775807 ∧ -1 ≤ M'.stop) : DiskAt wf (Grow S w wf) d M' := by
  refine ⟨bl, cl, g, cap, .slice none 0 0, ls, ls, [], ⟨?_, Or.inl hi.sd, ⟨by rw [e1]; exact h1, hbl.1, hbl.2, hblk⟩, ⟨by rw [e2, e1]; exact h2, hgg.1, hgg.2, by rw [e2]; exact hblk⟩, ⟨by rw [e3]; exact World.ownsRow_nil _ _ _ _, (fun k hk => by simp [Value.ownBlock] at hk), (fun i p hp => by rw [e3] at hp; simp at hp)⟩, by rw [e2], hne, by rw [e1]; exact hi.pos, by rw [e1]; exact hi.le, ?_, hst⟩⟩
  · rw [e2, e1]; exact ho.heap
  · intro k hk
    rcases hk with hk | ⟨_, hk⟩
    · exact Nat.lt_of_lt_of_le (hi.dom k hk) hon.size
    · exact hk

/-- behind the copy of the blocks -/
theorem kflush_mid {w w2 w3 : World} {S : Nat → Prop} {d : Nat} {M : DiskM} {bn cn bs cs g cap : Nat} {sv : Value} {ns ss xs : List Value} (h : DiskIs w S d M bn cn bs cs sv ns ss xs) (hs2 : Since d w w2)
    (ho2 : Own w2 d (.slice (some ⟨bn, 0, none⟩) M.now.length cn) (.slice none 0 0) sv (M.steps + 1) M.stop)
    (hown3 : w3.ownsRow w2.heap.size 22 1 (.slice (some ⟨g, 0, none⟩) (0 + M.now.length) cap) (0 + M.now.length) ([] ++ ns)) (hgrow : w2.drew.grownBy w3 (Value.slice none 0 0).ownBlock) (hat : (Value.slice none 0 0).ownBlock = some g ∨ g = w2.heap.size) (hlt : g < w3.heap.size) :
    w3.cell? ⟨d, 1, none⟩ = some (.slice none 0 0) ∧ w3.frozen? ⟨d, 1, none⟩ = false ∧ w3.cell? ⟨d, 2, none⟩ = some sv ∧ w3.frozen? ⟨d, 2, none⟩ = false ∧
      Only S w ((w3.setCell ⟨d, 1, none⟩ (.slice (some ⟨g, 0, none⟩) M.now.length cap)).setCell ⟨d, 2, none⟩ (.slice none 0 0)) ∧
      DiskAt ((w3.setCell ⟨d, 1, none⟩ (.slice (some ⟨g, 0, none⟩) M.now.length cap)).setCell ⟨d, 2, none⟩ (.slice none 0 0)) (Grow S w ((w3.setCell ⟨d, 1, none⟩ (.slice (some ⟨g, 0, none⟩) M.now.length cap)).setCell ⟨d, 2, none⟩ (.slice none 0 0))) d M.flush := by
  have hg : g = w2.heap.size := by rcases hat with h | h; (simp [Value.ownBlock] at h); exact h
  have hb3 : Below w2.heap.size w2 w3 := ((Below.refl _ w2).drew).grown hgrow (Nat.le_refl _) (fun k hk => by simp [Value.ownBlock] at hk)
  have ho3 := ho2.later hb3
  have ho5 := (ho3.set1 (.slice (some ⟨g, 0, none⟩) M.now.length cap)).set2 (.slice none 0 0)
  have hs5 := ((hs2.below hb3).set 1 (.slice (some ⟨g, 0, none⟩) M.now.length cap)).set 2 (.slice none 0 0)
  have hsz := hs2.only.size
  have hsz3 := hb3.size
  have hdl : d < w.heap.size := lt_of_heap h.self
  rw [Nat.zero_add, List.nil_append] at hown3
  refine ⟨ho3.c1, ho3.free 1, ho3.c2, ho3.free 2, hs5.only.mono (fun k _ hk => by rw [hk]; exact h.sd), ?_⟩
  have hon : Only S w ((w3.setCell ⟨d, 1, none⟩ (.slice (some ⟨g, 0, none⟩) M.now.length cap)).setCell ⟨d, 2, none⟩ (.slice none 0 0)) := hs5.only.mono (fun k _ hk => by rw [hk]; exact h.sd)
  have hk5 : ∀ k, k ≠ d → ((w3.setCell ⟨d, 1, none⟩ (.slice (some ⟨g, 0, none⟩) M.now.length cap)).setCell ⟨d, 2, none⟩ (.slice none 0 0)).heap[k]? = w3.heap[k]? := fun k hk => by
    rw [setCell_heap_ne hk, setCell_heap_ne hk]
  have hk0 : ∀ k, S k → k ≠ d → ((w3.setCell ⟨d, 1, none⟩ (.slice (some ⟨g, 0, none⟩) M.now.length cap)).setCell ⟨d, 2, none⟩ (.slice none 0 0)).heap[k]? = w.heap[k]? := fun k hs hk => hs5.only.block k (h.dom k hs) hk
  have hss : ((w3.setCell ⟨d, 1, none⟩ (.slice (some ⟨g, 0, none⟩) M.now.length cap)).setCell ⟨d, 2, none⟩ (.slice none 0 0)).heap.size = w3.heap.size := by simp
  have hrn := h.now.later hk0 (S' := Grow S w ((w3.setCell ⟨d, 1, none⟩ (.slice (some ⟨g, 0, none⟩) M.now.length cap)).setCell ⟨d, 2, none⟩ (.slice none 0 0))) (fun k hk => Or.inl hk)
  refine disk_new (M' := M.flush) h hon ho5 hrn.own (ownsRow_later (ownsRow_base hown3 0 (Nat.zero_le _)) (fun k hk => ?_)) ⟨Or.inl h.now.sb, h.now.ne⟩ ⟨Or.inr ⟨by omega, by rw [hss]; exact hlt⟩, by omega⟩ ?_ hrn.blk rfl rfl rfl h.stp
  · simp only [Value.ownBlock, Option.some.injEq] at hk
    subst hk
    exact hk5 _ (by omega)
  · have := h.dom bn h.now.sb; omega

set_option maxHeartbeats 2000000 in
theorem kflush_stop (w : World) (S : Nat → Prop) (d : Nat) (M : DiskM) (h : DiskAt w S d M) (hst : M.stopped = true) :
    Calls Tryd.prog 31 #[.pointer (some ⟨d, 0, none⟩)] w fun e w' => e = .returned (.int .i64 7) ∧ Below w.heap.size w w' := by
  obtain ⟨bn, cn, bs, cs, sv, ns, ss, xs, h⟩ := h
  have how : Own w d _ _ _ _ _ := ⟨h.self⟩
  have c3 := how.c3
  have c4 := how.c4
  have hB : ∀ n, Hid (Below w.heap.size w (w.drewN n)) := fun n => below_drewN (Below.refl _ _) n
  rcases stop_case M with ⟨_, q1, q2⟩ | ⟨h0, _⟩ | ⟨h0, _⟩
  · clear h how hst
    go_enter Tryd.func31, Tryd.ntmps31
    go_wp2_with fail
    go_quiet (fail)
    go_wp2_with fail
    go_ret
    exact ⟨rfl, (hB _).out⟩
  · rw [hst] at h0; cases h0
  · rw [hst] at h0; cases h0

set_option maxRecDepth 100000 in
set_option maxHeartbeats 4000000 in
theorem kflush_ok (w : World) (S : Nat → Prop) (d : Nat) (M : DiskM) (h : DiskAt w S d M) (hs : M.steps ≤ 1000000000000) (hst : M.stopped = false) :
    Calls Tryd.prog 31 #[.pointer (some ⟨d, 0, none⟩)] w (DiskPost S d w M.flush (.int .i64 0)) := by
  obtain ⟨bn, cn, bs, cs, sv, ns, ss, xs, h⟩ := h
  have how : Own w d _ _ _ _ _ := ⟨h.self⟩
  have c0 := how.c0
  have c1 := how.c1
  have c2 := how.c2
  have c3 := how.c3
  have c4 := how.c4
  have f1 := how.free 1
  have f2 := how.free 2
  have f3 := how.free 3
  have hpos := h.pos
  have hle := h.le
  have H := Lib.hid h
  have HOW := Lib.hid how
  have hcase : (decide (0 ≤ M.stop) = false) ∨ (decide (0 ≤ M.stop) = true ∧ decide (M.stop ≤ (M.steps : Int)) = false) := by
    rcases stop_case M with ⟨h0, _⟩ | ⟨_, q⟩ | ⟨_, q⟩
    · rw [hst] at h0; cases h0
    · exact Or.inl q
    · exact Or.inr q
  clear h how hst
  obtain ⟨i0, hi0, hz0, hz1, hz2⟩ := info_parts infoSl
  have HI0 := Lib.hid hi0
  have HZ0 := Lib.hid hz0
  have HZ1 := Lib.hid hz1
  have HZ2 := Lib.hid hz2
  clear hi0 hz0 hz1 hz2
  rcases hcase with q1 | ⟨q1, q2⟩
  all_goals
    go_enter Tryd.func31, Tryd.ntmps31
    go_wp2_with fail
    go_quiet (fail)
    go_wp2_with fail
    have HBQ : Below w.heap.size w (w.drewN nq) := below_drewN (Below.refl _ _) nq
    have ecast : ((M.steps + 1 : Nat) : Int) = (M.steps : Int) + 1 := by omega
    have ho2 := ((HOW.out.later HBQ).set3 (M.steps + 1)).set1 (.slice none 0 0)
    have hs2 := (((Since.refl d w).below HBQ).set 3 (.int .i64 ((M.steps + 1 : Nat) : Int))).set 1 (.slice none 0 0)
    rw [ecast] at ho2 hs2
    generalize (((w.drewN nq).setCell ⟨d, 3, none⟩ (.int .i64 ((M.steps : Int) + 1))).setCell ⟨d, 1, none⟩ (.slice none 0 0)) = W2 at *
    have hsrc : ∀ (j : Nat) (u : Value), ns[j]? = some u → W2.drew.cell? (Addr.add ⟨bn, 0, none⟩ j) = some u := by
      intro j u hj
      have hrn := H.out.now.later (w' := W2) (fun k hk hne => hs2.only.block k (H.out.dom k hk) hne) (S' := S) (fun _ h => h)
      have hjl : j < M.now.length * 1 := by
        obtain ⟨hl, _⟩ := List.getElem?_eq_some_iff.1 hj
        have := H.out.now.own.1
        omega
      rw [addr_add, Nat.zero_add]
      exact (hrn.own.cellAt j hjl).trans hj
    have hl1 : ns.length = M.now.length * 1 := H.out.now.own.1
    have hone := H.out.now.one
    have d0 := ho2.c0
    have d1 := ho2.c1
    have g1 := ho2.free 1
    have HSRC := Lib.hid hsrc
    have HL1 := Lib.hid hl1
    have HONE := Lib.hid hone
    have HO2 := Lib.hid ho2
    have HS2 := Lib.hid hs2
    clear hsrc hl1 hone ho2 hs2 HBQ ecast c0 c1 c2 c3 c4 f1 f2 f3
    go_region_law
      ((refine step_append_lies _ (by rfl) _ _ _ (by rfl) W2.heap.size 22 i0 _ 1 24 Tryd.underlying66 HI0.out HZ0.out HZ1.out HZ2.out rfl (by omega) (.slice none 0 0) 0 [] (by rfl) (World.ownsRow_nil _ _ _ _)
          ⟨bn, 0, none⟩ M.now.length cn ns (by rfl) HL1.out HSRC.out HONE.out hpos (by unfold maxLen; omega) (by omega) (Nat.le_refl _) W2.heap.size rfl ?_; intro g cap w3 hown3 hgrow hat hlt3; obtain ⟨kc, kf, kc2, kf2, kfin⟩ := kflush_mid H.out HS2.out HO2.out hown3 hgrow hat hlt3; have KFIN := Lib.hid kfin; clear kfin))
    all_goals
      go_wp2_with fail
      go_ret
      exact ⟨rfl, KFIN.out⟩

set_option maxHeartbeats 2000000 in
theorem kwrite_stop (i : Int) (v : Value) (w : World) (S : Nat → Prop) (d : Nat) (M : DiskM) (h : DiskAt w S d M) (hst : M.stopped = true) :
    Calls Tryd.prog 30 #[.pointer (some ⟨d, 0, none⟩), .int .i64 i, v] w fun e w' => e = .returned (.int .i64 7) ∧ Below w.heap.size w w' := by
  obtain ⟨bn, cn, bs, cs, sv, ns, ss, xs, h⟩ := h
  have how : Own w d _ _ _ _ _ := ⟨h.self⟩
  have c3 := how.c3
  have c4 := how.c4
  have hB : ∀ n, Hid (Below w.heap.size w (w.drewN n)) := fun n => below_drewN (Below.refl _ _) n
  rcases stop_case M with ⟨_, q1, q2⟩ | ⟨h0, _⟩ | ⟨h0, _⟩
  · clear h how hst
    go_enter Tryd.func30, Tryd.ntmps30
    go_wp2_with fail
    go_quiet (fail)
    go_wp2_with fail
    go_ret
    exact ⟨rfl, (hB _).out⟩
  · rw [hst] at h0; cases h0
  · rw [hst] at h0; cases h0

set_option maxHeartbeats 4000000 in
theorem kwrite_range (i : Int) (v : Value) (w : World) (S : Nat → Prop) (d : Nat) (M : DiskM) (h : DiskAt w S d M) (hst : M.stopped = false) (hi : i < 0 ∨ (M.now.length : Int) ≤ i) :
    Calls Tryd.prog 30 #[.pointer (some ⟨d, 0, none⟩), .int .i64 i, v] w fun e w' => e = .returned (.int .i64 1) ∧ Below w.heap.size w w' := by
  obtain ⟨bn, cn, bs, cs, sv, ns, ss, xs, h⟩ := h
  have how : Own w d _ _ _ _ _ := ⟨h.self⟩
  have c0 := how.c0
  have c3 := how.c3
  have c4 := how.c4
  have hle := h.le
  have hB : ∀ n, Hid (Below w.heap.size w (w.drewN n)) := fun n => below_drewN (Below.refl _ _) n
  have hcase : (decide (0 ≤ M.stop) = false) ∨ (decide (0 ≤ M.stop) = true ∧ decide (M.stop ≤ (M.steps : Int)) = false) := by
    rcases stop_case M with ⟨h0, _⟩ | ⟨_, q⟩ | ⟨_, q⟩
    · rw [hst] at h0; cases h0
    · exact Or.inl q
    · exact Or.inr q
  have hrng : (decide (i < 0) = true) ∨ (decide (i < 0) = false ∧ decide ((M.now.length : Int) ≤ i) = true) := by
    by_cases h0 : i < 0
    · exact Or.inl (decide_eq_true h0)
    · exact Or.inr ⟨decide_eq_false h0, decide_eq_true (by omega)⟩
  clear h how hst hi
  rcases hcase with q1 | ⟨q1, q2⟩
  all_goals
    rcases hrng with r1 | ⟨r1, r2⟩
    all_goals
      go_enter Tryd.func30, Tryd.ntmps30
      go_wp2_with fail
      go_quiet (fail)
      go_wp2_with fail
      go_ret
      exact ⟨rfl, (hB _).out⟩

set_option maxHeartbeats 4000000 in
theorem kwrite_full (i n : Nat) (ao : Option Addr) (c : Nat) (w : World) (S : Nat → Prop) (d : Nat) (M : DiskM) (h : DiskAt w S d M) (hst : M.stopped = false) (hi : i < M.now.length) (hn : 64 < n) (hn2 : n ≤ 9223372036854775807) :
    Calls Tryd.prog 30 #[.pointer (some ⟨d, 0, none⟩), .int .i64 i, .slice ao n c] w fun e w' => e = .returned (.int .i64 4) ∧ Below w.heap.size w w' := by
  obtain ⟨bn, cn, bs, cs, sv, ns, ss, xs, h⟩ := h
  have how : Own w d _ _ _ _ _ := ⟨h.self⟩
  have c0 := how.c0
  have c3 := how.c3
  have c4 := how.c4
  have hle := h.le
  have hB : ∀ n, Hid (Below w.heap.size w (w.drewN n)) := fun n => below_drewN (Below.refl _ _) n
  have hcase : (decide (0 ≤ M.stop) = false) ∨ (decide (0 ≤ M.stop) = true ∧ decide (M.stop ≤ (M.steps : Int)) = false) := by
    rcases stop_case M with ⟨h0, _⟩ | ⟨_, q⟩ | ⟨_, q⟩
    · rw [hst] at h0; cases h0
    · exact Or.inl q
    · exact Or.inr q
  have r1 : decide ((i : Int) < 0) = false := decide_eq_false (by omega)
  have r2 : decide ((M.now.length : Int) ≤ (i : Int)) = false := decide_eq_false (by omega)
  have r2n : decide (M.now.length ≤ i) = false := decide_eq_false (by omega)
  have r3 : decide ((64 : Int) < (n : Int)) = true := decide_eq_true (by omega)
  clear h how hst hi hn
  rcases hcase with q1 | ⟨q1, q2⟩
  all_goals
    go_enter Tryd.func30, Tryd.ntmps30
    go_wp2_with fail
    go_quiet (fail)
    go_wp2_with fail
    go_ret
    exact ⟨rfl, (hB _).out⟩
end Go.Proofs.YtldpflijgbcbhaaDoor.kk
