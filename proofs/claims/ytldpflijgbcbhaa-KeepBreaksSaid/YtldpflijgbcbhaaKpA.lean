/- keep.head, keep.Format walked, on a disk that doesn't stop; what a disk keeps, in plain terms. -/
import Derived.Test.YtldpflijgbcbhaaLgN5
import Derived.Test.YtldpflijgbcbhaaLpL
import Derived.Test.YtldpflijgbcbhaaLqG
import Derived.Lib.SlBytesConst
namespace Go.Proofs.Ytldpflijgbcbhaa.lg
open Go.RowKit

/-- "quarterday" -/
def headB : List UInt8 := [113, 117, 97, 114, 116, 101, 114, 100, 97, 121]
/-- what is kept: the head, and records behind it -/
structure KeepIs (M : DiskM) (rs : List (List UInt8)) (ep : Nat) (L : LogS) : Prop where
  free : Free M
  len : 150 ≤ M.now.length ∧ M.now.length ≤ 200
  ok : LogOk M.now 0 150 L
  clean : L.dirty = false
  recs : L.recs = headB :: rs
  ep : L.epoch ≤ ep
def kfmt (M : DiskM) : DiskM := (putsAdd (fmtAll M 0 150) 0 emptyS headB).flush
theorem kfmt_put {M : DiskM} (h1 : 150 ≤ M.now.length) : ∃ k, k ≤ 3 ∧ chunks emptyS.stream (enc1 headB) = k ∧ LogOk (fmtAll M 0 150).now 0 150 emptyS ∧ LogOk (putsAdd (fmtAll M 0 150) 0 emptyS headB).now 0 150 (emptyS.add headB) := by
  have hok : LogOk (fmtAll M 0 150).now 0 150 emptyS := ok_empty (by omega) (fmt_blk (by omega))
  have e0 : emptyS.stream.length = 0 := rfl
  have e1 : headB.length = 10 := rfl
  refine ⟨_, lp.chunks_le (by rw [enc1_len]; omega), rfl, hok, ?_⟩
  obtain ⟨g1, _, _, _⟩ := fmtAll_len M 0 150
  exact ok_append hok (by decide) (by omega) (by omega) (by omega) (by omega)
theorem kfmt_is {M : DiskM} (h : Free M) (h1 : 150 ≤ M.now.length) (h2 : M.now.length ≤ 200) : LogOk (fmtAll M 0 150).now 0 150 emptyS ∧ KeepIs (kfmt M) [] 1 (emptyS.add headB).sync ∧ (kfmt M).steps ≤ M.steps + 200 ∧ (kfmt M).since = [] ∧ (kfmt M).now.length = M.now.length := by
  obtain ⟨g1, g2, g3, g4⟩ := fmtAll_len M 0 150
  obtain ⟨k, hk, hke, hok, hok2⟩ := kfmt_put h1
  have hp := puts_len (fmtAll M 0 150) 0 (emptyS.stream ++ enc1 headB) emptyS.epoch (1 - emptyS.safe) (emptyS.stream.length / 60) (chunks emptyS.stream (enc1 headB))
  have e : puts (fmtAll M 0 150) 0 (emptyS.stream ++ enc1 headB) emptyS.epoch (1 - emptyS.safe) (emptyS.stream.length / 60) (chunks emptyS.stream (enc1 headB)) = putsAdd (fmtAll M 0 150) 0 emptyS headB := rfl
  rw [e, hke] at hp
  unfold kfmt
  generalize putsAdd (fmtAll M 0 150) 0 emptyS headB = M2 at *
  generalize fmtAll M 0 150 = M1 at *
  obtain ⟨q1, q2, q3, q4⟩ := hp
  have hln : M2.flush.now.length = M.now.length := q1.trans g1
  have hfr : Free M2.flush := q4.trans (g4 h)
  exact ⟨hok, ⟨hfr, by omega, ok_sync hok2, rfl, rfl, Nat.le_refl _⟩, by show M2.steps + 1 ≤ _; omega, rfl, hln⟩
theorem kfmt_ex {M : DiskM} (h : Free M) (h1 : 150 ≤ M.now.length) : ∃ M1 M2 L1, fmtR M 0 0 150 = (M1, 0) ∧ Free M1 ∧ (∀ i, blkOf M1.now 0 150 i = none) ∧ M1.steps ≤ M.steps + 151 ∧ M1.since.length = 0 ∧ M1.now.length = M.now.length ∧
    putsR M1 0 (emptyS.add headB) (emptyS.stream.length / 60) (chunks emptyS.stream (enc1 headB)) = (M2, 0) ∧ Free M2 ∧ M2.steps ≤ M.steps + 200 ∧ kfmt M = M2.flush ∧ emptyS.add headB = L1 ∧ L1.broken = false ∧ L1.safe < 2 ∧ L1.stream.length ≤ 12000 := by
  obtain ⟨g1, g2, g3, g4⟩ := fmtAll_len M 0 150
  obtain ⟨k, hk, hke, hok, hok2⟩ := kfmt_put h1
  have hp := puts_len (fmtAll M 0 150) 0 (emptyS.stream ++ enc1 headB) emptyS.epoch (1 - emptyS.safe) (emptyS.stream.length / 60) (chunks emptyS.stream (enc1 headB))
  have e : puts (fmtAll M 0 150) 0 (emptyS.stream ++ enc1 headB) emptyS.epoch (1 - emptyS.safe) (emptyS.stream.length / 60) (chunks emptyS.stream (enc1 headB)) = putsAdd (fmtAll M 0 150) 0 emptyS headB := rfl
  rw [e, hke] at hp
  have hpr := putsR_ok (b := headB) (g4 h) hok (by omega) (by show 0 + 10 + 2 ≤ _; omega)
  have hb := fmt_blk (M := M) (fr := 0) (mn := 150) (by omega)
  have hkf : kfmt M = (putsAdd (fmtAll M 0 150) 0 emptyS headB).flush := by unfold kfmt; rfl
  have hfm := fmt_is h 0 150 (by omega)
  generalize putsAdd (fmtAll M 0 150) 0 emptyS headB = M2 at *
  generalize fmtAll M 0 150 = M1 at *
  obtain ⟨q1, q2, q3, q4⟩ := hp
  exact ⟨M1, M2, _, hfm, g4 h, hb, by omega, g3, g1, hpr, q4.trans (g4 h), by omega, hkf, rfl, hok2.broken, hok2.safe, by have := hok2.room; omega⟩
theorem cell_of_block9 {w : World} {g : Nat} {cs : Array Value} {t : TypeId} {fr : Nat × Nat} (h : w.heap[g]? = some (.cells cs t fr)) (i : Nat) : w.cell? ⟨g, i, none⟩ = cs[i]? := by simp [World.cell?, h]
set_option maxRecDepth 100000 in
set_option maxHeartbeats 1000000 in
theorem head_any (w : World) : Calls Try.prog 60 #[] w fun e w' => ∃ g, e = .returned (.slice (some ⟨g, 0, none⟩) 10 10) ∧ Below w.heap.size w w' ∧ w.heap.size ≤ g ∧ g < w'.heap.size ∧ BytesW w' (.slice (some ⟨g, 0, none⟩) 10 10) headB := by
  obtain ⟨C, hC⟩ : ∃ C : Array Value, C = #[.int .u8 113, .int .u8 117, .int .u8 97, .int .u8 114, .int .u8 116, .int .u8 101, .int .u8 114, .int .u8 100, .int .u8 97, .int .u8 121] := ⟨_, rfl⟩
  have hcv := Lib.run_convert_bytes_const (P := Try.prog) w 23 5 C 10 10 Try.underlying23 Try.underlying5
  obtain ⟨W, hW⟩ : ∃ W, W = w.alloc (.cells C 5 (C.size, C.size + 1)) := ⟨_, rfl⟩
  have hCB : C = bytesArr headB := by rw [hC]; rfl
  have hh : W.heap[w.heap.size]? = some (.cells (bytesArr headB) 5 (C.size, C.size + 1)) := by rw [hW, ← hCB]; exact heap_new_at rfl _
  have HF : Hid (Below w.heap.size w W ∧ w.heap.size < W.heap.size ∧ BytesW W (.slice (some ⟨w.heap.size, 0, none⟩) 10 10) headB) := by
    refine ⟨by rw [hW]; exact (Below.refl _ _).alloc (Nat.le_refl _) _, lt_of_heap hh, some ⟨w.heap.size, 0, none⟩, 10, rfl, fun _ => ⟨w.heap.size, 0, rfl, lt_of_heap hh, fun j u hj => ?_⟩⟩
    rw [Nat.zero_add, cell_of_block9 hh]
    simpa [bytesArr] using hj
  rw [← hW, hC] at hcv
  clear hCB hC hW hh
  go_enter Try.func60, Try.ntmps60
  go_wp2_with fail
  go_ret
  exact ⟨_, rfl, HF.out.1, Nat.le_refl _, HF.out.2.1, HF.out.2.2⟩
/-- a step of a disk -/
theorem Sys.of_disk {B : Nat} {F : Nat → Prop} {w w1 : World} {d p fr mn : Nat} {M : DiskM} {L : LogS} (h : DiskF B F w d M) (ha : OpAt w w1 p d fr mn L) : Stays B F w w1 ∧ Sys B F w1 d M p fr mn L := by
  refine ⟨?_, Sys.of_op h ha⟩
  obtain ⟨S, g1, g2, g3, g4⟩ := h
  exact Stays.of_below ha.below g3 g4
set_option maxRecDepth 100000 in
set_option maxHeartbeats 1000000 in
theorem kformat_any (B : Nat) (F : Nat → Prop) (w : World) (d : Nat) (M : DiskM) (h : DiskF B F w d M) (hfree : Free M) (h1 : 150 ≤ M.now.length) (hs : M.steps ≤ 1000000) (hsn : M.since.length ≤ 1000000) :
    Calls Try.prog 28 #[.pointer (some ⟨d, 0, none⟩)] w (StepF B F w d .nilIface (kfmt M)) := by
  have h2 := (diskF_len h).1
  obtain ⟨M1, M2, L1, hfmt, hfree1, hb1, hst1, hsi1, hln1, hpr, hq4, hq, hkf, hL1, hbr, hsf, hlen⟩ := kfmt_ex hfree h1
  have hbl := blocksF B F w d M h
  have hfm := format_any B F 0 150 w d M h (by omega) (by omega) (by omega) (by omega) (by omega)
  rw [hfmt, errV_zero] at hfm
  obtain ⟨n, hn⟩ : ∃ n, n = M.now.length := ⟨_, rfl⟩
  rw [← hn] at hbl h1 h2 hln1
  have HN := Lib.hid hn
  have HB1 := Lib.hid hb1
  have HPR := Lib.hid hpr
  have HFR := Lib.hid hfree1
  have HKF := Lib.hid hkf
  have HQ4 := Lib.hid hq4
  have HL1 := Lib.hid hL1
  have HLL : Hid (L1.broken = false ∧ L1.safe < 2 ∧ L1.stream.length ≤ 12000) := ⟨hbr, hsf, hlen⟩
  clear hn hb1 hpr hfree1 hfree h hq4 hkf hfmt hL1 hbr hsf hlen
  go_enter Try.func28, Try.ntmps28
  go_wp2_with fail
  refine hbl.mono ?_
  rintro e w1 ⟨rfl, rfl⟩
  clear hbl
  go_wp2_with fail
  refine hfm.mono ?_
  rintro e w2 ⟨rfl, hs2, hd2⟩
  have ho := open_any B F 0 150 w2 d M1 hd2 (by omega) (by omega) (by omega) (fun i c _ hc => by rw [HB1.out i] at hc; cases hc)
  rw [open_empty HB1.out] at ho
  have HD2 := Lib.hid hd2
  have HS2 := Lib.hid hs2
  clear hfm hs2 hd2
  go_wp2_with fail
  refine ho.mono ?_
  rintro e w3 ⟨rfl, hop⟩
  obtain ⟨p, hp⟩ : ∃ p, p = w2.heap.size := ⟨_, rfl⟩
  rw [← hp] at hop ⊢
  obtain ⟨hs3, hy3⟩ := Sys.of_disk HD2.out hop
  have hhd := head_any w3
  have HS3 := Lib.hid (HS2.out.trans hs3)
  have HY3 := Lib.hid hy3
  clear ho hop hp hs3 hy3 HS2 HD2
  go_wp2_with fail
  refine hhd.mono ?_
  rintro e w4 ⟨g, rfl, hb4, hg1, hg2, hby⟩
  have hy4 := HY3.out.more hb4 (fun x => F x ∨ (w3.heap.size ≤ x ∧ x < w4.heap.size)) (fun x hx => hx)
  have hap := append_ok B _ (.slice (some ⟨g, 0, none⟩) 10 10) headB w4 p d 0 150 M1 emptyS hy4 hby (fun g' hg' => Or.inl (Or.inr (by have : g = g' := Option.some.inj hg'; omega))) rfl rfl (by show 1 ≤ 10; omega) (by show 10 ≤ 200; omega) (by show 0 + 10 + 2 ≤ _; omega) (by omega) (by show 0 < 2; omega) (by show 1 ≤ 65535; omega) (by omega) (by show 0 ≤ 100000; omega) (by omega) (by omega) (by rw [HPR.out])
  rw [HPR.out, HL1.out] at hap
  have hF3 : ∀ x, F x → x < w3.heap.size := by obtain ⟨S, T, hs⟩ := HY3.out; exact hs.f_
  have hB3 : B ≤ w3.heap.size := by obtain ⟨S, T, hs⟩ := HY3.out; exact hs.size
  have HS4 := Lib.hid (HS3.out.trans (Stays.of_below hb4 hB3 hF3))
  clear hhd hb4 hg1 hg2 hby hy4 hF3 hB3
  go_wp2_with fail
  refine hap.mono ?_
  rintro e w5 ⟨rfl, hs5, hy5⟩
  have hs5' : Stays B F w4 w5 := hs5.mono (fun x hx => Or.inl hx)
  have hy5' : Sys B F w5 d M2 p 0 150 L1 := hy5.less (fun x hx => Or.inl hx)
  have HS5 := Lib.hid (HS4.out.trans hs5')
  have hsy := sync_any B F w5 p d 0 150 _ _ hy5' HLL.out.1 (by omega) HLL.out.2.1 HLL.out.2.2
  rw [HQ4.out.fcode, HQ4.out.fl, errV_zero] at hsy
  clear hap hs5 hy5 hs5' hy5' HS4 HS3 HY3
  go_wp2_with fail
  refine hsy.mono ?_
  rintro e w6 ⟨rfl, hs6, _, hd6⟩
  have HF : Hid (Stays B F w w6 ∧ DiskF B F w6 d (kfmt M)) := ⟨HS5.out.trans hs6, by rw [HKF.out]; exact hd6⟩
  clear hsy hs6 hd6
  go_wp2_with fail
  go_ret
  exact ⟨rfl, HF.out.1, HF.out.2⟩
end Go.Proofs.Ytldpflijgbcbhaa.lg
