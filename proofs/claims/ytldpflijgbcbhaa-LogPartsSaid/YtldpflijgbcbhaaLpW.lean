/- LogParts walked: two logs on one disk. -/
import Derived.Test.YtldpflijgbcbhaaLgN5
import Derived.Test.YtldpflijgbcbhaaLgT
import Derived.Test.YtldpflijgbcbhaaLpL
import Derived.Test.YtldpflijgbcbhaaInts
import Derived.Deep.OwnRows
import Derived.Deep.CutBlock
import Derived.Deep.DeepCutAuto
namespace Go.Proofs.Ytldpflijgbcbhaa.lg
open Go.RowKit

theorem made_bytes (n : Nat) : madeCells #[Value.int .u8 0] n = bytesArr (List.replicate n 0) := by
  apply Array.ext
  · simp [size_madeCells, bytesArr]
  · intro i h1 h2
    simp [madeCells, bytesArr, Nat.mod_one, byteV]
theorem make_bytes (n : Nat) (hn : n ≤ 4398046511104) (w : World) : (Instr.makeSlice 23 (.int .i64 (n : Int)) (.int .i64 (n : Int))).run Try.prog w = .ok (.slice (some ⟨w.heap.size, 0, none⟩) n n) (w.alloc (.cells (bytesArr (List.replicate n 0)) 5)) := by
  have h := run_make_row' (P := Try.prog) 23 5 (.int .u8 0) 1 Try.underlying23 infoU8 rfl .i64 .i64 n (by omega) (by omega) w
  rw [made_bytes] at h
  exact h
theorem putsR_ok {M : DiskM} {fr mn : Nat} {L : LogS} {b : List UInt8} (h : Free M) (hok : LogOk M.now fr mn L) (hfr : fr + mn ≤ M.now.length) (hr : L.stream.length + b.length + 2 ≤ 60 * (mn - 2)) : putsR M fr (L.add b) (L.stream.length / 60) (chunks L.stream (enc1 b)) = (putsAdd M fr L b, 0) := by
  have := appR_free h hok hfr hr
  unfold appR bareR LogS.bared at this
  rw [hok.bare] at this
  simpa using this
theorem Pair.of_op {B : Nat} {F : Nat → Prop} {w w1 w2 : World} {d pa fa ma pb fb mb : Nat} {M : DiskM} {La Lb : LogS} (h : DiskF B F w d M) (ha : OpAt w w1 pa d fa ma La) (hb : OpAt w1 w2 pb d fb mb Lb) : Pair B F w2 d M pa fa ma La pb fb mb Lb := by
  obtain ⟨rv, sv, rs, ha⟩ := ha
  obtain ⟨rv', sv', rs', hb⟩ := hb
  exact Pair.of h ⟨_, _, _, ha.log⟩ ha.below (Below.refl _ _) ⟨_, _, _, hb.log⟩ hb.below
theorem LogAt.size {w : World} {T : Nat → Prop} {p d fr mn : Nat} {L : LogS} (h : LogAt w T p d fr mn L) : SizeL w p mn L.stream.length L.recs.length := by
  obtain ⟨rv, sv, rs, hl⟩ := h; exact hl.size
/-- bytes in a block -/
theorem bytes_block {w : World} {g : Nat} {l : List UInt8} (h : w.heap[g]? = some (.cells (bytesArr l) 5 (0, 0))) : BytesW w (.slice (some ⟨g, 0, none⟩) l.length l.length) l := by
  refine ⟨some ⟨g, 0, none⟩, l.length, rfl, fun _ => ⟨g, 0, rfl, lt_of_heap h, fun j u hj => ?_⟩⟩
  rw [Nat.zero_add, cell_of_heap h]
  simpa [bytesArr] using hj
theorem set_bytes (b : UInt8) (k : Nat) : (bytesArr (List.replicate (k + 1) 0)).setIfInBounds 0 (byteV b) = bytesArr (b :: List.replicate k 0) := by
  simp [bytesArr, List.replicate_succ]
theorem fmtAll_len (M : DiskM) (fr n : Nat) : (fmtAll M fr n).now.length = M.now.length ∧ (fmtAll M fr n).steps = M.steps + n + 1 ∧ (fmtAll M fr n).since.length = 0 ∧ (Free M → Free (fmtAll M fr n)) := by
  have g := fmtGo_len M fr n
  exact ⟨g.1, by show (fmtGo M fr n).steps + 1 = _; rw [g.2.1], rfl, fun h => fmtGo_free h fr n⟩
/-- a disk made empty, from block i on -/
theorem fmt_is {M : DiskM} (h : Free M) (fr n : Nat) (hn : fr + n ≤ M.now.length) : fmtR M fr 0 n = (fmtAll M fr n, 0) := by
  have e := fmtR_free h fr n 0 (by omega)
  rw [show fmtGo M fr 0 = M from rfl, Nat.zero_add] at e
  exact e
/-- the empty disk of the law -/
structure LpStart (M2 : DiskM) : Prop where
  free : Free M2
  len : M2.now.length = 60
  steps : M2.steps = 62
  since : M2.since.length = 0
  a : ∀ i, blkOf M2.now 0 30 i = none
  b : ∀ i, blkOf M2.now 30 30 i = none
theorem lp_start {M0 M1 M2 : DiskM} (hfree : Free M0) (hlen0 : M0.now.length = 60) (hst0 : M0.steps = 0) (hM1 : M1 = fmtAll M0 0 30) (hM2 : M2 = fmtAll M1 30 30) : (Free M1 ∧ M1.now.length = 60 ∧ M1.steps = 31 ∧ M1.since.length = 0) ∧ LpStart M2 := by
  obtain ⟨g1, g2, g3, g4⟩ := fmtAll_len M0 0 30
  obtain ⟨k1, k2, k3, k4⟩ := fmtAll_len M1 30 30
  rw [← hM1] at g1 g2 g3 g4
  rw [← hM2] at k1 k2 k3 k4
  have hl1 : M1.now.length = 60 := by omega
  exact ⟨⟨g4 hfree, by omega, by omega, g3⟩, ⟨k4 (g4 hfree), by omega, by omega, k3, fun i => by rw [hM2, fmt_apart (by omega), hM1]; exact fmt_blk (by omega) i, fun i => by rw [hM2]; exact fmt_blk (by omega) i⟩⟩
theorem lp_first {M2 : DiskM} (h : LpStart M2) : putsR M2 0 (emptyS.add [5]) (emptyS.stream.length / 60) (chunks emptyS.stream (enc1 [5])) = (putsAdd M2 0 emptyS [5], 0) ∧ lp.LP (putsAdd M2 0 emptyS [5]) (emptyS.add [5]) emptyS 0 := by
  have hoka : LogOk M2.now 0 30 emptyS := ok_empty (by omega) h.a
  have hokb : LogOk M2.now 30 30 emptyS := ok_empty (by omega) h.b
  have hl2 := h.len
  have hs2 := h.steps
  have hc2 := h.since
  have e0 : emptyS.stream.length = 0 := rfl
  have e1 : ([5] : List UInt8).length = 1 := rfl
  have e2 : (enc1 [5]).length = 3 := rfl
  refine ⟨putsR_ok h.free hoka (by omega) (by omega), ?_⟩
  have hch : chunks emptyS.stream (enc1 [5]) ≤ 3 := lp.chunks_le (by omega)
  obtain ⟨q1, q2, q3, q4⟩ := puts_len M2 0 (emptyS.stream ++ enc1 [5]) emptyS.epoch (1 - emptyS.safe) (emptyS.stream.length / 60) (chunks emptyS.stream (enc1 [5]))
  have hap := puts_apart (M := M2) (fr := 0) (mn := 30) (fr' := 30) (mn' := 30) (s := emptyS.stream ++ enc1 [5]) (E := emptyS.epoch) (t := 1 - emptyS.safe) (a := emptyS.stream.length / 60) (by omega) (by decide) (by omega) (by decide) (chunks emptyS.stream (enc1 [5])) (fun j hj => chunks_lt j hj)
  exact ⟨ok_append hoka (by decide) (by omega) (by omega) (by omega) (by omega), lp.ok_apart hokb hap, q1.trans hl2, q4.trans h.free, rfl, rfl, by decide, by decide, Nat.le_trans (Nat.le_of_eq q2) (by omega), Nat.le_trans (Nat.le_of_eq q3) (by omega)⟩
def lpB (i k : Nat) : List UInt8 := UInt8.ofNat i :: List.replicate k 0
theorem lpB_len (i k : Nat) : (lpB i k).length = k + 1 := by simp [lpB]
/-- how many bytes -/
def lpK (z : Int) : Nat := (Int.tmod z 90).natAbs
theorem lpK_lt (z : Int) : lpK z ≤ 89 := by
  unfold lpK
  have := Int.natAbs_tmod z 90
  have h2 : (Int.natAbs z) % (Int.natAbs 90) < 90 := Nat.mod_lt _ (by decide)
  omega
theorem pair_block {B : Nat} {w : World} {d pa fa ma pb fb mb : Nat} {M : DiskM} {La Lb : LogS} (h : Pair B (fun _ => False) w d M pa fa ma La pb fb mb Lb) {w2 : World} (hb : Below w.heap.size w w2) : Pair B (fun x => w.heap.size ≤ x ∧ x < w2.heap.size) w2 d M pa fa ma La pb fb mb Lb :=
  h.more hb _ (fun x hx => Or.inr hx)

set_option maxRecDepth 100000 in
set_option maxHeartbeats 8000000 in
theorem parts_any (ao : Option Addr) (cap : Nat) (xs : List Int) (turn : Int) (w : World) (hz : IntsAt w ao xs) (hl : ∀ x ∈ xs, -9223372036854775808 ≤ x ∧ x ≤ 9223372036854775807) (hn : xs.length ≤ 9223372036854775807) :
    Calls Try.prog 5 #[.slice ao xs.length cap, .int .i64 turn] w fun e w' => e = .returned (.bool true) ∧ Below w.heap.size w w' := by
  obtain ⟨B, hB⟩ : ∃ B, B = w.heap.size := ⟨_, rfl⟩
  have hnew := newF 60 w (by omega) (by omega)
  have HZ := Lib.hid hz
  have HL := Lib.hid hl
  rw [← hB] at hnew ⊢
  have HBB := Lib.hid hB
  clear hz hl hB
  go_enter Try.func5, Try.ntmps5
  go_wp2_with fail
  refine hnew.mono ?_
  rintro e w1 ⟨rfl, hb1, hd1⟩
  obtain ⟨M0, hM0⟩ : ∃ M0, M0 = DiskM.new 60 := ⟨_, rfl⟩
  rw [← hM0] at hd1
  have hfree : Free M0 := by rw [hM0]; rfl
  have hlen0 : M0.now.length = 60 := by rw [hM0]; simp [DiskM.new]
  have hst0 : M0.steps = 0 := by rw [hM0]; rfl
  have hsi0 : M0.since.length = 0 := by rw [hM0]; rfl
  obtain ⟨M1, hM1⟩ : ∃ M1, M1 = fmtAll M0 0 30 := ⟨_, rfl⟩
  obtain ⟨M2, hM2⟩ : ∃ M2, M2 = fmtAll M1 30 30 := ⟨_, rfl⟩
  obtain ⟨⟨hf1, hl1, hs1, hc1⟩, hLS⟩ := lp_start hfree hlen0 hst0 hM1 hM2
  obtain ⟨hf2, hl2, hs2, hc2, hba, hbb⟩ := id hLS
  have HLS := Lib.hid hLS
  have hfm1 := format_any B (fun _ => False) 0 30 w1 B M0 hd1 (by omega) (by omega) (by omega) (by omega) (by omega)
  rw [fmt_is hfree 0 30 (by omega), ← hM1, errV_zero] at hfm1
  have HB1 := Lib.hid hb1
  clear hnew hb1 hd1 hM0 hLS
  go_wp2_with fail
  refine hfm1.mono ?_
  rintro e w2 ⟨rfl, hs2', hd2⟩
  have HB2 : Hid (Below B w w2) := HB1.out.trans hs2'.below
  have hfm2 := format_any B (fun _ => False) 30 30 w2 B M1 hd2 (by omega) (by omega) (by omega) (by omega) (by omega)
  rw [fmt_is hf1 30 30 (by omega), ← hM2, errV_zero] at hfm2
  clear hfm1 hs2' hd2
  go_wp2_with fail
  refine hfm2.mono ?_
  rintro e w3 ⟨rfl, hs3', hd3⟩
  have HB3 : Hid (Below B w w3) := HB2.out.trans hs3'.below
  have HD3 := Lib.hid hd3
  have ho1 := open_any B (fun _ => False) 0 30 w3 B M2 hd3 (by omega) (by omega) (by omega) (fun i c _ hc => by rw [hba i] at hc; cases hc)
  rw [open_empty hba] at ho1
  clear hfm2 hs3' hd3
  go_wp2_with fail
  refine ho1.mono ?_
  rintro e w4 ⟨rfl, hop4⟩
  have HB4 : Hid (Below B w w4) := HB3.out.trans (hop4.below.mono (by rw [HBB.out]; exact HB3.out.size))
  have ho2 := open_any B (fun _ => False) 30 30 w4 B M2 (HD3.out.later hop4.below) (by omega) (by omega) (by omega) (fun i c _ hc => by rw [hbb i] at hc; cases hc)
  rw [open_empty hbb] at ho2
  have HOP4 := Lib.hid hop4
  clear ho1 hop4
  go_wp2_with fail
  refine ho2.mono ?_
  rintro e w5 ⟨rfl, hop5⟩
  have HB5 : Hid (Below B w w5) := HB4.out.trans (hop5.below.mono (by rw [HBB.out]; exact HB4.out.size))
  have HPR5 : Hid (Pair B (fun _ => False) w5 B M2 w3.heap.size 0 30 emptyS w4.heap.size 30 30 emptyS) := Pair.of_op HD3.out HOP4.out hop5
  clear ho2 hop5 HOP4 hba hbb hM1 hM2
  obtain ⟨pa, hpa⟩ : ∃ pa, pa = w3.heap.size := ⟨_, rfl⟩
  obtain ⟨pb, hpb⟩ : ∃ pb, pb = w4.heap.size := ⟨_, rfl⟩
  rw [← hpa, ← hpb] at HPR5
  rw [← hpa, ← hpb]
  clear hpa hpb
  -- the first record
  obtain ⟨W6, hW6⟩ : ∃ W6, W6 = w5.alloc (.cells #[.int .u8 5] 5) := ⟨_, rfl⟩
  have hb6 : Below w5.heap.size w5 W6 := by rw [hW6]; exact (Below.refl _ _).alloc (Nat.le_refl _) _
  have hn6 : W6.heap[w5.heap.size]? = some (.cells (bytesArr [5]) 5 (0, 0)) := by rw [hW6]; exact heap_new_at rfl _
  have hp6 := pair_block HPR5.out hb6
  have hap1 := hp6.step_a (f := 21) (args := #[.pointer (some ⟨pa, 0, none⟩), .slice (some ⟨w5.heap.size, 0, none⟩) 1 1]) (fun G hG hs =>
    append_ok B G (.slice (some ⟨w5.heap.size, 0, none⟩) 1 1) [5] W6 pa B 0 30 M2 emptyS hs (bytes_block hn6) (fun g hg => Or.inl (hG g (by
      have : w5.heap.size = g := Option.some.inj hg
      have := lt_of_heap hn6
      omega))) rfl rfl (by simp) (by simp) (by simp [emptyS]) (by omega) (by simp [emptyS]) (by simp [emptyS]) (by omega) (by simp [emptyS]) (by omega) (by omega)
      (by rw [(lp_first HLS.out).1]))
  rw [(lp_first HLS.out).1] at hap1
  have hap2 : Calls Try.prog 21 #[.pointer (some ⟨pa, 0, none⟩), .slice (some ⟨w5.heap.size, 0, none⟩) 1 1] W6 (StepP B (fun x => w5.heap.size ≤ x ∧ x < W6.heap.size) W6 B (.tuple #[.int .i64 0, .nilIface]) (putsAdd M2 0 emptyS [5]) pa 0 30 (emptyS.add [5]) pb 30 30 emptyS) := hap1
  have HLP7 : Hid (lp.LP (putsAdd M2 0 emptyS [5]) (emptyS.add [5]) emptyS 0) := (lp_first HLS.out).2
  have HW6 := Lib.hid hW6
  have HB6 : Hid (Below B w W6) := HB5.out.trans (hb6.mono (by rw [HBB.out]; exact HB5.out.size))
  clear hW6 hb6 hn6 hp6 hap1 HPR5 hf2 hl2 hs2 hc2 hf1 hl1 hs1 hc1 hfree hlen0 hst0 hsi0
  go_wp2_with fail
  rw [← HW6.out]
  refine hap2.mono ?_
  rintro e w7 ⟨rfl, hs7, hp7⟩
  have HB7 : Hid (Below B w w7) := HB6.out.trans hs7.below
  have HP7 : Hid (Pair B (fun _ => False) w7 B (putsAdd M2 0 emptyS [5]) pa 0 30 (emptyS.add [5]) pb 30 30 emptyS) := hp7.less (fun x hx => hx.elim)
  clear hap2 hs7 hp7
  go_upto_block 0 with (fail)
  obtain ⟨M7, hM7⟩ : ∃ M7, M7 = putsAdd M2 0 emptyS [5] := ⟨_, rfl⟩
  obtain ⟨A7, hA7⟩ : ∃ A7, A7 = emptyS.add [5] := ⟨_, rfl⟩
  have hA7r : A7.recs.length = 1 := by rw [hA7]; rfl
  obtain ⟨B7, hB7⟩ : ∃ B7, B7 = emptyS := ⟨_, rfl⟩
  have hB7r : B7.recs.length = 0 := by rw [hB7]; rfl
  rw [← hM7, ← hA7, ← hB7] at HP7 HLP7
  clear hM7 hA7 hB7
  go_cut [15, 16] (fun x y wx => ∃ (i : Nat) (La Lb : LogS) (M' : DiskM), i ≤ 12 ∧ x = .int .i64 (La.recs.length : Int) ∧ y = .int .i64 (Lb.recs.length : Int) ∧ Hid (Below B w wx) ∧ Hid (Pair B (fun _ => False) wx B M' pa 0 30 La pb 30 30 Lb) ∧ Hid (lp.LP M' La Lb i))
  case first =>
    go_wp2_with fail
    go_loopw [15, 16, 17] (fun x y z wr => ∃ (i : Nat) (La Lb : LogS) (M' : DiskM), i ≤ xs.length ∧ i ≤ 12 ∧ z = .int .i64 (i : Int) ∧ x = .int .i64 (La.recs.length : Int) ∧ y = .int .i64 (Lb.recs.length : Int) ∧ Hid (La.recs.length ≤ 1 + i) ∧ Hid (Lb.recs.length ≤ i) ∧ Hid (Below B w wr) ∧ Hid (Pair B (fun _ => False) wr B M' pa 0 30 La pb 30 30 Lb) ∧ Hid (lp.LP M' La Lb i)) (fun _ _ z _ => 12 - (intOf z).toNat)
    case atStart => exact ⟨0, A7, B7, M7, Nat.zero_le _, by omega, rfl, by rw [hA7r]; rfl, by rw [hB7r]; rfl, by show _ ≤ _; omega, by show _ ≤ _; omega, HB7.out, HP7.out, HLP7.out⟩
    case round =>
      obtain ⟨i, La, Lb, M', hi1, hi2, rfl, rfl, rfl, HRA, HRB, HBW, HPW, HLW⟩ := hrel
      clear HB7 HP7 HLP7 hA7r hB7r
      obtain ⟨ra, hra⟩ : ∃ ra, ra = La.recs.length := ⟨_, rfl⟩
      obtain ⟨rb, hrb⟩ : ∃ rb, rb = Lb.recs.length := ⟨_, rfl⟩
      by_cases hlt : i < xs.length
      · by_cases h12 : i < 12
        · obtain ⟨b, off, hao, hcell⟩ := HZ.out.resolve_left (fun e => by rw [e] at hlt; simp at hlt)
          subst hao
          obtain ⟨z, hzz⟩ : ∃ z, z = xs.getD i 0 := ⟨_, rfl⟩
          have hzb := HL.out z (by rw [hzz, List.getD_eq_getElem?_getD, List.getElem?_eq_getElem hlt]; exact List.getElem_mem _)
          have hcz : wr.cell? ⟨b, off + i, none⟩ = some (.int .i64 z) := by
            have h5 := hcell i hlt
            rw [← hzz] at h5
            have hbl : b < w.heap.size := by
              rcases Nat.lt_or_ge b w.heap.size with h6 | h6
              · exact h6
              · unfold World.cell? at h5
                rw [Array.getElem?_eq_none h6] at h5
                cases h5
            rw [← h5]
            exact HBW.out.cell (p := ⟨b, off + i, none⟩) (by rw [HBB.out]; exact hbl)
          clear hzz hcell
          have hd1 : decide ((i : Int) < (xs.length : Int)) = true := decide_eq_true (by omega)
          have hd2 : decide ((i : Int) < 12) = true := decide_eq_true (by omega)
          have hi64 : (i : Int) < (xs.length : Int) := by omega
          obtain ⟨k, hk89, hkk⟩ : ∃ k : Nat, k ≤ 89 ∧ (z.tmod 90 = (k : Int) ∨ (1 ≤ k ∧ z.tmod 90 = -(k : Int))) := by
            refine ⟨lpK z, lpK_lt z, ?_⟩
            unfold lpK
            omega
          have hmk : ∀ W : World, (Instr.makeSlice 23 (.int .i64 ((k : Int) + 1)) (.int .i64 ((k : Int) + 1))).run Try.prog W = .ok (.slice (some ⟨W.heap.size, 0, none⟩) (k + 1) (k + 1)) (W.alloc (.cells (bytesArr (List.replicate (k + 1) 0)) 5)) := fun W => make_bytes (k + 1) (by omega) W
          obtain ⟨g, hg⟩ : ∃ g, g = wr.heap.size := ⟨_, rfl⟩
          obtain ⟨W8, hW8⟩ : ∃ W8, W8 = wr.alloc (.cells (bytesArr (List.replicate (k + 1) 0)) 5) := ⟨_, rfl⟩
          have hh8 : W8.heap[g]? = some (.cells (bytesArr (List.replicate (k + 1) 0)) 5 (0, 0)) := by rw [hW8, hg]; exact heap_new_at rfl _
          have hc8 : (wr.alloc (.cells (bytesArr (List.replicate (k + 1) 0)) 5)).cell? ⟨wr.heap.size, 0, none⟩ = some (.int .u8 0) := by
            rw [← hW8, ← hg, cell_of_heap hh8]
            simp [bytesArr, List.replicate_succ, byteV]
          have hf8 : (wr.alloc (.cells (bytesArr (List.replicate (k + 1) 0)) 5)).frozen? ⟨wr.heap.size, 0, none⟩ = false := by rw [← hW8, ← hg]; exact free_of_heap hh8 0
          obtain ⟨W9, hW9⟩ : ∃ W9, W9 = wr.alloc (.cells ((bytesArr (List.replicate (k + 1) 0)).setIfInBounds 0 (.int .u8 (i : Int))) 5) := ⟨_, rfl⟩
          have hbv : (.int .u8 (i : Int) : Value) = byteV (UInt8.ofNat i) := by simp only [byteV, UInt8.toNat_ofNat']; congr 1; omega
          have hh9 : W9.heap[g]? = some (.cells (bytesArr (lpB i k)) 5 (0, 0)) := by rw [hW9, hg, hbv, set_bytes]; exact heap_new_at rfl _
          have hb9 : Below wr.heap.size wr W9 := by rw [hW9]; exact (Below.refl _ _).alloc (Nat.le_refl _) _
          have hBy : BytesW W9 (.slice (some ⟨g, 0, none⟩) (k + 1) (k + 1)) (lpB i k) := by
            have := bytes_block hh9
            rwa [lpB_len] at this
          have hp9 := pair_block HPW.out hb9
          have hgl : wr.heap.size ≤ g ∧ g < W9.heap.size := ⟨by omega, lt_of_heap hh9⟩
          have hl := lpB_len i k
          have hLP := HLW.out
          have hoka := hLP.oka
          have hokb := hLP.okb
          have hla := hLP.la
          have hlb := hLP.lb
          have hlen' := hLP.len
          have hst' := hLP.steps
          have hsi' := hLP.since
          have hra' := HRA.out
          have hrb' := HRB.out
          have hpa := putsR_ok (fr := 0) (mn := 30) (b := lpB i k) hLP.free hoka (by omega) (by omega)
          have hpb := putsR_ok (fr := 30) (mn := 30) (b := lpB i k) hLP.free hokb (by omega) (by omega)
          have HCA : Hid (Calls Try.prog 21 #[.pointer (some ⟨pa, 0, none⟩), .slice (some ⟨g, 0, none⟩) (k + 1) (k + 1)] W9 (StepP B (fun x => wr.heap.size ≤ x ∧ x < W9.heap.size) W9 B (.tuple #[.int .i64 La.recs.length, .nilIface]) (putsAdd M' 0 La (lpB i k)) pa 0 30 (La.add (lpB i k)) pb 30 30 Lb)) := by
            have := hp9.step_a (f := 21) (args := #[.pointer (some ⟨pa, 0, none⟩), .slice (some ⟨g, 0, none⟩) (k + 1) (k + 1)]) (fun G hG hs =>
              append_ok B G _ (lpB i k) W9 pa B 0 30 M' La hs hBy (fun g' hg' => Or.inl (hG g' (by have : g = g' := Option.some.inj hg'; omega))) hoka.broken hoka.bare (by omega) (by omega) (by omega) (by omega) hoka.safe (by rw [hLP.ea]; omega) (by omega) (by omega) (by omega) (by omega) (by rw [hpa]))
            rwa [hpa] at this
          have HCB : Hid (Calls Try.prog 21 #[.pointer (some ⟨pb, 0, none⟩), .slice (some ⟨g, 0, none⟩) (k + 1) (k + 1)] W9 (StepP B (fun x => wr.heap.size ≤ x ∧ x < W9.heap.size) W9 B (.tuple #[.int .i64 Lb.recs.length, .nilIface]) (putsAdd M' 30 Lb (lpB i k)) pa 0 30 La pb 30 30 (Lb.add (lpB i k)))) := by
            have := hp9.step_b (f := 21) (args := #[.pointer (some ⟨pb, 0, none⟩), .slice (some ⟨g, 0, none⟩) (k + 1) (k + 1)]) (fun G hG hs =>
              append_ok B G _ (lpB i k) W9 pb B 30 30 M' Lb hs hBy (fun g' hg' => Or.inl (hG g' (by have : g = g' := Option.some.inj hg'; omega))) hokb.broken hokb.bare (by omega) (by omega) (by omega) (by omega) hokb.safe (by rw [hLP.eb]; omega) (by omega) (by omega) (by omega) (by omega) (by rw [hpb]))
            rwa [hpb] at this
          have HNA : Hid (lp.LP (putsAdd M' 0 La (lpB i k)) (La.add (lpB i k)) Lb (i + 1)) := hLP.addA h12 (by omega) (by omega)
          have HNB : Hid (lp.LP (putsAdd M' 30 Lb (lpB i k)) La (Lb.add (lpB i k)) (i + 1)) := hLP.addB h12 (by omega) (by omega)
          have hla1 : (La.add (lpB i k)).recs.length = La.recs.length + 1 := by show (La.recs ++ [_]).length = _; simp
          have hlb1 : (Lb.add (lpB i k)).recs.length = Lb.recs.length + 1 := by show (Lb.recs ++ [_]).length = _; simp
          have HLA1 := Lib.hid hla1
          have HLB1 := Lib.hid hlb1
          have HB9 : Hid (Below B w W9) := HBW.out.trans (hb9.mono (by rw [HBB.out]; exact HBW.out.size))
          have HW9 := Lib.hid hW9
          have HG := Lib.hid hg
          rw [← hra]
          rw [← hrb]
          clear hW8 hh8 hW9 hbv hh9 hb9 hBy hp9 hgl hl hLP hoka hokb hla hlb hlen' hst' hsi' hpa hpb hla1 hlb1 hg HLW HPW HZ
          rw [← hra] at hra'
          rw [← hrb] at hrb'
          rw [← hra] at HLA1 HCA
          rw [← hrb] at HLB1 HCB
          have HRA0 := Lib.hid hra
          have HRB0 := Lib.hid hrb
          clear hra hrb
          by_cases hturn : (i : Int) % 3 = turn
          · have hdt : ((i : Int) % 3 == turn) = true := by simp [hturn]
            rcases hkk with hkk | ⟨hk1, hkk⟩
            all_goals
              go_wp2_with fail
              rw [← HW9.out, ← HG.out]
              refine HCA.out.mono ?_
              rintro e w10 ⟨rfl, hs10, hp10⟩
              have HB10 : Hid (Below B w w10) := HB9.out.trans hs10.below
              have HP10 : Hid (Pair B (fun _ => False) w10 B (putsAdd M' 0 La (lpB i k)) pa 0 30 (La.add (lpB i k)) pb 30 30 Lb) := hp10.less (fun x hx => hx.elim)
              clear hs10 hp10 hc8 hf8 hmk hcz
              go_wp2_with fail
              go_roundw
              case rel => exact ⟨i + 1, La.add (lpB i k), Lb, putsAdd M' 0 La (lpB i k), by omega, by omega, by go_num, by rw [HLA1.out]; go_num, by rw [HRB0.out], by show (La.add (lpB i k)).recs.length ≤ _; rw [HLA1.out]; omega, by show Lb.recs.length ≤ _; have := HRB.out; omega, HB10, HP10, HNA⟩
              case measure => simp [intOf]; omega
          · have hdt : ((i : Int) % 3 == turn) = false := by simp [hturn]
            rcases hkk with hkk | ⟨hk1, hkk⟩
            all_goals
              go_wp2_with fail
              rw [← HW9.out, ← HG.out]
              refine HCB.out.mono ?_
              rintro e w10 ⟨rfl, hs10, hp10⟩
              have HB10 : Hid (Below B w w10) := HB9.out.trans hs10.below
              have HP10 : Hid (Pair B (fun _ => False) w10 B (putsAdd M' 30 Lb (lpB i k)) pa 0 30 La pb 30 30 (Lb.add (lpB i k))) := hp10.less (fun x hx => hx.elim)
              clear hs10 hp10 hc8 hf8 hmk hcz
              go_wp2_with fail
              go_roundw
              case rel => exact ⟨i + 1, La, Lb.add (lpB i k), putsAdd M' 30 Lb (lpB i k), by omega, by omega, by go_num, by rw [HRA0.out], by rw [HLB1.out]; go_num, by show La.recs.length ≤ _; have := HRA.out; omega, by show (Lb.add (lpB i k)).recs.length ≤ _; rw [HLB1.out]; omega, HB10, HP10, HNB⟩
              case measure => simp [intOf]; omega
        · have HF : Hid (Below B w wr) := HBW
          go_wp2_with fail
          go_meet
          exact ⟨i, La, Lb, M', hi2, rfl, rfl, HBW, HPW, HLW⟩
      · go_wp2_with fail
        go_meet
        exact ⟨i, La, Lb, M', hi2, rfl, rfl, HBW, HPW, HLW⟩
  case rest =>
    obtain ⟨i, La, Lb, M', hi, rfl, rfl, HBW, HPW, HLW⟩ := hcut
    obtain ⟨w8, hw8⟩ : ∃ w8 : World, w8 = wc := ⟨_, rfl⟩
    subst hw8
    have hLP := HLW.out
    have hfree := hLP.free
    have hst := hLP.steps
    have hla := hLP.la
    have hlb := hLP.lb
    have hsy1 := HPW.out.step_a (f := 22) (args := #[.pointer (some ⟨pa, 0, none⟩)]) (r := .nilIface) (M' := M'.flush) (La' := La.sync) (fun G hG hs =>
      (sync_any B G w8 pa B 0 30 M' La hs hLP.oka.broken (by omega) hLP.oka.safe (by omega)).mono (fun e w' h => by
        obtain ⟨g1, g2, g3, _⟩ := h
        have g3 := g3 hfree.fcode
        rw [hfree.fcode, errV_zero] at g1
        rw [hfree.fl] at g3
        exact ⟨g1, g2, g3⟩))
    have hfree2 : Free M'.flush := hfree
    have hst2 : M'.flush.steps = M'.steps + 1 := rfl
    have HLP := Lib.hid hLP
    clear HB7 HP7 HLP7 hLP HPW
    go_wp2_with fail
    refine hsy1.mono ?_
    rintro e w9 ⟨rfl, hs9, hp9⟩
    have HB9 : Hid (Below B w w9) := HBW.out.trans hs9.below
    have hsy2 := hp9.step_b (f := 22) (args := #[.pointer (some ⟨pb, 0, none⟩)]) (r := .nilIface) (M' := M'.flush.flush) (Lb' := Lb.sync) (fun G hG hs =>
      (sync_any B G w9 pb B 30 30 M'.flush Lb hs HLP.out.okb.broken (by omega) HLP.out.okb.safe (by omega)).mono (fun e w' h => by
        obtain ⟨g1, g2, g3, _⟩ := h
        have g3 := g3 hfree2.fcode
        rw [hfree2.fcode, errV_zero] at g1
        rw [hfree2.fl] at g3
        exact ⟨g1, g2, g3⟩))
    clear hsy1 hs9 hp9
    go_wp2_with fail
    refine hsy2.mono ?_
    rintro e w10 ⟨rfl, hs10, hp10⟩
    have HB10 : Hid (Below B w w10) := HB9.out.trans hs10.below
    have HP10 := Lib.hid hp10
    have hln : M'.flush.flush.now.length = 60 := HLP.out.len
    have hokA : LogOk M'.flush.flush.now 0 30 La.sync := ok_sync HLP.out.oka
    have hokB : LogOk M'.flush.flush.now 30 30 Lb.sync := ok_sync HLP.out.okb
    have ho1 := open_any B (fun _ => False) 0 30 w10 B M'.flush.flush hp10.diskF (by omega) (by omega) (by omega) (fun i c hi hc => hokA.cons.turn i c hi hc)
    clear hsy2 hs10 hp10
    go_wp2_with fail
    refine ho1.mono ?_
    rintro e w11 ⟨rfl, hop11⟩
    have HB11 : Hid (Below B w w11) := HB10.out.trans (hop11.below.mono (by rw [HBB.out]; exact HB10.out.size))
    have HP11 := Lib.hid (HP10.out.later hop11.below)
    have HO11 := Lib.hid hop11
    have ho2 := open_any B (fun _ => False) 30 30 w11 B M'.flush.flush HP11.out.diskF (by omega) (by omega) (by omega) (fun i c hi hc => hokB.cons.turn i c hi hc)
    clear ho1 hop11
    go_wp2_with fail
    refine ho2.mono ?_
    rintro e w12 ⟨rfl, hop12⟩
    have HB12 : Hid (Below B w w12) := HB11.out.trans (hop12.below.mono (by rw [HBB.out]; exact HB11.out.size))
    have hpair := HP11.out.later hop12.below
    have hopened := HLP.out.opened
    have sp := (HO11.out.later hop12.below).size'
    have sq := hop12.size'
    rw [show (openS (blkOf M'.flush.flush.now 0 30) 30).recs = La.recs from hopened.1] at sp
    rw [show (openS (blkOf M'.flush.flush.now 30 30) 30).recs = Lb.recs from hopened.2] at sq
    obtain ⟨⟨T, hTa⟩, ⟨U, hUb⟩⟩ := hpair.at
    have sa : SizeL w12 pa 30 La.sync.stream.length La.recs.length := hTa.size
    have sb : SizeL w12 pb 30 Lb.sync.stream.length Lb.recs.length := hUb.size
    have q1 := len_any w12 _ _ _ _ sp
    have q2 := len_any w12 _ _ _ _ sq
    have q3 := len_any w12 _ _ _ _ sa
    have q4 := len_any w12 _ _ _ _ sb
    clear ho2 hop12 hpair hopened sp sq sa sb hTa hUb hokA hokB hla hlb hst hst2 hfree hfree2 hln
    go_wp2_with fail
    refine q1.mono ?_
    rintro e w13 ⟨rfl, rfl⟩
    go_wp2_with fail
    refine q2.mono ?_
    rintro e w14 ⟨rfl, rfl⟩
    go_wp2_with fail
    refine q3.mono ?_
    rintro e w15 ⟨rfl, rfl⟩
    go_wp2_with fail
    refine q4.mono ?_
    rintro e w16 ⟨rfl, rfl⟩
    clear q1 q2 q3 q4
    go_wp2_with fail
    go_ret
    exact ⟨rfl, HBB.out ▸ HB12.out⟩
end Go.Proofs.Ytldpflijgbcbhaa.lg
