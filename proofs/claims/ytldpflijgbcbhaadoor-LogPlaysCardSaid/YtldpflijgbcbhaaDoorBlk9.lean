/- Crash of a disk: the walk. -/
import Derived.Test.YtldpflijgbcbhaaDoorBlk8
namespace Go.Proofs.YtldpflijgbcbhaaDoor
open Go.RowKit

theorem RowIs.below {w w' : World} {S : Nat → Prop} {d b c : Nat} {l : List (Option (List UInt8))} {ns : List Value} (h : RowIs w S d b c l ns) (hS : ∀ k, S k → k < w.heap.size) (hb : Below w.heap.size w w') : RowIs w' S d b c l ns :=
  h.later (fun k hk _ => hb.block k (hS k hk)) (fun _ h => h)

set_option maxRecDepth 100000 in
set_option maxHeartbeats 4000000 in
theorem crash_any (ao : Option Addr) (kcap : Nat) (keep : List Int) (torn : Int) (w : World) (S : Nat → Prop) (d : Nat) (M : DiskM) (h : DiskAt w S d M) (hz : IntsAt w ao keep) (hkl : keep.length ≤ 9223372036854775807) (hsn : M.since.length ≤ 1000000000) :
    Calls Tryd.prog 24 #[.pointer (some ⟨d, 0, none⟩), .slice ao keep.length kcap, .int .i64 torn] w fun e w' => e = .returned (.tuple #[]) ∧ Only S w w' ∧ DiskAt w' (Grow S w w') d (M.crash keep torn) := by
  have HD := Lib.hid h
  obtain ⟨bn, cn, bs, cs, sv, ns, ss, xs, h⟩ := h
  have how : Own w d _ _ _ _ _ := ⟨h.self⟩
  have c1 := how.c1
  have hpos := h.pos
  have hle := h.le
  have hslen := h.slen
  rw [hslen] at c1
  have hcl := clone_rows bs cs M.now.length ss w (by have := h.safe.own; rw [hslen] at this; exact this) hpos (by omega) h.safe.one
  obtain ⟨sa, sc, hsv, hsa⟩ : ∃ sa sc, sv = .slice sa M.since.length sc ∧ (0 < M.since.length → ∃ b, sa = some ⟨b, 0, none⟩) := by
    obtain ⟨_, h2⟩ := h.since.own
    rcases h2 with ⟨h2, h3⟩ | ⟨b, c, cur, h2, _⟩
    · exact ⟨none, 0, by rw [h2, h3], fun h => by omega⟩
    · exact ⟨_, _, h2, fun _ => ⟨b, rfl⟩⟩
  subst hsv
  have H := Lib.hid h
  have HSA := Lib.hid hsa
  have HZ := Lib.hid hz
  have HSL := Lib.hid hslen
  clear h hsa hz hslen
  go_enter Tryd.func24, Tryd.ntmps24
  go_wp2_with fail
  refine hcl.mono ?_
  rintro e w1 ⟨bl, cl, rfl, hnew, hrow1, hb1⟩
  have c2 := (how.later hb1).c2
  have hrel0 : CrashRel w S d M.now.length bl cl M.safe ss w1 := ⟨hrow1, fun i m hm => by
      obtain ⟨x, hx, hx2⟩ := H.out.safe.blk i m hm
      exact ⟨x, hx, hx2.later (fun g _ hg _ => hb1.block g (H.out.dom g hg.1)) (fun _ h => h)⟩, hb1, hnew, by
      obtain ⟨g', c', hv, _, hlt, _⟩ := ownsRow_some hrow1 hpos
      injection hv with hv _ _
      injection hv with hv
      injection hv with hv _ _
      rw [hv]; exact hlt⟩
  clear hcl hrow1 hb1 c1
  go_wp2_with fail
  go_loopw [19] (fun i wr => ∃ (k : Nat) (ls : List Value), k ≤ M.since.length ∧ i = .int .i64 k ∧ CrashRel w S d M.now.length bl cl (crashTo M.since keep torn M.safe k) ls wr) (fun i _ => M.since.length - (intOf i).toNat)
  case atStart => exact ⟨0, ss, Nat.zero_le _, rfl, hrel0⟩
  case round =>
    clear hrel0 c2
    obtain ⟨k, ls, hk, rfl, hR⟩ := hrel
    have hS := Lib.hid H.out.dom
    by_cases hlt : k < M.since.length
    · obtain ⟨bv, rfl⟩ := HSA.out (by omega)
      obtain ⟨⟨at_, by_⟩, hp⟩ : ∃ p, M.since[k]? = some p := ⟨M.since[k], by simp [hlt]⟩
      have hsi := H.out.since.later (w' := wr) (fun j hj _ => hR.below.block j (H.out.dom j hj)) (S' := S) (fun _ h => h)
      obtain ⟨hat, hx1, x, hx2, hblk⟩ := hsi.blk k _ hp
      have e1 := hsi.own.cellAt (k * 2) (by omega)
      have e2 := hsi.own.cellAt (k * 2 + 1) (by omega)
      rw [Nat.mul_comm k 2, hx1] at e1
      rw [Nat.mul_comm k 2, hx2] at e2
      rw [Nat.mul_comm 2 k] at e1 e2
      have hlen := crashTo_len M.since keep torn M.safe k
      rw [HSL.out] at hlen
      obtain ⟨hl64, gx, rfl, _⟩ := hblk
      have hblk : BlkAt wr (fun k => S k ∧ k ≠ d) (.slice (some ⟨gx, 0, none⟩) 64 64) (some by_) := by
        obtain ⟨_, _, x', hx', hb'⟩ := hsi.blk k _ hp
        rw [hx2] at hx'
        injection hx' with hx'
        rw [hx']; exact hb'
      dsimp only at hat e1
      have hR2 := hR.later hS.out ((Below.refl _ _).alloc (Nat.le_refl _) (.cells #[.int .i64 (at_ : Int), .slice (some ⟨gx, 0, none⟩) 64 64] 123))
      have hcon := contains_ints ao kcap keep (k : Int) (wr.alloc (.cells #[.int .i64 (at_ : Int), .slice (some ⟨gx, 0, none⟩) 64 64] 123)) (HZ.out.laterN hR2.below) hkl
      have hblk2 := hblk.later (w' := wr.alloc (.cells #[.int .i64 (at_ : Int), .slice (some ⟨gx, 0, none⟩) 64 64] 123)) (S' := fun k => S k ∧ k ≠ d) (fun g _ hg _ => Below.heap_alloc _ _ _ (Nat.lt_of_lt_of_le (hS.out g hg.1) hR.below.size)) (fun _ h => h)
      by_cases hmem : memB keep (k : Int) = true
      · rw [hmem] at hcon
        have hR3 := hR.set hS.out hlen hblk hat
        obtain ⟨⟨y, hy⟩, hfr⟩ := hR.at hat
        have hblt := hR.lt
        have hi0 : (at_ : Int) < (M.now.length : Int) := by omega
        have hyes := crashTo_yes (torn := torn) (l0 := M.safe) hp hmem
        by_cases hq : (k : Int) = torn
        · have hqb : ((k : Int) == torn) = true := beq_iff_eq.2 hq
          have hR4 := (hR3.set hS.out (by rw [List.length_set]; exact hlen) (x := .slice none 0 0) (m := none) rfl hat).later hS.out ((Below.refl _ _).alloc (Nat.le_refl _) (.cells #[.int .i64 (at_ : Int), .slice (some ⟨gx, 0, none⟩) 64 64] 123))
          rw [if_pos hq] at hyes
          rw [List.set_set, ← hyes] at hR4
          clear hsi hp hx1 hx2 hblk hlen hl64 hR hR2 hblk2 hR3 hyes hmem hq
          go_wp2_with fail
          refine hcon.mono ?_
          rintro e w2 ⟨rfl, rfl⟩
          go_wp2_with fail
          go_roundw
          case rel => exact ⟨k + 1, _, by omega, by go_num, hR4⟩
          case measure => simp [intOf]; omega
        · have hqb : ((k : Int) == torn) = false := beq_eq_false_iff_ne.2 hq
          have hR4 := hR3.later hS.out ((Below.refl _ _).alloc (Nat.le_refl _) (.cells #[.int .i64 (at_ : Int), .slice (some ⟨gx, 0, none⟩) 64 64] 123))
          rw [if_neg hq] at hyes
          rw [← hyes] at hR4
          clear hsi hp hx1 hx2 hblk hlen hl64 hR hR2 hblk2 hR3 hyes hmem hq
          go_wp2_with fail
          refine hcon.mono ?_
          rintro e w2 ⟨rfl, rfl⟩
          go_wp2_with fail
          go_roundw
          case rel => exact ⟨k + 1, _, by omega, by go_num, hR4⟩
          case measure => simp [intOf]; omega
      · have hmem' : memB keep (k : Int) = false := by simpa using hmem
        rw [hmem'] at hcon
        have hno := crashTo_no (torn := torn) (l0 := M.safe) hp hmem'
        rw [← hno] at hR2
        clear hsi hp hx1 hx2 hblk hlen hl64 hR hblk2 hno hmem hmem'
        go_wp2_with fail
        refine hcon.mono ?_
        rintro e w2 ⟨rfl, rfl⟩
        go_wp2_with fail
        go_roundw
        case rel => exact ⟨k + 1, _, by omega, by go_num, hR2⟩
        case measure => simp [intOf]; omega
    · have hke : k = M.since.length := by omega
      subst hke
      have hone : ∀ v ∈ ls, v.oneCell' = true := by
        intro v hv
        obtain ⟨i, hi, rfl⟩ := List.getElem_of_mem hv
        have hl := hR.row.1
        have hcl := crashTo_len M.since keep torn M.safe M.since.length
        rw [HSL.out] at hcl
        obtain ⟨x, hx, hx2⟩ := hR.blk i ((crashTo M.since keep torn M.safe M.since.length)[i]'(by omega)) (by simp)
        rw [List.getElem?_eq_getElem hi] at hx
        injection hx with hx
        rw [hx]
        cases hm : (crashTo M.since keep torn M.safe M.since.length)[i]'(by omega) with
        | none => rw [hm] at hx2; rw [show x = .slice none 0 0 from hx2]; rfl
        | some m => rw [hm] at hx2; obtain ⟨_, g, hx3, _⟩ := hx2; rw [hx3]; rfl
      have hcl2 := clone_rows bl cl M.now.length ls wr hR.row hpos (by omega) hone
      have how2 := (how.later hR.below)
      have HR := Lib.hid hR
      clear hR hone
      go_wp2_with fail
      refine hcl2.mono ?_
      rintro e w3 ⟨g, cap', rfl, hg, hown3, hb3⟩
      obtain ⟨ho5, hon, hfin⟩ := crash_end HD.out HR.out hb3 hg hown3
      have ho3 := how2.later hb3
      have d0 := ho3.c0
      have d1 := ho3.c1
      have d2 := ho3.c2
      have d3 := ho3.c3
      have d4 := ho3.c4
      have f0 := ho3.free 0
      have f1 := ho3.free 1
      have f2 := ho3.free 2
      have f3 := ho3.free 3
      have f4 := ho3.free 4
      clear hcl2 ho3 hown3 hb3 ho5 how2
      go_wp2_with fail
      go_end0
      exact ⟨rfl, hon, hfin⟩
end Go.Proofs.YtldpflijgbcbhaaDoor
