/- The document's disk: Crash. -/
import Derived.Test.YtldpflijgbcbhaaDoorKb
import Derived.Maps.AppendAt
import Derived.StillTailTactics
namespace Go.Proofs.YtldpflijgbcbhaaDoor.kk
open Go.RowKit

theorem memI_take_succ {zs : List Int} {j : Nat} (hj : j < zs.length) (o : Int) : memB (zs.take (j + 1)) o = (memB (zs.take j) o || (zs.getD j 0 == o)) := by
  unfold memB
  rw [List.take_succ_eq_append_getElem hj, Bool.eq_iff_iff]
  simp only [List.contains_eq_mem, List.mem_append, List.mem_singleton, Bool.or_eq_true, decide_eq_true_eq, beq_iff_eq]
  have e : zs.getD j 0 = zs[j] := by simp [hj]
  rw [e]
  exact or_congr Iff.rfl eq_comm

/-- the disk behind a crash -/
theorem kcrash_end {w wr w3 : World} {S : Nat → Prop} {d bn cn bs cs bl cl : Nat} {M : DiskM} {keep : List Int} {torn : Int} {sv v3 : Value} {ns ss xs ls : List Value} (hi : DiskIs w S d M bn cn bs cs sv ns ss xs)
    (h : CrashRel w S d M.now.length bl cl (crashTo M.since keep torn M.safe M.since.length) ls wr) (ho : Own wr d (.slice (some ⟨bn, 0, none⟩) M.now.length cn) (.slice (some ⟨bs, 0, none⟩) M.safe.length cs) sv M.steps M.stop)
    (hown3 : w3.ownsRow ((wr.setCell ⟨d, 0, none⟩ (.slice (some ⟨bl, 0, none⟩) M.now.length cl)).setCell ⟨d, 1, none⟩ (.slice none 0 0)).heap.size 22 1 v3 M.now.length ls)
    (hgrow : ((wr.setCell ⟨d, 0, none⟩ (.slice (some ⟨bl, 0, none⟩) M.now.length cl)).setCell ⟨d, 1, none⟩ (.slice none 0 0)).grownBy w3 (Value.slice none 0 0).ownBlock) :
    ∃ g cap, v3 = .slice (some ⟨g, 0, none⟩) M.now.length cap ∧ w3.cell? ⟨d, 1, none⟩ = some (.slice none 0 0) ∧ w3.frozen? ⟨d, 1, none⟩ = false ∧ w3.cell? ⟨d, 2, none⟩ = some sv ∧ w3.frozen? ⟨d, 2, none⟩ = false ∧ w3.cell? ⟨d, 3, none⟩ = some (.int .i64 M.steps) ∧ w3.frozen? ⟨d, 3, none⟩ = false ∧ w3.cell? ⟨d, 4, none⟩ = some (.int .i64 M.stop) ∧ w3.frozen? ⟨d, 4, none⟩ = false ∧
      Only S w ((((w3.setCell ⟨d, 1, none⟩ (.slice (some ⟨g, 0, none⟩) M.now.length cap)).setCell ⟨d, 2, none⟩ (.slice none 0 0)).setCell ⟨d, 3, none⟩ (.int .i64 0)).setCell ⟨d, 4, none⟩ (.int .i64 (-1))) ∧
      DiskAt ((((w3.setCell ⟨d, 1, none⟩ (.slice (some ⟨g, 0, none⟩) M.now.length cap)).setCell ⟨d, 2, none⟩ (.slice none 0 0)).setCell ⟨d, 3, none⟩ (.int .i64 0)).setCell ⟨d, 4, none⟩ (.int .i64 (-1))) (Grow S w ((((w3.setCell ⟨d, 1, none⟩ (.slice (some ⟨g, 0, none⟩) M.now.length cap)).setCell ⟨d, 2, none⟩ (.slice none 0 0)).setCell ⟨d, 3, none⟩ (.int .i64 0)).setCell ⟨d, 4, none⟩ (.int .i64 (-1)))) d (M.crash keep torn) := by
  have hdl := (⟨hi.self⟩ : Own w d _ _ _ _ _).lt
  have hnew := h.new
  have hblt := h.lt
  have ho2 := (ho.set0 (.slice (some ⟨bl, 0, none⟩) M.now.length cl)).set1 (.slice none 0 0)
  have hs2 : Only S wr ((wr.setCell ⟨d, 0, none⟩ (.slice (some ⟨bl, 0, none⟩) M.now.length cl)).setCell ⟨d, 1, none⟩ (.slice none 0 0)) := ((Only.refl S wr).setCell (p := ⟨d, 0, none⟩) hi.sd _).setCell (p := ⟨d, 1, none⟩) hi.sd _
  have hk2 : ∀ k, k ≠ d → ((wr.setCell ⟨d, 0, none⟩ (.slice (some ⟨bl, 0, none⟩) M.now.length cl)).setCell ⟨d, 1, none⟩ (.slice none 0 0)).heap[k]? = wr.heap[k]? := fun k hk => by rw [setCell_heap_ne hk, setCell_heap_ne hk]
  have hz2 : ((wr.setCell ⟨d, 0, none⟩ (.slice (some ⟨bl, 0, none⟩) M.now.length cl)).setCell ⟨d, 1, none⟩ (.slice none 0 0)).heap.size = wr.heap.size := by simp
  generalize (wr.setCell ⟨d, 0, none⟩ (.slice (some ⟨bl, 0, none⟩) M.now.length cl)).setCell ⟨d, 1, none⟩ (.slice none 0 0) = w2 at *
  have hb3 : Below w2.heap.size w2 w3 := (Below.refl _ w2).grown hgrow (Nat.le_refl _) (fun k hk => by simp [Value.ownBlock] at hk)
  obtain ⟨g, cap, rfl, hg, hglt, _⟩ := ownsRow_some hown3 hi.pos
  have ho3 := ho2.later hb3
  have hsz3 := hb3.size
  have hszr := h.below.size
  have how := (((ho3.set1 (.slice (some ⟨g, 0, none⟩) M.now.length cap)).set2 (.slice none 0 0)).set3 0).set4 (-1)
  have hon : Only S w ((((w3.setCell ⟨d, 1, none⟩ (.slice (some ⟨g, 0, none⟩) M.now.length cap)).setCell ⟨d, 2, none⟩ (.slice none 0 0)).setCell ⟨d, 3, none⟩ (.int .i64 0)).setCell ⟨d, 4, none⟩ (.int .i64 (-1))) :=
    (((((((Only.of_below (S := S) h.below).trans hs2 (fun _ _ h => h)).later hb3).setCell (p := ⟨d, 1, none⟩) hi.sd _).setCell (p := ⟨d, 2, none⟩) hi.sd _).setCell (p := ⟨d, 3, none⟩) hi.sd _).setCell (p := ⟨d, 4, none⟩) hi.sd _)
  refine ⟨g, cap, rfl, ho3.c1, ho3.free 1, ho3.c2, ho3.free 2, ho3.c3, ho3.free 3, ho3.c4, ho3.free 4, hon, ?_⟩
  have hkf : ∀ k, k ≠ d → ((((w3.setCell ⟨d, 1, none⟩ (.slice (some ⟨g, 0, none⟩) M.now.length cap)).setCell ⟨d, 2, none⟩ (.slice none 0 0)).setCell ⟨d, 3, none⟩ (.int .i64 0)).setCell ⟨d, 4, none⟩ (.int .i64 (-1))).heap[k]? = w3.heap[k]? := fun k hk => by
    rw [setCell_heap_ne hk, setCell_heap_ne hk, setCell_heap_ne hk, setCell_heap_ne hk]
  have hzf : ((((w3.setCell ⟨d, 1, none⟩ (.slice (some ⟨g, 0, none⟩) M.now.length cap)).setCell ⟨d, 2, none⟩ (.slice none 0 0)).setCell ⟨d, 3, none⟩ (.int .i64 0)).setCell ⟨d, 4, none⟩ (.int .i64 (-1))).heap.size = w3.heap.size := by simp
  generalize ((((w3.setCell ⟨d, 1, none⟩ (.slice (some ⟨g, 0, none⟩) M.now.length cap)).setCell ⟨d, 2, none⟩ (.slice none 0 0)).setCell ⟨d, 3, none⟩ (.int .i64 0)).setCell ⟨d, 4, none⟩ (.int .i64 (-1))) = wf at *
  have e1 : (M.crash keep torn).now.length = M.now.length := by simp [DiskM.crash, crashTo_len, hi.slen]
  refine disk_new (M' := M.crash keep torn) (ls := ls) hi hon how ?_ ?_ ⟨Or.inr ⟨hnew, by omega⟩, by omega⟩ ⟨Or.inr ⟨by omega, by omega⟩, by omega⟩ (by omega) ?_ e1 rfl rfl (by simp [DiskM.crash])
  · exact ownsRow_later h.row (fun k hk => by
      simp only [Value.ownBlock, Option.some.injEq] at hk
      subst hk
      rw [hkf _ (by omega), hb3.block _ (by omega), hk2 _ (by omega)])
  · exact ownsRow_later (ownsRow_base hown3 0 (Nat.zero_le _)) (fun k hk => by
      simp only [Value.ownBlock, Option.some.injEq] at hk
      subst hk
      exact hkf _ (by omega))
  · intro i m hm
    obtain ⟨x, hx, hx2⟩ := h.blk i m hm
    exact ⟨x, hx, hx2.later (fun k _ hk _ => by rw [hkf k hk.2, hb3.block k (by have := hi.dom k hk.1; omega), hk2 k hk.2]) (fun k hk => ⟨Or.inl hk.1, hk.2⟩)⟩

set_option maxRecDepth 100000 in
set_option maxHeartbeats 8000000 in
theorem kcrash_any (ao : Option Addr) (kcap : Nat) (keep : List Int) (torn : Int) (w : World) (S : Nat → Prop) (d : Nat) (M : DiskM) (h : DiskAt w S d M) (hz : IntsAt w ao keep) (hkl : keep.length ≤ 9223372036854775807) (hsn : M.since.length ≤ 1000000000) :
    Calls Tryd.prog 32 #[.pointer (some ⟨d, 0, none⟩), .slice ao keep.length kcap, .int .i64 torn] w fun e w' => e = .returned (.tuple #[]) ∧ Only S w w' ∧ DiskAt w' (Grow S w w') d (M.crash keep torn) := by
  have HD := Lib.hid h
  obtain ⟨bn, cn, bs, cs, sv, ns, ss, xs, h⟩ := h
  have how : Own w d _ _ _ _ _ := ⟨h.self⟩
  have c1 := how.c1
  have hpos := h.pos
  have hle := h.le
  have hslen := h.slen
  rw [hslen] at c1
  obtain ⟨sa, sc, hsv, hsa⟩ : ∃ sa sc, sv = .slice sa M.since.length sc ∧ (0 < M.since.length → ∃ b, sa = some ⟨b, 0, none⟩) := by
    obtain ⟨_, h2⟩ := h.since.own
    rcases h2 with ⟨h2, h3⟩ | ⟨b, c, cur, h2, _⟩
    · exact ⟨none, 0, by rw [h2, h3], fun h => by omega⟩
    · exact ⟨_, _, h2, fun _ => ⟨b, rfl⟩⟩
  subst hsv
  have hrow : w.ownsRow 0 22 1 (.slice (some ⟨bs, 0, none⟩) M.now.length cs) M.now.length ss := by have := h.safe.own; rw [hslen] at this; exact this
  have HL1 : Hid (ss.length = M.now.length * 1) := hrow.1
  have HONE := Lib.hid h.safe.one
  have HSRC : Hid (∀ (j : Nat) (u : Value), ss[j]? = some u → w.cell? (Addr.add ⟨bs, 0, none⟩ j) = some u) := by
    intro j u hj
    have hjl : j < M.now.length * 1 := by
      obtain ⟨hl, _⟩ := List.getElem?_eq_some_iff.1 hj
      have := HL1.out
      omega
    rw [addr_add, Nat.zero_add]
    exact (hrow.cellAt j hjl).trans hj
  have H := Lib.hid h
  have HOW := Lib.hid how
  have HSA := Lib.hid hsa
  have HZ := Lib.hid hz
  have HSL := Lib.hid hslen
  obtain ⟨i0, hi0, hz0, hz1, hz2⟩ := info_parts infoSl
  have HI0 := Lib.hid hi0
  have HZ0 := Lib.hid hz0
  have HZ1 := Lib.hid hz1
  have HZ2 := Lib.hid hz2
  clear h hsa hz hslen hrow how hi0 hz0 hz1 hz2
  go_enter Tryd.func32, Tryd.ntmps32
  go_wp2_with (refine wpList_append_own_at (o := ⟨some 15, _, _, _, _, _⟩) _ rfl (.tmp 10) (.tmp 14) 66 rfl w.heap.size 22 i0 (.slice none 0 0) 1 24 Tryd.underlying66 HI0.out HZ0.out HZ1.out HZ2.out rfl (by decide) (.slice none 0 0) 0 [] rfl (World.ownsRow_nil _ _ _ _) ⟨bs, 0, none⟩ M.now.length cs ss rfl HL1.out HSRC.out HONE.out (by unfold maxLen; omega) (by omega) (Nat.le_refl _) ?_)
  intro v1 w1 hown1 hgrow1 _ _
  have hb1 : Below w.heap.size w w1 := (Below.refl _ w).grown hgrow1 (Nat.le_refl _) (fun k hk => by simp [Value.ownBlock] at hk)
  obtain ⟨bl, cl, rfl, hnew, hblt, _⟩ := ownsRow_some hown1 hpos
  have c2 := (HOW.out.later hb1).c2
  have hrel0 : CrashRel w S d M.now.length bl cl M.safe ss w1 := ⟨ownsRow_base hown1 0 (Nat.zero_le _), fun i m hm => by
      obtain ⟨x, hx, hx2⟩ := H.out.safe.blk i m hm
      exact ⟨x, hx, hx2.later (fun g _ hg _ => hb1.block g (H.out.dom g hg.1)) (fun _ h => h)⟩, hb1, hnew, hblt⟩
  clear hown1 hgrow1 hb1 c1 c2 hblt
  go_wp2_with fail
  go_loopw [7] (fun i wr => ∃ (k : Nat) (ls : List Value), k ≤ M.since.length ∧ i = .int .i64 (k : Int) ∧ Hid (CrashRel w S d M.now.length bl cl (crashTo M.since keep torn M.safe k) ls wr)) (fun i _ => M.since.length - (intOf i).toNat)
  case atStart => exact ⟨0, ss, Nat.zero_le _, rfl, hrel0⟩
  case round =>
    clear hrel0
    obtain ⟨k, ls, hk, rfl, hR⟩ := hrel
    have hS := Lib.hid H.out.dom
    have d2 := (HOW.out.later hR.out.below).c2
    by_cases hlt : k < M.since.length
    · obtain ⟨bv, rfl⟩ := HSA.out (by omega)
      have hkI : (k : Int) < (M.since.length : Int) := by omega
      have hk0 : (0 : Int) ≤ (k : Int) := by omega
      go_wp2_with fail
      go_loopw [8, 9] (fun z j wr2 => ∃ m n : Nat, m ≤ keep.length ∧ j = .int .i64 (m : Int) ∧ z = .bool (memB (keep.take m) (k : Int)) ∧ wr2 = wr.drewN n) (fun _ j _ => keep.length - (intOf j).toNat)
      case atStart => exact ⟨0, 0, Nat.zero_le _, rfl, rfl, rfl⟩
      case round =>
        obtain ⟨m, n, hm, rfl, rfl, rfl⟩ := hrel
        by_cases hml : m < keep.length
        · obtain ⟨b, off, rfl, hc⟩ := HZ.out.resolve_left (fun e => by rw [e] at hml; simp at hml)
          have cm := (hR.out.below.cell (p := ⟨b, off + m, none⟩) (by
            have h0 := hc m hml
            rcases Nat.lt_or_ge b w.heap.size with h1 | h1
            · exact h1
            · simp [World.cell?, Array.getElem?_eq_none h1] at h0)).trans (hc m hml)
          have HMB := Lib.hid (memI_take_succ hml (k : Int))
          have hmI : (m : Int) < (keep.length : Int) := by omega
          have hm0 : (0 : Int) ≤ (m : Int) := by omega
          clear hc
          generalize keep.getD m 0 = sl at *
          cases hmb : memB (keep.take m) (k : Int) with
          | true =>
            have HN : Hid (memB (keep.take (m + 1)) (k : Int) = true) := by show _ = _; rw [HMB.out, hmb]; rfl
            clear hmb HMB
            go_wp2_with fail
            go_roundw
            case rel => exact ⟨m + 1, _, by omega, by go_num, by rw [HN.out], rfl⟩
            case measure => simp [intOf]; omega
          | false =>
            by_cases hso : sl = (k : Int)
            · have q1 : (sl == (k : Int)) = true := beq_iff_eq.2 hso
              have HN : Hid (memB (keep.take (m + 1)) (k : Int) = true) := by show _ = _; rw [HMB.out, q1]; simp
              clear hmb HMB hso
              go_wp2_with fail
              go_roundw
              case rel => exact ⟨m + 1, _, by omega, by go_num, by rw [HN.out], rfl⟩
              case measure => simp [intOf]; omega
            · have q1 : (sl == (k : Int)) = false := beq_eq_false_iff_ne.2 hso
              have HN : Hid (memB (keep.take (m + 1)) (k : Int) = false) := by show _ = _; rw [HMB.out, hmb, q1]; rfl
              clear hmb HMB hso
              go_wp2_with fail
              go_roundw
              case rel => exact ⟨m + 1, _, by omega, by go_num, by rw [HN.out], rfl⟩
              case measure => simp [intOf]; omega
        · have hmI : decide ((m : Int) < (keep.length : Int)) = false := decide_eq_false (by omega)
          have hmn : decide (m < keep.length) = false := decide_eq_false (by omega)
          have htk : keep.take m = keep := List.take_of_length_le (by omega)
          rw [htk]
          clear htk
          obtain ⟨⟨at_, by_⟩, hp⟩ : ∃ p, M.since[k]? = some p := ⟨M.since[k], by simp [hlt]⟩
          cases hmb : memB keep (k : Int) with
          | false =>
            have hno := crashTo_no (torn := torn) (l0 := M.safe) hp hmb
            have HR2 : Hid (CrashRel w S d M.now.length bl cl (crashTo M.since keep torn M.safe (k + 1)) ls (wr.drewN n)) := by
              show CrashRel _ _ _ _ _ _ _ _ _
              rw [hno]; exact hR.out.later hS.out (below_drewN (Below.refl _ _) n)
            clear hno hp hmb
            go_wp2_with fail
            go_roundw
            case rel => exact ⟨k + 1, ls, by omega, by go_num, HR2⟩
            case measure => simp [intOf]; omega
          | true =>
            have hyes := crashTo_yes (torn := torn) (l0 := M.safe) hp hmb
            have hRn := hR.out.later hS.out (below_drewN (Below.refl wr.heap.size wr) n)
            have ho := HOW.out.later hRn.below
            generalize hwn : wr.drewN n = wn at *
            have hsi := H.out.since.later (w' := wn) (fun j hj _ => hRn.below.block j (H.out.dom j hj)) (S' := S) (fun _ h => h)
            obtain ⟨hat, hx1, x, hx2, hblk⟩ := hsi.blk k _ hp
            have e1 := hsi.own.cellAt (k * 2) (by omega)
            have e2 := hsi.own.cellAt (k * 2 + 1) (by omega)
            rw [Nat.mul_comm k 2, hx1] at e1
            rw [Nat.mul_comm k 2, hx2] at e2
            rw [Nat.mul_comm 2 k] at e1 e2
            have hlen := crashTo_len M.since keep torn M.safe k
            rw [HSL.out] at hlen
            dsimp only at hat e1
            have HR3 := Lib.hid (hRn.set hS.out hlen hblk hat)
            obtain ⟨⟨y, hy⟩, hfr⟩ := hRn.at hat
            have hxs : ∃ gx, x = .slice (some ⟨gx, 0, none⟩) 64 64 := by obtain ⟨_, gx, hx, _⟩ := hblk; exact ⟨gx, hx⟩
            obtain ⟨gx, rfl⟩ := hxs
            have s2 := ho.c2
            have hi0 : (at_ : Int) < (M.now.length : Int) := by omega
            have hi1 : (0 : Int) ≤ (at_ : Int) := by omega
            have HYES := Lib.hid hyes
            have HLEN := Lib.hid hlen
            have HAT := Lib.hid hat
            have hdbl : ¬ d = bl := by have := HOW.out.lt; have := hRn.new; omega
            have hbld : ¬ bl = d := fun e => hdbl e.symm
            have hvbl : ¬ bv = bl := by
              have h1 := (H.out.since.sb bv rfl).1
              have := H.out.dom bv h1
              have := hRn.new
              omega
            have hblv : ¬ bl = bv := fun e => hvbl e.symm
            have hblt2 := hRn.lt
            clear hyes hlen hat hp hmb hsi hx1 hx2 hblk hRn hR d2 ho hwn
            by_cases hq : (k : Int) = torn
            · have hqb : ((k : Int) == torn) = true := beq_iff_eq.2 hq
              have HR4 : Hid (CrashRel w S d M.now.length bl cl (crashTo M.since keep torn M.safe (k + 1)) ((ls.set at_ (.slice (some ⟨gx, 0, none⟩) 64 64)).set at_ (.slice none 0 0)) ((wn.setCell ⟨bl, at_, none⟩ (.slice (some ⟨gx, 0, none⟩) 64 64)).setCell ⟨bl, at_, none⟩ (.slice none 0 0)).drew) := by
                have h4 := (HR3.out.set hS.out (by rw [List.length_set]; exact HLEN.out) (x := .slice none 0 0) (m := none) rfl HAT.out).later hS.out ((Below.refl _ _).drew)
                have hy := HYES.out
                rw [if_pos hq] at hy
                rw [List.set_set, ← hy] at h4
                exact h4
              clear hq HR3
              go_wp2_with fail
              go_region
              all_goals
                go_wp2_with fail
                go_roundw
                case rel => exact ⟨k + 1, _, by omega, by go_num, HR4⟩
                case measure => simp [intOf]; omega
            · have hqb : ((k : Int) == torn) = false := beq_eq_false_iff_ne.2 hq
              have HR4 : Hid (CrashRel w S d M.now.length bl cl (crashTo M.since keep torn M.safe (k + 1)) (ls.set at_ (.slice (some ⟨gx, 0, none⟩) 64 64)) (wn.setCell ⟨bl, at_, none⟩ (.slice (some ⟨gx, 0, none⟩) 64 64)).drew) := by
                have h4 := HR3.out.later hS.out ((Below.refl _ _).drew)
                have hy := HYES.out
                rw [if_neg hq] at hy
                rw [← hy] at h4
                exact h4
              clear hq HR3
              go_wp2_with fail
              go_region
              all_goals
                go_wp2_with fail
                go_roundw
                case rel => exact ⟨k + 1, _, by omega, by go_num, HR4⟩
                case measure => simp [intOf]; omega
    · have hke : k = M.since.length := by omega
      have hkI : decide ((k : Int) < (M.since.length : Int)) = false := decide_eq_false (by omega)
      have hkn : decide (k < M.since.length) = false := decide_eq_false (by omega)
      have HRE : Hid (CrashRel w S d M.now.length bl cl (crashTo M.since keep torn M.safe M.since.length) ls wr) := by have h := hR.out; rw [hke] at h; exact h
      have ho := HOW.out.later hR.out.below
      have e0 := ho.c0
      have e1 := ho.c1
      have e2 := ho.c2
      have g0 := ho.free 0
      have g1 := ho.free 1
      have hdbl : ¬ d = bl := by have := HOW.out.lt; omega
      have hbld : ¬ bl = d := fun e => hdbl e.symm
      have HL3 : Hid (ls.length = M.now.length * 1) := HRE.out.row.1
      have HONE3 : Hid (∀ v ∈ ls, v.oneCell' = true) := by
        intro v hv
        obtain ⟨i, hi, rfl⟩ := List.getElem_of_mem hv
        have hl := HRE.out.row.1
        have hcl := crashTo_len M.since keep torn M.safe M.since.length
        rw [HSL.out] at hcl
        obtain ⟨x, hx, hx2⟩ := HRE.out.blk i ((crashTo M.since keep torn M.safe M.since.length)[i]'(by omega)) (by simp)
        rw [List.getElem?_eq_getElem hi] at hx
        injection hx with hx
        rw [hx]
        cases hm : (crashTo M.since keep torn M.safe M.since.length)[i]'(by omega) with
        | none => rw [hm] at hx2; rw [show x = .slice none 0 0 from hx2]; rfl
        | some m => rw [hm] at hx2; obtain ⟨_, g, hx3, _⟩ := hx2; rw [hx3]; rfl
      have HSRC3 : Hid (∀ (j : Nat) (u : Value), ls[j]? = some u → ((wr.setCell ⟨d, 0, none⟩ (.slice (some ⟨bl, 0, none⟩) M.now.length cl)).setCell ⟨d, 1, none⟩ (.slice none 0 0)).cell? (Addr.add ⟨bl, 0, none⟩ j) = some u) := by
        intro j u hj
        have hjl : j < M.now.length * 1 := by
          obtain ⟨hl, _⟩ := List.getElem?_eq_some_iff.1 hj
          have := HL3.out
          omega
        rw [addr_add, Nat.zero_add, World.cell?_setCell_other _ _ _ _ (by intro he; injection he with he _ _; exact hdbl he), World.cell?_setCell_other _ _ _ _ (by intro he; injection he with he _ _; exact hdbl he)]
        exact (HRE.out.row.cellAt j hjl).trans hj
      have HO := Lib.hid ho
      clear hke hR d2 ho
      go_wp2_with (refine wpList_append_own_at (o := ⟨some 85, _, _, _, _, _⟩) _ rfl (.tmp 83) (.tmp 84) 66 rfl ((wr.setCell ⟨d, 0, none⟩ (.slice (some ⟨bl, 0, none⟩) M.now.length cl)).setCell ⟨d, 1, none⟩ (.slice none 0 0)).heap.size 22 i0 (.slice none 0 0) 1 24 Tryd.underlying66 HI0.out HZ0.out HZ1.out HZ2.out rfl (by decide) (.slice none 0 0) 0 [] rfl (World.ownsRow_nil _ _ _ _) ⟨bl, 0, none⟩ M.now.length cl ls rfl HL3.out HSRC3.out HONE3.out (by unfold maxLen; omega) (by omega) (Nat.le_refl _) ?_)
      intro v3 w3 hown3 hgrow3 _ _
      obtain ⟨g, cap, rfl, k1, kf1, k2, kf2, k3, kf3, k4, kf4, kon, kfin⟩ := kcrash_end (M := M) (keep := keep) (torn := torn) (ls := ls) H.out HRE.out HO.out (by simpa using hown3) (by simpa using hgrow3)
      have KON := Lib.hid kon
      have KFIN := Lib.hid kfin
      clear hown3 hgrow3 kon kfin e0 e1 e2 g0 g1
      go_wp2_with fail
      go_end0
      exact ⟨rfl, KON.out, KFIN.out⟩
end Go.Proofs.YtldpflijgbcbhaaDoor.kk
