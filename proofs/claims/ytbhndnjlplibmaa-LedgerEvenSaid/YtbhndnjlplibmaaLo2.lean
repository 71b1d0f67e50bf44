/- LedgerOrder walked: true, at any three lists. -/
import Derived.Test.YtbhndnjlplibmaaLo1
import Derived.Test.YtbhndnjlplibmaaLoL
namespace Go.Proofs.Ytbhndnjlplibmaa.lg
open Go.RowKit

theorem merge_c (ao : Option Addr) (ca : Nat) (a : List BalM) (bo : Option Addr) (cb : Nat) (b : List BalM) (w : World) (ha : BalsAt w ao a) (hb : BalsAt w bo b)
    (hoka : ∀ x ∈ a, plOk (plOf x)) (hokb : ∀ x ∈ b, plOk (plOf x)) (hma : a.length ≤ 9223372036854775807) (hmb : b.length ≤ 9223372036854775807) :
    Calls Try.prog 13 #[.slice ao a.length ca, .slice bo b.length cb] w (MergeOut w.heap.size w a b) :=
  (merge_any sortAll ao ca a bo cb b w ha hb hoka hokb hma hmb).mono fun _ _ h => merge_out h
theorem merge_len {a b L : List BalM} {c : Int} (h : MergeIs a b c L) : L.length ≤ 200 := by
  by_cases h0 : c = 0
  · exact (chk_iff.1 (h.chk h0)).1
  · rw [h.nil h0]; exact Nat.zero_le _
theorem same_b (t : List BalM) (w : World) (a b : Option Addr) (ca cb : Nat) (ha : BalsAt w a t) (hb : BalsAt w b t) (hm : t.length ≤ 9223372036854775807) :
    Calls Try.prog 14 #[.slice a t.length ca, .slice b t.length cb] w fun e w' => e = .returned (.bool true) ∧ Below w.heap.size w w' :=
  (bals_same t w a b ca cb ha hb hm).mono fun _ _ ⟨h, n, e⟩ => ⟨h, by rw [e]; exact ⟨rfl, rfl, rfl, Nat.le_refl _, fun _ _ => rfl⟩⟩
def t1 : ByteArray := ⟨#[49]⟩
def tE : ByteArray := ⟨#[69, 85, 82]⟩
theorem okFact (n : Int) : ∀ x ∈ [(⟨1, t1, tE, n⟩ : BalM)], plOk (plOf x) := fun x hx => by
  rw [List.mem_singleton.1 hx]
  exact ⟨⟨by show (-9223372036854775808 : Int) ≤ 1; decide, by show (1 : Int) ≤ 9223372036854775807; decide⟩, by show t1.size ≤ maxLen; decide, by show tE.size ≤ maxLen; decide⟩
theorem bals_one {w : World} {b : Nat} {x : BalM} (h : w.heap[b]? = some (.cells #[.int .i64 x.ent, .string x.acc, .string x.cur, .int .i64 x.amt] 43 (0, 0))) : BalsAt w (some ⟨b, 0, none⟩) [x] := by
  refine Or.inr ⟨b, 0, rfl, lt_of_heap h, fun i y hy => ?_⟩
  have hi : i = 0 := by
    have := (List.getElem?_eq_some_iff.1 hy).1
    simp at this
    exact this
  subst hi
  simp only [List.getElem?_cons_zero, Option.some.injEq] at hy
  subst hy
  exact ⟨cell_of_heap h 0, cell_of_heap h 1, cell_of_heap h 2, cell_of_heap h 3⟩

set_option maxRecDepth 100000 in
set_option maxHeartbeats 16000000 in
theorem law_any (ao : Option Addr) (ca : Nat) (a : List BalM) (bo : Option Addr) (cb : Nat) (b : List BalM) (co : Option Addr) (cc : Nat) (c : List BalM) (w : World) (ha : BalsAt w ao a) (hb : BalsAt w bo b) (hc : BalsAt w co c)
    (hoka : ∀ x ∈ a, plOk (plOf x)) (hokb : ∀ x ∈ b, plOk (plOf x)) (hokc : ∀ x ∈ c, plOk (plOf x)) (hma : a.length ≤ 9223372036854775807) (hmb : b.length ≤ 9223372036854775807) (hmc : c.length ≤ 9223372036854775807) :
    Calls Try.prog 6 #[.slice ao a.length ca, .slice bo b.length cb, .slice co c.length cc] w fun e w' => e = .returned (.bool true) ∧ Below w.heap.size w w' := by
  have HA := Lib.hid ha
  have HB := Lib.hid hb
  have HC := Lib.hid hc
  have HKA := Lib.hid hoka
  have HKB := Lib.hid hokb
  have HKC := Lib.hid hokc
  obtain ⟨W0, hW0⟩ : ∃ W0, W0 = (w.alloc (.cells #[.int .i64 1, .string t1, .string tE, .int .i64 2] 43)).alloc (.cells #[.int .i64 1, .string t1, .string tE, .int .i64 3] 43) := ⟨_, rfl⟩
  have HB0 : Hid (Below w.heap.size w W0) := by show Below _ _ _; rw [hW0]; exact ((Below.refl _ _).alloc (Nat.le_refl _) _).alloc (by simp) _
  have g1 : W0.heap[w.heap.size]? = some (.cells #[.int .i64 1, .string t1, .string tE, .int .i64 2] 43 (0, 0)) := by rw [hW0]; exact ((MapKept.heap_alloc _ _).2 _ (by simp)).trans (heap_new_at rfl _)
  have g2 : W0.heap[w.heap.size + 1]? = some (.cells #[.int .i64 1, .string t1, .string tE, .int .i64 3] 43 (0, 0)) := by rw [hW0]; exact heap_new_at (by simp) _
  have hcall := merge_c (some ⟨w.heap.size, 0, none⟩) 1 [⟨1, t1, tE, 2⟩] (some ⟨w.heap.size + 1, 0, none⟩) 1 [⟨1, t1, tE, 3⟩] W0 (bals_one g1) (bals_one g2) (okFact 2) (okFact 3) (by decide) (by decide)
  have HW0 := Lib.hid hW0
  unfold t1 tE at hcall HW0
  clear ha hb hc hoka hokb hokc hW0 g1 g2
  go_enter Try.func6, Try.ntmps6
  go_wp2_with fail
  rw [← HW0.out]
  refine hcall.mono ?_
  rintro e w1 ⟨hb1, c1, so, sc, L, rfl, hL, hM⟩
  obtain ⟨rfl, rfl⟩ := merge_fact hM
  rw [errV_zero]
  obtain ⟨b9, off, rfl, _, hcell⟩ := hL.resolve_left (by simp)
  obtain ⟨_, _, _, k3⟩ := hcell 0 _ rfl
  have hlen1 : ([(⟨1, ⟨#[49]⟩, ⟨#[69, 85, 82]⟩, 5⟩ : BalM)]).length = 1 := rfl
  rw [hlen1]
  have HB1 : Hid (Below w.heap.size w w1) := HB0.out.trans (hb1.mono HB0.out.size)
  clear hcall hb1 hM hcell hL HW0 HB0 hlen1
  have hcall := merge_c ao ca a bo cb b w1 (HA.out.below HB1.out) (HB.out.below HB1.out) HKA.out HKB.out hma hmb
  go_wp2_with fail
  refine hcall.mono ?_
  rintro e w2 ⟨hb2, cx, xo, xc, X, rfl, hX, hMX⟩
  have HB2 : Hid (Below w.heap.size w w2) := HB1.out.trans (hb2.mono HB1.out.size)
  have HX := Lib.hid hX
  have HMX := Lib.hid hMX
  clear hcall hb2 HB1 hX hMX
  have hcall := merge_c bo cb b ao ca a w2 (HB.out.below HB2.out) (HA.out.below HB2.out) HKB.out HKA.out hmb hma
  go_wp2_with fail
  refine hcall.mono ?_
  rintro e w3 ⟨hb3, cy, yo, yc, Y, rfl, hY, hMY⟩
  have HB3 : Hid (Below w.heap.size w w3) := HB2.out.trans (hb3.mono HB2.out.size)
  have HX3 := Lib.hid (HX.out.below hb3)
  have HY := Lib.hid hY
  obtain ⟨hiff, heq⟩ := merge_swap HMX.out hMY
  clear hcall hb3 HB2 HX hY
  by_cases c0 : cx = 0
  · obtain rfl := heq c0
    have d0 := hiff.1 c0
    subst c0
    subst d0
    rw [errV_zero]
    have hca : Hid (chkB a = 0) := (HMX.out.iff.1 rfl).1
    have hxl := merge_len hMY
    have HKX := Lib.hid (HMX.out.pl HKA.out HKB.out)
    have hal : Hid (a.length ≤ 200) := (chk_iff.1 hca.out).1
    clear hiff heq hMY
    have hsame := same_b X w3 xo yo xc yc HX3.out HY.out (by omega)
    go_wp2_with fail
    refine hsame.mono ?_
    rintro e w4 ⟨rfl, hb4⟩
    have HB4 : Hid (Below w.heap.size w w4) := HB3.out.trans (hb4.mono HB3.out.size)
    have HX4 := Lib.hid (HX3.out.below hb4)
    clear hsame hb4 HB3 HX3 HY
    have hcall := merge_c ao ca a none 0 [] w4 (HA.out.below HB4.out) (Or.inl rfl) HKA.out (fun x hx => by cases hx) hma (by simp)
    go_wp2_with fail
    refine hcall.mono ?_
    rintro e w5 ⟨hb5, cn, no, nc, N, rfl, hN, hMN⟩
    obtain ⟨rfl, rfl⟩ := merge_none hca.out hMN
    rw [errV_zero]
    have HB5 : Hid (Below w.heap.size w w5) := HB4.out.trans (hb5.mono HB4.out.size)
    have HX5 := Lib.hid (HX4.out.below hb5)
    have hsame := same_b N w5 no ao nc ca hN (HA.out.below HB5.out) hma
    clear hcall hb5 HB4 HX4 hN hMN
    go_wp2_with fail
    refine hsame.mono ?_
    rintro e w6 ⟨rfl, hb6⟩
    have HB6 : Hid (Below w.heap.size w w6) := HB5.out.trans (hb6.mono HB5.out.size)
    have HX6 := Lib.hid (HX5.out.below hb6)
    clear hsame hb6 HB5 HX5
    have S0 : Hid (RowSt w6 [] 43 4 (.slice none 0 0) ((N.take 0).map negB).length (((N.take 0).map negB).flatMap encB) w6) := RowSt.start ⟨Below.refl _ _, fun p hp => by cases hp⟩
    obtain ⟨i0, hi0, hz0, hz1, hz2⟩ := info_parts infoBal
    have HI0 := Lib.hid hi0
    have HZ0 := Lib.hid hz0
    have HZ1 := Lib.hid hz1
    have HZ2 := Lib.hid hz2
    clear hi0 hz0 hz1 hz2
    go_wp2_with fail
    go_loopw [16, 17] (fun v i wr => ∃ k : Nat, k ≤ N.length ∧ i = .int .i64 (k : Int) ∧ Hid (RowSt w6 [] 43 4 v ((N.take k).map negB).length (((N.take k).map negB).flatMap encB) wr)) (fun _ i _ => N.length - (intOf i).toNat)
    case atStart => exact ⟨0, Nat.zero_le _, rfl, S0⟩
    case round =>
      clear S0
      obtain ⟨k, hk, rfl, HS⟩ := hrel
      have HBW : Hid (Below w.heap.size w wr) := HB6.out.trans (HS.out.fr.below.mono HB6.out.size)
      by_cases hlt : k < N.length
      · obtain ⟨x, hx⟩ := getElem?_ex hlt
        obtain ⟨b8, of8, rfl, hb8, hcc⟩ := (HA.out.below HBW.out).resolve_left (fun e => by rw [e] at hlt; simp at hlt)
        obtain ⟨x0, x1, x2, x3⟩ := hcc k x hx
        have hmy := mayB_iff.1 ((chk_iff.1 hca.out).2.2 x (List.mem_of_getElem? hx)).1
        obtain ⟨hm1, hm2⟩ := hmy
        have hi1 : (k : Int) < (N.length : Int) := by omega
        have hi0 : (0 : Int) ≤ (k : Int) := by omega
        have htk : (N.take (k + 1)).map negB = (N.take k).map negB ++ [negB x] := by
          rw [List.take_add_one, hx, List.map_append]; rfl
        have HTK := Lib.hid htk
        clear hcc hx htk
        have hsz6 := HS.out.fr.below.size
        have hnl : ((N.take k).map negB).length ≤ 200 := by rw [List.length_map, List.length_take]; have := hal.out; omega
        obtain ⟨W8, hW8⟩ : ∃ W8, W8 = (wr.alloc (.cells #[.int .i64 x.ent, .string x.acc, .string x.cur, .int .i64 (-x.amt)] 43)).alloc (.cells #[.int .i64 x.ent, .string x.acc, .string x.cur, .int .i64 (-x.amt)] 43) := ⟨_, rfl⟩
        have S2 : Hid (RowSt w6 [] 43 4 u16 ((N.take k).map negB).length (((N.take k).map negB).flatMap encB) W8) := by
          show RowSt _ _ _ _ _ _ _ _
          rw [hW8]
          exact (HS.out.later ((Below.refl _ _).alloc (Nat.le_refl _) _)).later ((Below.refl _ _).alloc (Nat.le_refl _) _)
        have hnew : W8.heap[wr.heap.size + 1]? = some (.cells #[.int .i64 x.ent, .string x.acc, .string x.cur, .int .i64 (-x.amt)] 43 (0, 0)) := by rw [hW8]; exact heap_new_at (by simp) _
        have hszW : W8.heap.size = wr.heap.size + 2 := by rw [hW8]; simp
        have HW8 := Lib.hid hW8
        obtain ⟨uo, um, uc, rfl⟩ := ownsRow_form S2.out.row
        clear hW8 HS
        go_wp2_with (at_builtin; rw [← HW8.out]; go_must (refine wpList_append_own_at (o := ⟨some 96, _, _, _, _, _⟩) _ rfl (.tmp 93) (.tmp 95) 39 rfl w6.heap.size 43 i0 (.agg #[.int .i64 0, .string ⟨#[]⟩, .string ⟨#[]⟩, .int .i64 0]) 4 48 Try.underlying39 HI0.out HZ0.out HZ1.out HZ2.out rfl (by decide) (.slice uo um uc) ((N.take k).map negB).length (((N.take k).map negB).flatMap encB) rfl S2.out.row ⟨wr.heap.size + 1, 0, none⟩ 1 1 [.int .i64 x.ent, .string x.acc, .string x.cur, .int .i64 (-x.amt)] rfl rfl (World.news_of_block (cs := #[.int .i64 x.ent, .string x.acc, .string x.cur, .int .i64 (-x.amt)]) (t := 43) (fr := (0, 0)) hnew) (by simp [Value.oneCell']) (by unfold maxLen; omega) (by omega) (by omega) ?_); intro v1 wn hown1 hgrow1 _ hblk1)
        have HMV : Moved W8 wn (.slice uo um uc) v1 := ⟨Only.of_grown hgrow1, hblk1.imp id (fun e => ⟨_, e, Nat.le_refl _⟩)⟩
        have HS5 : Hid (RowSt w6 [] 43 4 v1 ((N.take (k + 1)).map negB).length (((N.take (k + 1)).map negB).flatMap encB) wn) := S2.out.moved (ownsRow_cast hown1 (by rw [HTK.out]; simp) (by rw [HTK.out]; simp [encB, negB])) HMV
        clear hown1 hgrow1 hblk1 HMV S2 HW8 hnew hszW
        go_wp2_with fail
        go_roundw
        case rel => exact ⟨k + 1, by omega, by go_num, HS5⟩
        case measure => simp [intOf]; omega
      · obtain rfl : k = N.length := by omega
        have hrow := HS.out.row
        rw [List.take_length] at hrow
        obtain ⟨ro, rc, rfl, hro⟩ := bals_of_row hrow rfl
        have hcall := merge_c ao ca N ro rc (N.map negB) wr (HA.out.below HBW.out) hro HKA.out (fun x hx => by
          obtain ⟨y, hy, rfl⟩ := List.mem_map.1 hx
          exact HKA.out y hy) hma (by rw [List.length_map]; exact hma)
        have HX7 := Lib.hid (HX6.out.below HS.out.fr.below)
        obtain ⟨TN, hTN⟩ : ∃ TN, TN = N.map negB := ⟨_, rfl⟩
        rw [← hTN] at hcall ⊢
        have HTN := Lib.hid hTN
        clear hrow hro HS HX6 HB6 hTN
        go_wp2_with fail
        refine hcall.mono ?_
        rintro e w7 ⟨hb7, cz, zo, zc, Z, rfl, hZ, hMZ⟩
        rw [HTN.out] at hMZ
        obtain ⟨rfl, rfl⟩ := merge_neg hca.out hMZ
        rw [errV_zero, List.length_nil]
        have HB7 : Hid (Below w.heap.size w w7) := HBW.out.trans (hb7.mono HBW.out.size)
        have HX8 := Lib.hid (HX7.out.below hb7)
        clear hcall hb7 HBW HX7 hZ hMZ HTN
        have hcall := merge_c xo xc X co cc c w7 HX8.out (HC.out.below HB7.out) HKX.out HKC.out (by omega) hmc
        go_wp2_with fail
        refine hcall.mono ?_
        rintro e w8 ⟨hb8, cp, po, pc, P, rfl, hP, hMP⟩
        have HB8 : Hid (Below w.heap.size w w8) := HB7.out.trans (hb8.mono HB7.out.size)
        have HP8 := Lib.hid hP
        have HMP := Lib.hid hMP
        have hpl := merge_len hMP
        clear hcall hb8 HB7 HX8 hP hMP
        have hcall := merge_c bo cb b co cc c w8 (HB.out.below HB8.out) (HC.out.below HB8.out) HKB.out HKC.out hmb hmc
        go_wp2_with fail
        refine hcall.mono ?_
        rintro e w9 ⟨hb9, cq, qo, qc, Q, rfl, hQ, hMQ⟩
        have HB9 : Hid (Below w.heap.size w w9) := HB8.out.trans (hb9.mono HB8.out.size)
        have HP9 := Lib.hid (HP8.out.below hb9)
        have HQ9 := Lib.hid hQ
        have HMQ := Lib.hid hMQ
        have hql := merge_len hMQ
        clear hcall hb9 HB8 HP8 hQ hMQ
        by_cases cp0 : cp = 0
        · have z1 := zeroC_yes cp0
          by_cases cq0 : cq = 0
          · have z2 := zeroC_yes cq0
            have hcall := merge_c ao ca N qo qc Q w9 (HA.out.below HB9.out) HQ9.out HKA.out (HMQ.out.pl HKB.out HKC.out) hma (by omega)
            have HCP := Lib.hid cp0
            have HCQ := Lib.hid cq0
            clear cp0 cq0
            go_wp2_with fail
            refine hcall.mono ?_
            rintro e wa ⟨hba, cr, so, sc, R, rfl, hR, hMR⟩
            have HBa : Hid (Below w.heap.size w wa) := HB9.out.trans (hba.mono HB9.out.size)
            have HPa := Lib.hid (HP9.out.below hba)
            by_cases cr0 : cr = 0
            · have z3 := zeroC_yes cr0
              obtain rfl := merge_three HMX.out HMP.out HMQ.out hMR rfl HCP.out HCQ.out cr0
              have hsame := same_b P wa po so pc sc HPa.out hR (by omega)
              clear hcall hba hR hMR cr0
              go_wp2_with fail
              refine hsame.mono ?_
              rintro e wb ⟨rfl, hbb⟩
              have HBb : Hid (Below w.heap.size w wb) := HBa.out.trans (hbb.mono HBa.out.size)
              clear hsame hbb
              go_wp2_with fail
              go_ret
              exact ⟨rfl, HBb.out⟩
            · have z3 := zeroC_no cr0
              clear hcall hba hR hMR cr0
              go_wp2_with fail
              go_ret
              exact ⟨rfl, HBa.out⟩
          · have z2 := zeroC_no cq0
            clear cp0 cq0
            go_wp2_with fail
            go_ret
            exact ⟨rfl, HB9.out⟩
        · have z1 := zeroC_no cp0
          clear cp0
          go_wp2_with fail
          go_ret
          exact ⟨rfl, HB9.out⟩
  · have z1 := zeroC_no c0
    have z2 := zeroC_no (fun h => c0 (hiff.2 h))
    clear hMY HX3 HY hiff heq HMX
    go_wp2_with fail
    go_quiet (fail)
    go_wp2_with fail
    go_ret
    exact ⟨rfl, HB3.out.os, HB3.out.tape, HB3.out.output, HB3.out.size, HB3.out.block⟩
end Go.Proofs.Ytbhndnjlplibmaa.lg
