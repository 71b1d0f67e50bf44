/- match.Fifo at any items: what is set off, what is open. -/
import Derived.Test.YtbhndnjlplibmaaDoorIt6
import Derived.Deep.CutBlock
import Derived.Deep.DeepCutAuto
import Derived.Deep.RegionHeld3
namespace Go.Proofs.YtbhndnjlplibmaaDoor.mt
open Go.RowKit

theorem errPost_congr {c : Int} {B : Nat} {w : World} {v : Value} (h : errV c = v) : ErrPost B w c = fun e w' => e = .returned v ∧ Below B w w' := by
  funext e w'; simp [ErrPost, h]

set_option maxRecDepth 100000 in
set_option maxHeartbeats 8000000 in
theorem fifo_any (ao : Option Addr) (cap : Nat) (its : List ItemM) (w : World) (hh : ItemsAt w.heap.size w ao its) (hm : its.length ≤ 9223372036854775807) :
    Calls Tryd.prog 19 #[.slice ao its.length cap] w (FifoPost w its) := by
  obtain ⟨c, hcc⟩ : ∃ c, itemsF its = c := ⟨_, rfl⟩
  have hck := check_r c ao cap its w hh hm hcc
  have HH := Lib.hid hh
  clear hh
  by_cases h0 : c = 0
  · subst h0
    obtain ⟨hN, hgood⟩ := itemsF_zero hcc
    have HGOOD := Lib.hid hgood
    have HCC := Lib.hid hcc
    have hbd : ∀ j, -1000000000000000 ≤ (amts its).getD j 0 ∧ (amts its).getD j 0 ≤ 1000000000000000 := fun j => by
      by_cases hj : j < its.length
      · have := (hgood j _ (getD_get hj)).2.2.2.1
        rw [amtB_iff, ← amts_at] at this
        exact this
      · rw [fifo.getD_ge (by rw [amts_len]; omega)]; omega
    have HBD := Lib.hid hbd
    have hmk := make_ints its.length (by omega)
    have HT := Lib.hid (amts_len its)
    have HAM : Hid (∀ i x, its[i]? = some x → x.amt = (amts its).getD i 0) := fun i x hx => (amts_get its i x hx).symm
    clear hgood hbd hcc
    go_enter Tryd.func19, Tryd.ntmps19
    go_wp2_with fail
    refine hck.mono ?_
    rintro e w1 ⟨rfl, hb1⟩
    rw [errV_zero]
    have S1 := Lib.hid (FSt.start hb1 its.length)
    obtain ⟨Bl, hBl⟩ : ∃ Bl, Bl = w1.heap.size := ⟨_, rfl⟩
    rw [← hBl] at S1
    have HBL := Lib.hid hBl
    clear hck hb1 hBl
    go_wp2_with fail
    rw [← HBL.out]
    have S2 : Hid (FSt w Bl (fifo.fullL (amts its) its.length 0) (fifo.outer (amts its) 0).2 (.slice none 0 0) (w1.alloc (lObj (List.replicate its.length 0)))) := by
      show FSt _ _ _ _ _ _
      rw [fifo.fullL_zero]; exact S1.out
    clear hmk S1
    go_loopw [6, 25] (fun sv i wr => ∃ k : Nat, k ≤ its.length ∧ i = .int .i64 (k : Int) ∧ Hid (FSt w Bl (fifo.fullL (amts its) its.length k) (fifo.outer (amts its) k).2 sv wr)) (fun _ i _ => its.length - (intOf i).toNat)
    case atStart => exact ⟨0, Nat.zero_le _, rfl, S2⟩
    case round =>
      clear S2
      obtain ⟨k, hk, rfl, hS⟩ := hrel
      by_cases hlt : k < its.length
      · obtain ⟨x, hx⟩ := getElem?_ex hlt
        obtain ⟨b, off, rfl, hb, hcc⟩ := HH.out.resolve_left (fun e => by rw [e] at hlt; simp at hlt)
        obtain ⟨c0', c1', c2'⟩ := hcc k x hx
        have hge := hS.out.ge
        have c0 := (hS.out.fr.old hb _).trans c0'
        have c1 := (hS.out.fr.old hb _).trans c1'
        have c2 := (hS.out.fr.old hb _).trans c2'
        have hxa := HAM.out k x hx
        rw [hxa] at c2
        have hkI : (k : Int) < (its.length : Int) := by omega
        have hk0 : (0 : Int) ≤ (k : Int) := by omega
        obtain ⟨q, hq⟩ : ∃ q, q = wr.heap.size := ⟨_, rfl⟩
        have hbq : Below wr.heap.size wr (wr.alloc (.cells #[.string x.ref, .int .i64 x.per, .int .i64 ((amts its).getD k 0)] 40)) := (Below.refl _ _).alloc (Nat.le_refl _) _
        have SA := hS.out.later hbq
        have hll := fifo.fullL_len (amts its) (N := its.length) (i := k) (by omega)
        have f1 := SA.free k
        have f2 := SA.at (i := k) (by omega)
        have SB := SA.put k ((amts its).getD k 0)
        rw [fifo.fullL_set (amts its) hlt] at SB
        have S3 : Hid (FSt w Bl (fifo.inL (amts its) its.length k 0) (fifo.inS (amts its) k 0) u6 ((wr.alloc (.cells #[.string x.ref, .int .i64 x.per, .int .i64 ((amts its).getD k 0)] 40)).setCell ⟨Bl, k, none⟩ (.int .i64 ((amts its).getD k 0)))) := by
          show FSt _ _ _ _ _ _
          rw [fifo.inS_zero]; exact SB
        have hbl2 : ¬ Bl = q := by rw [hq]; omega
        have hbl3 : Bl < q := by rw [hq]; omega
        have HQ := Lib.hid hq
        clear hcc c0' c1' c2' hxa hx hge hbq SA hll SB hq hS
        generalize (fifo.fullL (amts its) its.length k).getD k 0 = old at *
        generalize (amts its).getD k 0 = tk at *
        go_wp2_with fail
        clear c0 c1 c2 f1 f2
        go_loopw [6, 10] (fun sv j wr2 => ∃ m : Nat, m ≤ k ∧ j = .int .i64 (m : Int) ∧ Hid (FSt w Bl (fifo.inL (amts its) its.length k m) (fifo.inS (amts its) k m) sv wr2)) (fun _ j _ => k - (intOf j).toNat)
        case atStart => exact ⟨0, Nat.zero_le _, rfl, S3⟩
        case round =>
          clear S3
          obtain ⟨m, hmk, rfl, hS⟩ := hrel
          have hll := fifo.inL_len (amts its) (N := its.length) (i := k) (k := m) hlt
          have g1 := hS.out.at (i := k) (by omega)
          have g2 := hS.out.free k
          rw [fifo.inL_at_i] at g1
          have hbnd := fifo.in_bound (amts its) HBD.out (i := k) (k := m) (by rw [HT.out]; exact hlt) hmk
          obtain ⟨⟨n1, n2⟩, a1, a2⟩ := hbnd
          by_cases hgo : m < k ∧ fifo.inN (amts its) k m ≠ 0
          · obtain ⟨hmlt, hn0⟩ := hgo
            have g3 := hS.out.at (i := m) (by omega)
            have g4 := hS.out.free m
            rw [fifo.inL_at_k (amts its) hmlt] at g3
            have hmI : (m : Int) < (k : Int) := by omega
            have hm0 : (0 : Int) ≤ (m : Int) := by omega
            have hmN : (m : Int) < (its.length : Int) := by omega
            have hn0b : (fifo.inN (amts its) k m != 0) = true := by simp [hn0]
            have HSK := Lib.hid (fifo.in_skip (amts its) (N := its.length) (i := k) (k := m))
            have HMV := Lib.hid (fifo.in_move (amts its) (N := its.length) (i := k) (k := m) hmlt)
            have HSN := Lib.hid (fifo.inS_snoc (amts its) (N := its.length) (i := k) (k := m) hmlt)
            have hD := fun n => Lib.hid (show FSt w Bl (fifo.inL (amts its) its.length k m) (fifo.inS (amts its) k m) u6 (wr.drewN n) from hS.out.later (below_drewN (Below.refl _ _) n))
            clear hll
            generalize fifo.inN (amts its) k m = n' at *
            generalize fifo.inA (amts its) k m = a' at *
            by_cases ha0 : a' = 0
            · have ha0b : (a' == 0) = true := beq_iff_eq.2 ha0
              have hsk := HSK.out (fifo.opp_not.2 (by omega))
              have hD' : ∀ n, Hid (FSt w Bl (fifo.inL (amts its) its.length k (m + 1)) (fifo.inS (amts its) k (m + 1)) u6 (wr.drewN n)) := fun n => by
                have := (hD n).out
                rw [← hsk.1, ← hsk.2.1] at this
                exact this
              clear hsk HSK HMV HSN hD hS ha0 hn0
              go_wp2_with fail
              go_quiet (fail)
              go_wp2_with fail
              go_roundw
              case rel => exact ⟨m + 1, by omega, by go_num, hD' _⟩
              case measure => simp [intOf]; omega
            · have ha0b : (a' == 0) = false := beq_eq_false_iff_ne.2 ha0
              by_cases hop : fifo.opp a' n' = true
              · have hmv := HMV.out hop
                have hsn := HSN.out hop
                have hcb := fifo.cut_nonneg a' n'
                have hss : (decide (0 < a') = true ∧ decide (0 < n') = false ∧ decide (n' < 0) = true) ∨ (decide (0 < a') = false ∧ decide (0 < n') = true ∧ decide (n' < 0) = false) := by
                  rw [fifo.opp_iff] at hop
                  by_cases h : 0 < a'
                  · exact Or.inl ⟨decide_eq_true h, decide_eq_false (by omega), decide_eq_true (by omega)⟩
                  · exact Or.inr ⟨decide_eq_false h, decide_eq_true (by omega), decide_eq_false (by omega)⟩
                clear HSK HMV HSN ha0 hn0
                rcases hss with ⟨s1, s2, s3⟩ | ⟨s1, s2, s3⟩
                · go_wp2_with fail
                  go_quiet (fail)
                  go_wp2_with fail
                  go_quiet ((go_at_call 50; exact quietAt (fun W => abs_any _ W (by omega) (by omega)) _ _ _))
                  go_wp2_with fail
                  rw [← fifo.cutN_min]
                  have e1 : fifo.mvA a' n' = a' - fifo.cutN a' n' := by rw [fifo.mvA, if_neg (of_decide_eq_false s2)]
                  have e2 : fifo.mvN a' n' = n' + fifo.cutN a' n' := by rw [fifo.mvN, if_neg (of_decide_eq_false s2)]
                  have hb1 : fifo.absN a' ≤ 1000000000000000 := by unfold fifo.absN; split <;> omega
                  rw [e1, e2] at hmv
                  generalize fifo.cutN a' n' = cut at *
                  generalize fifo.absN a' = abA at *
                  have hmk3 : ¬ m = k := by omega
                  have hmk4 : ¬ k = m := by omega
                  clear e1 e2 s1 s2 s3 hop
                  have S4 : Hid (∀ n, FSt w Bl (fifo.inL (amts its) its.length k (m + 1)) (fifo.inS (amts its) k m) u6 (((wr.drewN n).setCell ⟨Bl, m, none⟩ (.int .i64 (a' - cut))).setCell ⟨Bl, k, none⟩ (.int .i64 (n' + cut)))) := by
                    intro n
                    rw [hmv.1]; exact ((hD n).out.put m _).put k _
                  have HSN2 := Lib.hid hsn
                  have hcnt := fifo.inS_cnt (amts its) (i := k) (k := m) hmk (by omega)
                  have hcb1 : cut ≤ 1000000000000000 := by omega
                  have hcb0 : 0 ≤ cut := hcb.1
                  obtain ⟨uo, um, uc, rfl⟩ := ownsRow_form hS.out.row
                  obtain ⟨i0, hi0, hz0, hz1, hz2⟩ := info_parts infoI3
                  have HI0 := Lib.hid hi0
                  have HZ0 := Lib.hid hz0
                  have HZ1 := Lib.hid hz1
                  have HZ2 := Lib.hid hz2
                  have hszw := hS.out.size
                  clear hmv hsn hcb hb1 hS hi0 hz0 hz1 hz2 hD
                  go_region
                  all_goals
                    go_wp2_with (at_builtin; go_must (refine wpList_append_own_at (o := ⟨some 123, _, _, _, _, _⟩) _ rfl (.tmp 117) (.tmp 122) 36 rfl w.heap.size 41 i0 (.agg #[.int .i64 0, .int .i64 0, .int .i64 0]) 3 24 Tryd.underlying36 HI0.out HZ0.out HZ1.out HZ2.out rfl (by decide) (.slice uo um uc) (fifo.inS (amts its) k m).length ((fifo.inS (amts its) k m).flatMap fifo.setCells) rfl (World.ownsRow.alloc (S4.out _).row _) ⟨wr.heap.size, 0, none⟩ 1 1 [.int .i64 (m : Int), .int .i64 (k : Int), .int .i64 cut] rfl rfl (World.news_of_block (cs := #[.int .i64 (m : Int), .int .i64 (k : Int), .int .i64 cut]) (t := 41) (fr := (0, 0)) (by exact heap_new_at (by simp) _)) (by simp [Value.oneCell']) (by unfold maxLen; omega) (by omega) (by simp at hszw ⊢; omega) ?_); intro v1 w2 hown1 hgrow1 _ hblk1)
                    have HS5 : Hid (FSt w Bl (fifo.inL (amts its) its.length k (m + 1)) (fifo.inS (amts its) k (m + 1)) v1 w2) := FSt.push (S4.out _) (Below.refl _ _) hgrow1 hblk1 hown1 HSN2.out.2 HSN2.out.1
                    clear hown1 hgrow1 hblk1 S4 HSN2 hszw
                    go_wp2_with fail
                    go_roundw
                    case rel => exact ⟨m + 1, by omega, by go_num, HS5⟩
                    case measure => simp [intOf]; omega
                · go_wp2_with fail
                  go_quiet (fail)
                  go_wp2_with fail
                  go_quiet ((go_at_call 50; exact quietAt (fun W => abs_any _ W (by omega) (by omega)) _ _ _))
                  go_wp2_with fail
                  rw [← fifo.cutN_min]
                  have e1 : fifo.mvA a' n' = a' + fifo.cutN a' n' := by rw [fifo.mvA, if_pos (of_decide_eq_true s2)]
                  have e2 : fifo.mvN a' n' = n' - fifo.cutN a' n' := by rw [fifo.mvN, if_pos (of_decide_eq_true s2)]
                  have hb1 : fifo.absN a' ≤ 1000000000000000 := by unfold fifo.absN; split <;> omega
                  rw [e1, e2] at hmv
                  generalize fifo.cutN a' n' = cut at *
                  generalize fifo.absN a' = abA at *
                  have hmk3 : ¬ m = k := by omega
                  have hmk4 : ¬ k = m := by omega
                  clear e1 e2 s1 s2 s3 hop
                  have S4 : Hid (∀ n, FSt w Bl (fifo.inL (amts its) its.length k (m + 1)) (fifo.inS (amts its) k m) u6 (((wr.drewN n).setCell ⟨Bl, m, none⟩ (.int .i64 (a' + cut))).setCell ⟨Bl, k, none⟩ (.int .i64 (n' - cut)))) := by
                    intro n
                    rw [hmv.1]; exact ((hD n).out.put m _).put k _
                  have HSN2 := Lib.hid hsn
                  have hcnt := fifo.inS_cnt (amts its) (i := k) (k := m) hmk (by omega)
                  have hcb1 : cut ≤ 1000000000000000 := by omega
                  have hcb0 : 0 ≤ cut := hcb.1
                  obtain ⟨uo, um, uc, rfl⟩ := ownsRow_form hS.out.row
                  obtain ⟨i0, hi0, hz0, hz1, hz2⟩ := info_parts infoI3
                  have HI0 := Lib.hid hi0
                  have HZ0 := Lib.hid hz0
                  have HZ1 := Lib.hid hz1
                  have HZ2 := Lib.hid hz2
                  have hszw := hS.out.size
                  clear hmv hsn hcb hb1 hS hi0 hz0 hz1 hz2 hD
                  go_region
                  all_goals
                    go_wp2_with (at_builtin; go_must (refine wpList_append_own_at (o := ⟨some 123, _, _, _, _, _⟩) _ rfl (.tmp 117) (.tmp 122) 36 rfl w.heap.size 41 i0 (.agg #[.int .i64 0, .int .i64 0, .int .i64 0]) 3 24 Tryd.underlying36 HI0.out HZ0.out HZ1.out HZ2.out rfl (by decide) (.slice uo um uc) (fifo.inS (amts its) k m).length ((fifo.inS (amts its) k m).flatMap fifo.setCells) rfl (World.ownsRow.alloc (S4.out _).row _) ⟨wr.heap.size, 0, none⟩ 1 1 [.int .i64 (m : Int), .int .i64 (k : Int), .int .i64 cut] rfl rfl (World.news_of_block (cs := #[.int .i64 (m : Int), .int .i64 (k : Int), .int .i64 cut]) (t := 41) (fr := (0, 0)) (by exact heap_new_at (by simp) _)) (by simp [Value.oneCell']) (by unfold maxLen; omega) (by omega) (by simp at hszw ⊢; omega) ?_); intro v1 w2 hown1 hgrow1 _ hblk1)
                    have HS5 : Hid (FSt w Bl (fifo.inL (amts its) its.length k (m + 1)) (fifo.inS (amts its) k (m + 1)) v1 w2) := FSt.push (S4.out _) (Below.refl _ _) hgrow1 hblk1 hown1 HSN2.out.2 HSN2.out.1
                    clear hown1 hgrow1 hblk1 S4 HSN2 hszw
                    go_wp2_with fail
                    go_roundw
                    case rel => exact ⟨m + 1, by omega, by go_num, HS5⟩
                    case measure => simp [intOf]; omega
              · have hopf : fifo.opp a' n' = false := bool_not hop
                have hsk := HSK.out hopf
                have hss : (decide (0 < a') = true ∧ decide (0 < n') = true) ∨ (decide (0 < a') = false ∧ decide (0 < n') = false) := by
                  rw [fifo.opp_not] at hopf
                  by_cases h : 0 < a'
                  · exact Or.inl ⟨decide_eq_true h, decide_eq_true (by omega)⟩
                  · exact Or.inr ⟨decide_eq_false h, decide_eq_false (by omega)⟩
                have hD' : ∀ n, Hid (FSt w Bl (fifo.inL (amts its) its.length k (m + 1)) (fifo.inS (amts its) k (m + 1)) u6 (wr.drewN n)) := fun n => by
                  have := (hD n).out
                  rw [← hsk.1, ← hsk.2.1] at this
                  exact this
                clear hsk HSK HMV HSN hD hS ha0 hn0 hop hopf
                rcases hss with ⟨s1, s2⟩ | ⟨s1, s2⟩
                all_goals
                  go_wp2_with fail
                  go_quiet (fail)
                  go_wp2_with fail
                  go_roundw
                  case rel => exact ⟨m + 1, by omega, by go_num, hD' _⟩
                  case measure => simp [intOf]; omega
          · have hend : Hid (FSt w Bl (fifo.fullL (amts its) its.length (k + 1)) (fifo.outer (amts its) (k + 1)).2 u6 wr) := by
              show FSt _ _ _ _ _ _
              rw [← fifo.inL_end, ← fifo.inS_end]
              by_cases hmk2 : m = k
              · have := hS.out; rw [hmk2] at this; exact this
              · have hz : fifo.inN (amts its) k m = 0 := by
                  by_cases h : fifo.inN (amts its) k m = 0
                  · exact h
                  · exact absurd ⟨by omega, h⟩ hgo
                have hst := fifo.in_stop (amts its) (N := its.length) hmk hz
                rw [hst.1, hst.2]; exact hS.out
            have hq2 : (m = k ∧ decide ((m : Int) < (k : Int)) = false ∧ decide (m < k) = false) ∨ (decide ((m : Int) < (k : Int)) = true ∧ decide (m < k) = true ∧ (fifo.inN (amts its) k m != 0) = false) := by
              by_cases hmk2 : m < k
              · refine Or.inr ⟨decide_eq_true (by omega), decide_eq_true hmk2, ?_⟩
                by_cases h : fifo.inN (amts its) k m = 0
                · simp [h]
                · exact absurd ⟨hmk2, h⟩ hgo
              · exact Or.inl ⟨by omega, decide_eq_false (by omega), decide_eq_false hmk2⟩
            have hmN : (m : Int) < (its.length : Int) := by omega
            clear hgo hS hll a1 a2
            generalize fifo.inN (amts its) k m = n' at *
            rcases hq2 with ⟨_, s1, s2⟩ | ⟨s1, s2, s3⟩
            all_goals
              go_wp2_with fail
              go_roundw
              case rel => exact ⟨k + 1, by omega, by go_num, hend⟩
              case measure => simp [intOf]; omega
      · obtain rfl : k = its.length := by omega
        have hOS : Hid (OSt w Bl (leftF its) (setsF its) u6 (openTo its (leftF its) 0) (.slice none 0 0) wr) := by
          have h := hS.out
          have e : fifo.fullL (amts its) its.length its.length = leftF its := by simp [fifo.fullL, leftF]
          rw [e] at h
          exact OSt.start h
        have HLL := Lib.hid (leftF_len its)
        clear hS hlt
        go_wp2_with fail
        clear HGOOD HBD HT
        go_loopw [12, 127] (fun ov i wr => ∃ k : Nat, k ≤ its.length ∧ i = .int .i64 (k : Int) ∧ Hid (OSt w Bl (leftF its) (setsF its) u6 (openTo its (leftF its) k) ov wr)) (fun _ i _ => its.length - (intOf i).toNat)
        case atStart => exact ⟨0, Nat.zero_le _, rfl, hOS⟩
        case round =>
          clear hOS
          obtain ⟨k, hk, rfl, hS⟩ := hrel
          by_cases hlt : k < its.length
          · obtain ⟨x, hx⟩ := getElem?_ex hlt
            obtain ⟨b, off, rfl, hb, hcc⟩ := HH.out.resolve_left (fun e => by rw [e] at hlt; simp at hlt)
            obtain ⟨c0', c1', c2'⟩ := hcc k x hx
            have hge := hS.out.ge
            have c0 := (hS.out.row.fr.old hb _).trans c0'
            have c1 := (hS.out.row.fr.old hb _).trans c1'
            have c2 := (hS.out.row.fr.old hb _).trans c2'
            have hkI : (k : Int) < (its.length : Int) := by omega
            have hk0 : (0 : Int) ≤ (k : Int) := by omega
            have f2 := hS.out.at (i := k) (by rw [HLL.out]; exact hlt)
            have hbl2 : ¬ Bl = wr.heap.size := by omega
            have hbl3 : Bl < wr.heap.size := by omega
            have hgd : its.getD k default = x := by simp [hx]
            have hnx : Hid (openTo its (leftF its) (k + 1) = openTo its (leftF its) k ++ if (leftF its).getD k 0 = 0 then [] else [⟨x.ref, x.per, (leftF its).getD k 0⟩]) := by
              show _ = _
              rw [openTo, hgd]
            have S2 := hS.out.later (wr' := wr.alloc (.cells #[.string x.ref, .int .i64 x.per, .int .i64 ((leftF its).getD k 0)] 40)) ((Below.refl _ _).alloc (Nat.le_refl _) _)
            clear hcc c0' c1' c2' hx hge hgd
            obtain ⟨xr, xp, xa⟩ := x
            dsimp only at c0 c1 c2 hnx S2
            generalize (leftF its).getD k 0 = lk at *
            have hcnt := openTo_len its (leftF its) k
            by_cases hz : lk = 0
            · have q1 : (lk != 0) = false := by simp [hz]
              have S3 : Hid (OSt w Bl (leftF its) (setsF its) u6 (openTo its (leftF its) (k + 1)) u12 (wr.alloc (.cells #[.string xr, .int .i64 xp, .int .i64 lk] 40))) := by
                show OSt _ _ _ _ _ _ _ _
                rw [hnx.out, if_pos hz, List.append_nil]; exact S2
              clear S2 hS hnx hz
              go_wp2_with fail
              go_roundw
              case rel => exact ⟨k + 1, by omega, by go_num, S3⟩
              case measure => simp [intOf]; omega
            · have q1 : (lk != 0) = true := by simp [hz]
              have hnx2 : Hid (openTo its (leftF its) (k + 1) = openTo its (leftF its) k ++ [⟨xr, xp, lk⟩]) := by
                show _ = _
                rw [hnx.out, if_neg hz]
              obtain ⟨uo, um, uc, rfl⟩ := ownsRow_form S2.row.row
              obtain ⟨i0, hi0, hz0, hz1, hz2⟩ := info_parts infoIt
              have HI0 := Lib.hid hi0
              have HZ0 := Lib.hid hz0
              have HZ1 := Lib.hid hz1
              have HZ2 := Lib.hid hz2
              have hszw := hS.out.row.fr.below.size
              have S3 := Lib.hid S2
              clear hi0 hz0 hz1 hz2 S2 hS hnx hz
              go_wp2_with (at_builtin; go_must (refine wpList_append_own_at (o := ⟨some 143, _, _, _, _, _⟩) _ rfl (.tmp 140) (.tmp 142) 35 rfl w.heap.size 40 i0 (.agg #[.string ⟨#[]⟩, .int .i64 0, .int .i64 0]) 3 32 Tryd.underlying35 HI0.out HZ0.out HZ1.out HZ2.out rfl (by decide) (.slice uo um uc) (openTo its (leftF its) k).length ((openTo its (leftF its) k).flatMap itemCells) rfl (World.ownsRow.alloc S3.out.row.row _) ⟨wr.heap.size + 1, 0, none⟩ 1 1 [.string xr, .int .i64 xp, .int .i64 lk] rfl rfl (World.news_of_block (cs := #[.string xr, .int .i64 xp, .int .i64 lk]) (t := 40) (fr := (0, 0)) (by exact heap_new_at (by simp) _)) (by simp [Value.oneCell']) (by unfold maxLen; omega) (by omega) (by simp; omega) ?_); intro v1 w2 hown1 hgrow1 _ hblk1)
              have HS5 : Hid (OSt w Bl (leftF its) (setsF its) u6 (openTo its (leftF its) (k + 1)) v1 w2) := OSt.push S3.out hgrow1 hblk1 hown1 (by rw [hnx2.out]; simp) (by rw [hnx2.out]; simp [itemCells])
              clear hown1 hgrow1 hblk1 S3 hnx2 hszw
              go_wp2_with fail
              go_roundw
              case rel => exact ⟨k + 1, by omega, by go_num, HS5⟩
              case measure => simp [intOf]; omega
          · obtain rfl : k = its.length := by omega
            have HOUT : Hid (FifoPost w its (.returned (.tuple #[u6, u12, .nilIface])) wr) := by
              refine ⟨hS.out.row.fr.below, u6, u12, by rw [HCC.out]; rfl, ?_, ?_⟩
              · unfold setsA; rw [if_pos HCC.out]; exact hS.out.sets
              · unfold openA; rw [if_pos HCC.out]; exact hS.out.row.row
            clear hS hlt
            go_wp2_with fail
            go_ret3
            exact HOUT.out
  · have herr : errV c = .iface 96 (.int .i64 c) := by rw [errV, if_neg h0]
    rw [errPost_congr herr] at hck
    have HOUT : Hid (∀ wx, Below w.heap.size w wx → FifoPost w its (.returned (.tuple #[.slice none 0 0, .slice none 0 0, .iface 96 (.int .i64 c)])) wx) := fun wx hb => by
      have hne : ¬ itemsF its = 0 := by rw [hcc]; exact h0
      have e1 : setsA its = [] := by unfold setsA; rw [if_neg hne]
      have e2 : openA its = [] := by unfold openA; rw [if_neg hne]
      refine ⟨hb, .slice none 0 0, .slice none 0 0, by rw [hcc, herr], ?_, ?_⟩
      · rw [e1]; exact World.ownsRow_nil _ _ _ _
      · rw [e2]; exact World.ownsRow_nil _ _ _ _
    clear hcc h0 herr
    go_enter Tryd.func19, Tryd.ntmps19
    go_wp2_with fail
    refine hck.mono ?_
    rintro e w1 ⟨rfl, hb1⟩
    have H1 := HOUT.out w1 hb1
    have H2 := Lib.hid H1
    clear hck hb1 H1 HOUT
    go_wp2_with fail
    go_ret3
    exact H2.out
end Go.Proofs.YtbhndnjlplibmaaDoor.mt
