/- dayref2.Balances: the bytes of balances, or their first fault. -/
import Derived.Test.YtldpflijgbcbhaaDoorSent
import Derived.Test.YtldpflijgbcbhaaDoorAhead
import Derived.Deep.RegionHeld3
import Derived.Deep.DeepCutAuto
namespace Go.Proofs.YtldpflijgbcbhaaDoor
open Go.RowKit

def bBoxW (y : BalM) : Obj := .cells #[.int .i64 y.ent, .string y.acc, .string y.cur, .int .i64 y.amt] 106 (0, 0)

set_option maxRecDepth 100000 in
set_option maxHeartbeats 8000000 in
theorem sbals_few (t : List BalM) (ao : Option Addr) (cap : Nat) (w : World) (hf : ∀ x ∈ t, x.fair) (hl : t.length ≤ 200) (hz : BalsAt w ao t) :
    Calls Tryd.prog 20 #[.slice ao t.length cap] w (SEntPost w.heap.size w (balsB t) (firstOf (balCodes none t))) := by
  have hd : decide ((200 : Int) < (t.length : Int)) = false := decide_eq_false (by omega)
  have hn0 := numB_len (n := (t.length : Int)) (by omega) (by omega)
  have st0 : RowSt w [] 5 1 (.slice none 0 0) 0 [] w := RowSt.start (Fr.nil w)
  have ht0 := snum_any w.heap.size (.slice none 0 0) [] (t.length : Int) w st0.row (Nat.le_refl _) (by simp) (by omega) (by omega)
  rw [List.nil_append] at ht0
  have S0 := Lib.hid st0
  have HF := Lib.hid hf
  have HZ := Lib.hid hz
  clear hf hz st0
  go_enter Tryd.func20, Tryd.ntmps20
  go_wp2_with fail
  refine ht0.mono ?_
  rintro e w1 ⟨v1, rfl, hown1, hm1⟩
  have S1 : Hid (RowSt w [] 5 1 v1 (numB (t.length : Int) ++ (t.take 0).flatMap BalM.bytes).length ((numB (t.length : Int) ++ (t.take 0).flatMap BalM.bytes).map byteV) w1) := by
    have e1 : numB (t.length : Int) ++ (t.take 0).flatMap BalM.bytes = numB (t.length : Int) := by simp
    show RowSt _ _ _ _ _ _ _ _
    rw [e1]; exact S0.out.moved hown1 hm1
  have HC0 : Hid (firstOf (balCodes none (t.take 0)) = 0) := rfl
  clear ht0 hown1 hm1 S0
  go_wp2_with fail
  go_loopw [4, 5] (fun b i wr => ∃ k : Nat, k ≤ t.length ∧ i = .int .i64 (k : Int) ∧ Hid (RowSt w [] 5 1 b (numB (t.length : Int) ++ (t.take k).flatMap BalM.bytes).length ((numB (t.length : Int) ++ (t.take k).flatMap BalM.bytes).map byteV) wr) ∧ Hid (firstOf (balCodes none (t.take k)) = 0)) (fun _ i _ => t.length - (intOf i).toNat)
  case atStart => exact ⟨0, Nat.zero_le _, rfl, S1, HC0⟩
  case round =>
    clear S1 HC0
    obtain ⟨k, hk, rfl, hR, hC⟩ := hrel
    by_cases hlt : k < t.length
    · obtain ⟨b, off, rfl, hbl, hcell⟩ : ∃ b off, ao = some ⟨b, off, none⟩ ∧ b < w.heap.size ∧ ∀ (i : Nat) (x : BalM), t[i]? = some x →
          w.cell? ⟨b, off + i * 4, none⟩ = some (.int .i64 x.ent) ∧ w.cell? ⟨b, off + i * 4 + 1, none⟩ = some (.string x.acc) ∧ w.cell? ⟨b, off + i * 4 + 2, none⟩ = some (.string x.cur) ∧ w.cell? ⟨b, off + i * 4 + 3, none⟩ = some (.int .i64 x.amt) := by
        rcases HZ.out with h | h
        · rw [h] at hlt; simp at hlt
        · exact h
      obtain ⟨y, hy⟩ : ∃ y, y = t[k] := ⟨_, rfl⟩
      have hyk : t[k]? = some y := by rw [hy]; exact List.getElem?_eq_getElem hlt
      obtain ⟨g0, g1, g2, g3⟩ := hcell k y hyk
      have c0 : wr.cell? ⟨b, off + k * 4, none⟩ = some (.int .i64 y.ent) := (hR.out.fr.old hbl _).trans g0
      have c1 : wr.cell? ⟨b, off + k * 4 + 1, none⟩ = some (.string y.acc) := (hR.out.fr.old hbl _).trans g1
      have c2 : wr.cell? ⟨b, off + k * 4 + 2, none⟩ = some (.string y.cur) := (hR.out.fr.old hbl _).trans g2
      have c3 : wr.cell? ⟨b, off + k * 4 + 3, none⟩ = some (.int .i64 y.amt) := (hR.out.fr.old hbl _).trans g3
      have hyf : y.fair := HF.out y (by rw [hy]; exact List.getElem_mem hlt)
      obtain ⟨hy0, hy1, hy2, hy3, hy4⟩ := hyf
      have hcode := bal_code (prevB t k) y
      have HY := Lib.hid hyk
      have HCELL := Lib.hid hcell
      have hltI : (k : Int) < (t.length : Int) := by omega
      have hk0 : (0 : Int) ≤ (k : Int) := by omega
      clear hy hyk g0 g1 g2 g3 hcell
      obtain ⟨q, hq⟩ : ∃ q, q = wr.heap.size := ⟨_, rfl⟩
      have hqB : w.heap.size ≤ q := by rw [hq]; exact hR.out.fr.below.size
      obtain ⟨V0, hV0⟩ : ∃ V0, V0 = wr.alloc (.cells #[.int .i64 y.ent, .string y.acc, .string y.cur, .int .i64 y.amt] 106) := ⟨_, rfl⟩
      have st0 : RowSt w [(q, bBoxW y)] 5 1 u4 (numB (t.length : Int) ++ (t.take k).flatMap BalM.bytes).length ((numB (t.length : Int) ++ (t.take k).flatMap BalM.bytes).map byteV) V0 := by
        rw [hV0]; exact hR.out.newAt hq.symm _
      have HQ := Lib.hid hq
      have HV0 := Lib.hid hV0
      clear hq hV0 hR
      have hbad : ∀ (d : Int), firstOf (y.codes (prevB t k)) = d → d ≠ 0 → Hid (SEntPost w.heap.size w (balsB t) (firstOf (balCodes none t)) (.returned (.tuple #[.slice none 0 0, .int .i64 d])) V0) := fun d h1 h2 =>
        sent_bad st0.fr.below ((bal_stop HY.out hC.out (by rw [h1]; exact h2)).trans h1) h2
      cases hit : itemB y.ent with
      | false =>
        rw [if_pos hit] at hcode
        have HOUT := hbad 1 hcode (by decide)
        have hcase : decide (y.ent < 0) = true ∨ (decide (y.ent < 0) = false ∧ decide (200 < y.ent) = true) := by unfold itemB at hit; simp at hit ⊢; omega
        clear st0 hC hcode hbad hit
        rcases hcase with h1 | ⟨h1, h2⟩
        all_goals
          go_wp2_with fail
          go_ret2
          rw [← HV0.out]
          exact HOUT.out
      | true =>
        rw [if_neg (by rw [hit]; decide)] at hcode
        obtain ⟨h1, h2⟩ : decide (y.ent < 0) = false ∧ decide (200 < y.ent) = false := by unfold itemB at hit; simp at hit ⊢; omega
        by_cases hbig : 24 < y.acc.size ∨ 24 < y.cur.size
        · rw [if_pos hbig] at hcode
          have HOUT := hbad 4 hcode (by decide)
          clear st0 hC hcode hbad hit
          by_cases hb1 : 24 < y.acc.size
          · have p1 : decide ((24 : Int) < (y.acc.size : Int)) = true := decide_eq_true (by omega)
            go_wp2_with fail
            go_ret2
            rw [← HV0.out]
            exact HOUT.out
          · have p1 : decide ((24 : Int) < (y.acc.size : Int)) = false := decide_eq_false (by omega)
            have p2 : decide ((24 : Int) < (y.cur.size : Int)) = true := decide_eq_true (by omega)
            go_wp2_with fail
            go_ret2
            rw [← HV0.out]
            exact HOUT.out
        · rw [if_neg hbig] at hcode
          have p1 : decide ((24 : Int) < (y.acc.size : Int)) = false := decide_eq_false (by omega)
          have p2 : decide ((24 : Int) < (y.cur.size : Int)) = false := decide_eq_false (by omega)
          have hra := ramount_any y.amt
          cases hamt : amtB y.amt with
          | false =>
            rw [hamt] at hra
            rw [if_pos hamt] at hcode
            have HOUT := hbad 1 hcode (by decide)
            clear st0 hC hcode hbad hit hamt
            go_wp2_with fail
            refine (hra _).mono ?_
            rintro e w' ⟨rfl, rfl⟩
            clear hra
            go_wp2_with fail
            go_ret2
            rw [← HV0.out]
            exact HOUT.out
          | true =>
            rw [hamt] at hra
            rw [if_neg (by rw [hamt]; decide)] at hcode
            have HCODE := Lib.hid hcode
            have HBAD := Lib.hid hbad
            have hlen : (numB (t.length : Int) ++ (t.take k).flatMap BalM.bytes).length ≤ 900000000 := by
              have e1 := balsLen (t.take k) (fun z hz => HF.out z (List.mem_of_mem_take hz))
              have e2 : (t.take k).length ≤ 200 := by rw [List.length_take]; omega
              rw [List.length_append]; omega
            have hend : Hid ((numB (t.length : Int) ++ (t.take (k + 1)).flatMap BalM.bytes) = (numB (t.length : Int) ++ (t.take k).flatMap BalM.bytes) ++ numB y.ent ++ textB y.acc ++ textB y.cur ++ numB y.amt) := by
              show _ = _
              rw [flat_succ _ HY.out]; simp [BalM.bytes, List.append_assoc]
            generalize numB (t.length : Int) ++ (t.take k).flatMap BalM.bytes = P at *
            have z0 : V0.cell? ⟨q, 0, none⟩ = some (.int .i64 y.ent) := cell_of_heap st0.fr.hd 0
            have z1 : V0.cell? ⟨q, 1, none⟩ = some (.string y.acc) := cell_of_heap st0.fr.hd 1
            have z2 : V0.cell? ⟨q, 2, none⟩ = some (.string y.cur) := cell_of_heap st0.fr.hd 2
            have z3 : V0.cell? ⟨q, 3, none⟩ = some (.int .i64 y.amt) := cell_of_heap st0.fr.hd 3
            have S0 := Lib.hid st0
            clear st0 hcode hbad hit hamt hn0
            go_wp2_with fail
            rw [← HQ.out, ← HV0.out]
            refine (hra _).mono ?_
            rintro e w' ⟨rfl, rfl⟩
            clear hra
            go_upto_region 15 with fail
            go_cut [58] (fun c wx => c = .bool (!rise balCmp (prevB t k) y) ∧ Hid (RowSt w [(q, bBoxW y)] 5 1 u4 P.length (P.map byteV) wx))
            case first =>
              clear hend HCODE HBAD hC hlen
              by_cases hk00 : k = 0
              · have dk : decide ((0 : Int) < (k : Int)) = false := decide_eq_false (by omega)
                have dkn : decide (0 < k) = false := decide_eq_false (by omega)
                have HR : Hid (rise balCmp (prevB t k) y = true) := by
                  show _ = _
                  rw [hk00]; rfl
                have HS := fun n => Lib.hid (show RowSt w [(q, bBoxW y)] 5 1 u4 P.length (P.map byteV) (V0.drewN n) from S0.out.later (below_drewN (Below.refl _ _) n))
                clear hk00 S0 c0 c1 c2 c3
                go_quiet (fail)
                go_wp2_with fail
                go_meet
                exact ⟨by rw [HR.out]; rfl, HS _⟩
              · obtain ⟨m, hm⟩ : ∃ m, k = m + 1 := ⟨k - 1, by omega⟩
                obtain ⟨z, hz⟩ : ∃ z, t[m]? = some z := ⟨t[m]'(by omega), List.getElem?_eq_getElem (by omega)⟩
                have HR : Hid (rise balCmp (prevB t k) y = decide (balCmp z y < 0)) := by
                  show _ = _
                  unfold prevB
                  rw [if_neg hk00, show k - 1 = m by omega, hz]; rfl
                obtain ⟨a0', a1', a2', a3'⟩ := HCELL.out m z hz
                have hbq : b < V0.heap.size := Nat.lt_of_lt_of_le hbl S0.out.fr.below.size
                have a0 : V0.cell? ⟨b, off + m * 4, none⟩ = some (.int .i64 z.ent) := (S0.out.fr.old hbl _).trans a0'
                have a1 : V0.cell? ⟨b, off + m * 4 + 1, none⟩ = some (.string z.acc) := (S0.out.fr.old hbl _).trans a1'
                have a2 : V0.cell? ⟨b, off + m * 4 + 2, none⟩ = some (.string z.cur) := (S0.out.fr.old hbl _).trans a2'
                have a3 : V0.cell? ⟨b, off + m * 4 + 3, none⟩ = some (.int .i64 z.amt) := (S0.out.fr.old hbl _).trans a3'
                have hcm := ahead_any z y V0.drew
                unfold balV at hcm
                have sb : b < V0.drew.heap.size := hbq
                have sq : q < V0.drew.heap.size := S0.out.fr.lt (List.mem_cons_self ..)
                have KEEP : ∀ w9, Below V0.drew.heap.size V0.drew w9 → w9.cell? ⟨b, off + m * 4, none⟩ = some (.int .i64 z.ent) ∧ w9.cell? ⟨b, off + m * 4 + 1, none⟩ = some (.string z.acc) ∧ w9.cell? ⟨b, off + m * 4 + 2, none⟩ = some (.string z.cur) ∧ w9.cell? ⟨b, off + m * 4 + 3, none⟩ = some (.int .i64 z.amt) ∧
                    w9.cell? ⟨q, 0, none⟩ = some (.int .i64 y.ent) ∧ w9.cell? ⟨q, 1, none⟩ = some (.string y.acc) ∧ w9.cell? ⟨q, 2, none⟩ = some (.string y.cur) ∧ w9.cell? ⟨q, 3, none⟩ = some (.int .i64 y.amt) := fun w9 hb =>
                  ⟨(hb.cell (p := ⟨b, off + m * 4, none⟩) sb).trans a0, (hb.cell (p := ⟨b, off + m * 4 + 1, none⟩) sb).trans a1, (hb.cell (p := ⟨b, off + m * 4 + 2, none⟩) sb).trans a2, (hb.cell (p := ⟨b, off + m * 4 + 3, none⟩) sb).trans a3,
                    (hb.cell (p := ⟨q, 0, none⟩) sq).trans z0, (hb.cell (p := ⟨q, 1, none⟩) sq).trans z1, (hb.cell (p := ⟨q, 2, none⟩) sq).trans z2, (hb.cell (p := ⟨q, 3, none⟩) sq).trans z3⟩
                have HKEEP := Lib.hid KEEP
                have d0 : decide ((0 : Int) < (k : Int)) = true := decide_eq_true (by omega)
                have d0n : decide (0 < k) = true := decide_eq_true (by omega)
                have hw1 : IntKind.i64.wrap ((k : Int) - 1) = (m : Int) := by rw [show (k : Int) - 1 = (m : Int) by omega]; exact IntWalk.i64_in _ (by omega)
                have hw2 : (k : Int) - 1 = (m : Int) := by omega
                have hw3 : IntKind.i64.wrap (m : Int) = (m : Int) := IntWalk.i64_in _ (by omega)
                have j0 : (0 : Int) ≤ (m : Int) := by omega
                have j1 : (m : Int) < (t.length : Int) := by omega
                clear KEEP hz hm hk00 a0' a1' a2' a3' c0 c1 c2 c3 hbq
                go_region_held3 (fun w' => w'.cell? ⟨b, off + m * 4, none⟩ = some (.int .i64 z.ent) ∧ w'.cell? ⟨b, off + m * 4 + 1, none⟩ = some (.string z.acc) ∧ w'.cell? ⟨b, off + m * 4 + 2, none⟩ = some (.string z.cur) ∧ w'.cell? ⟨b, off + m * 4 + 3, none⟩ = some (.int .i64 z.amt) ∧
                    w'.cell? ⟨q, 0, none⟩ = some (.int .i64 y.ent) ∧ w'.cell? ⟨q, 1, none⟩ = some (.string y.acc) ∧ w'.cell? ⟨q, 2, none⟩ = some (.string y.cur) ∧ w'.cell? ⟨q, 3, none⟩ = some (.int .i64 y.amt))
                  (first | exact HKEEP.out _ hb9 | exact ⟨a0, a1, a2, a3, z0, z1, z2, z3⟩ | go_keep)
                  (first
                    | (go_at_call 60; refine hcm.mono ?_; rintro e w9 ⟨rfl, hb9⟩))
                have SX : Hid (RowSt w [(q, bBoxW y)] 5 1 u4 P.length (P.map byteV) w9) := S0.out.later (below_of_still.trans (hb9.mono (Nat.le_refl _)))
                clear hw1 hw2 hw3 hcm HKEEP a0 a1 a2 a3 z0 z1 z2 z3 sb sq hb9 S0 j0 j1 d0 d0n
                go_wp2_with fail
                go_meet
                exact ⟨by rw [HR.out], SX⟩
            case rest =>
              obtain ⟨rfl, hS⟩ := hcut
              clear S0 z0 z1 z2 z3 c0 c1 c2 c3
              cases hr : rise balCmp (prevB t k) y with
              | false =>
                have hoc : ordC (prevB t k) y = 5 := by unfold ordC; rw [hr]; rfl
                have HOUT : Hid (SEntPost w.heap.size w (balsB t) (firstOf (balCodes none t)) (.returned (.tuple #[.slice none 0 0, .int .i64 5])) wc) :=
                  sent_bad hS.out.fr.below ((bal_stop HY.out hC.out (by rw [HCODE.out, hoc]; decide)).trans (HCODE.out.trans hoc)) (by decide)
                clear hr hoc hS hC HCODE HBAD
                rw [Bool.not_false]
                go_wp2_with fail
                go_ret2
                exact HOUT.out
              | true =>
                have hoc : ordC (prevB t k) y = 0 := by unfold ordC; rw [hr]; rfl
                have HN := Lib.hid (bal_next HY.out hC.out (by rw [HCODE.out]; exact hoc))
                clear hr hoc hC HCODE HBAD
                have n0 := numB_len (n := y.ent) (by omega) (by omega)
                have n1 := numB_len (n := (y.acc.size : Int)) (by omega) (by omega)
                have n2 := numB_len (n := (y.cur.size : Int)) (by omega) (by omega)
                have m3 : (textB y.acc).length ≤ 34 := by simp only [textB, List.length_append, size_list]; omega
                have m4 : (textB y.cur).length ≤ 34 := by simp only [textB, List.length_append, size_list]; omega
                have x0 : wc.cell? ⟨q, 0, none⟩ = some (.int .i64 y.ent) := cell_of_heap hS.out.fr.hd 0
                have hc0 := snum_any w.heap.size u4 P y.ent wc hS.out.row hS.out.fr.below.size (by omega) (by omega) (by omega)
                rw [Bool.not_true]
                go_wp2_with fail
                refine hc0.mono ?_
                rintro e w5 ⟨v5, rfl, hown5, hm5⟩
                have st5 := hS.out.moved hown5 hm5
                have hc1 := stext_any w.heap.size v5 (P ++ numB y.ent) y.acc _ st5.row st5.fr.below.size (by simp only [List.length_append]; omega) (by omega)
                have x1 : w5.cell? ⟨q, 1, none⟩ = some (.string y.acc) := cell_of_heap st5.fr.hd 1
                have S5 := Lib.hid st5
                clear hc0 hown5 hm5 st5 hS x0
                go_wp2_with fail
                refine hc1.mono ?_
                rintro e w6 ⟨v6, rfl, hown6, hm6⟩
                have st6 := S5.out.moved hown6 hm6
                have hc2 := stext_any w.heap.size v6 (P ++ numB y.ent ++ textB y.acc) y.cur _ st6.row st6.fr.below.size (by simp only [List.length_append]; omega) (by omega)
                have x2 : w6.cell? ⟨q, 2, none⟩ = some (.string y.cur) := cell_of_heap st6.fr.hd 2
                have S6 := Lib.hid st6
                clear hc1 hown6 hm6 st6 S5 x1
                go_wp2_with fail
                refine hc2.mono ?_
                rintro e w7 ⟨v7, rfl, hown7, hm7⟩
                have st7 := S6.out.moved hown7 hm7
                have hc3 := snum_any w.heap.size v7 (P ++ numB y.ent ++ textB y.acc ++ textB y.cur) y.amt _ st7.row st7.fr.below.size (by simp only [List.length_append]; omega) hy3 hy4
                have x3 : w7.cell? ⟨q, 3, none⟩ = some (.int .i64 y.amt) := cell_of_heap st7.fr.hd 3
                have S7 := Lib.hid st7
                clear hc2 hown7 hm7 st7 S6 x2
                go_wp2_with fail
                refine hc3.mono ?_
                rintro e w8 ⟨v8, rfl, hown8, hm8⟩
                have st8 := S7.out.moved hown8 hm8
                have S8 : Hid (RowSt w [] 5 1 v8 (numB (t.length : Int) ++ (t.take (k + 1)).flatMap BalM.bytes).length ((numB (t.length : Int) ++ (t.take (k + 1)).flatMap BalM.bytes).map byteV) w8) := by
                  show RowSt _ _ _ _ _ _ _ _
                  rw [hend.out]; exact st8.sub (fun p hp => by cases hp)
                clear hc3 hown8 hm8 st8 S7 x3
                go_wp2_with fail
                go_roundw
                case rel => exact ⟨k + 1, by omega, by go_num, S8, HN⟩
                case measure => simp [intOf]; omega
    · obtain rfl : k = t.length := by omega
      have HOUT : Hid (SEntPost w.heap.size w (balsB t) (firstOf (balCodes none t)) (.returned (.tuple #[u4, .int .i64 0])) wr) := by
        have h := hR.out
        have hc := hC.out
        rw [List.take_length] at h hc
        exact ⟨u4, by rw [hc, if_pos rfl], h.fr.below, fun _ => h.row⟩
      obtain ⟨aa, n1, cc1, rfl⟩ : ∃ ao n1 c1, u4 = .slice ao n1 c1 := ownsRow_form hR.out.row
      clear hR hC
      go_wp2_with fail
      go_ret2
      exact HOUT.out

set_option maxRecDepth 100000 in
set_option maxHeartbeats 2000000 in
theorem sbals_many (t : List BalM) (ao : Option Addr) (cap : Nat) (w : World) (hl : 200 < t.length) (hm : t.length ≤ 9223372036854775807) :
    Calls Tryd.prog 20 #[.slice ao t.length cap] w (SEntPost w.heap.size w (balsB t) 4) := by
  have hd : decide ((200 : Int) < (t.length : Int)) = true := decide_eq_true (by omega)
  go_enter Tryd.func20, Tryd.ntmps20
  go_wp2_with fail
  go_ret2
  exact ⟨.slice none 0 0, rfl, Below.refl _ _, fun h => by cases h⟩
theorem sbals_any (t : List BalM) (ao : Option Addr) (cap : Nat) (w : World) (hf : ∀ x ∈ t, x.fair) (hm : t.length ≤ 9223372036854775807) (hz : BalsAt w ao t) :
    Calls Tryd.prog 20 #[.slice ao t.length cap] w (SEntPost w.heap.size w (balsB t) (balsCode t)) := by
  unfold balsCode
  by_cases h : 200 < t.length
  · rw [if_pos h]; exact sbals_many t ao cap w h hm
  · rw [if_neg h]; exact sbals_few t ao cap w hf (by omega) hz
end Go.Proofs.YtldpflijgbcbhaaDoor
