/- frame.Balances: the walk. -/
import Derived.Test.YtldpflijgbcbhaaDoorFbal
import Derived.Deep.RegionHeld3
namespace Go.Proofs.YtldpflijgbcbhaaDoor
open Go.RowKit

def balHead (t : List BalM) : List UInt8 := numB t.length

set_option maxRecDepth 100000 in
set_option maxHeartbeats 8000000 in
theorem bals_few (t : List BalM) (ao : Option Addr) (cap : Nat) (w : World) (hf : ∀ x ∈ t, x.fair) (hl : t.length ≤ 200) (hz : BalsAt w ao t) :
    Calls Tryd.prog 21 #[.slice ao t.length cap] w (EntPost w.heap.size w (balsB t) (firstOf (balCodes none t))) := by
  have hst := BalSt.start w
  have hd : decide ((200 : Int) < (t.length : Int)) = false := decide_eq_false (by omega)
  have n0 := numB_len (n := (t.length : Int)) (by omega) (by omega)
  have ht1 := wnum_any w.heap.size _ _ _ _ _ (t.length : Int) true hst.wr (by have := hst.size; omega) (by simp) (by omega) (by omega)
  rw [List.nil_append, mergeC_true] at ht1
  have HZ := Lib.hid hz
  have HST := Lib.hid hst
  have HF := Lib.hid hf
  clear hz hst hf
  go_enter Tryd.func21, Tryd.ntmps21
  go_wp2_with fail
  refine ht1.mono ?_
  rintro e w1 ⟨rfl, hs1, hw1⟩
  have HS1 : Hid (BalSt w w1 (numB t.length ++ (t.take 0).flatMap BalM.bytes) (firstOf (balCodes none (t.take 0)))) := by
    show BalSt _ _ _ _
    have e1 : numB (t.length : Int) ++ (t.take 0).flatMap BalM.bytes = numB (t.length : Int) := by simp
    rw [e1]
    exact ⟨HST.out.below.trans hs1.below, hw1⟩
  clear ht1 hs1 hw1 HST
  go_wp2_with fail
  go_loopw [16] (fun i wr => ∃ k : Nat, k ≤ t.length ∧ i = .int .i64 (k : Int) ∧ Hid (BalSt w wr (numB t.length ++ (t.take k).flatMap BalM.bytes) (firstOf (balCodes none (t.take k))))) (fun i _ => t.length - (intOf i).toNat)
  case atStart => exact ⟨0, Nat.zero_le _, rfl, HS1⟩
  case round =>
    clear HS1
    obtain ⟨k, hk, rfl, hR⟩ := hrel
    by_cases hlt : k < t.length
    · obtain ⟨b, off, rfl, hbl, hcell⟩ : ∃ b off, ao = some ⟨b, off, none⟩ ∧ b < w.heap.size ∧ ∀ (i : Nat) (x : BalM), t[i]? = some x →
          w.cell? ⟨b, off + i * 4, none⟩ = some (.int .i64 x.ent) ∧ w.cell? ⟨b, off + i * 4 + 1, none⟩ = some (.string x.acc) ∧ w.cell? ⟨b, off + i * 4 + 2, none⟩ = some (.string x.cur) ∧ w.cell? ⟨b, off + i * 4 + 3, none⟩ = some (.int .i64 x.amt) := by
        rcases HZ.out with h | h
        · rw [h] at hlt; simp at hlt
        · exact h
      obtain ⟨y, hy⟩ : ∃ y, y = t[k] := ⟨_, rfl⟩
      have hyk : t[k]? = some y := by rw [hy]; exact List.getElem?_eq_getElem hlt
      obtain ⟨g0, g1, g2, g3⟩ := hcell k y hyk
      have hbe : Below w.heap.size w wr := hR.out.below
      have c0 : wr.cell? ⟨b, off + k * 4, none⟩ = some (.int .i64 y.ent) := (hbe.cell (p := ⟨b, off + k * 4, none⟩) hbl).trans g0
      have c1 : wr.cell? ⟨b, off + k * 4 + 1, none⟩ = some (.string y.acc) := (hbe.cell (p := ⟨b, off + k * 4 + 1, none⟩) hbl).trans g1
      have c2 : wr.cell? ⟨b, off + k * 4 + 2, none⟩ = some (.string y.cur) := (hbe.cell (p := ⟨b, off + k * 4 + 2, none⟩) hbl).trans g2
      have c3 : wr.cell? ⟨b, off + k * 4 + 3, none⟩ = some (.int .i64 y.amt) := (hbe.cell (p := ⟨b, off + k * 4 + 3, none⟩) hbl).trans g3
      have hyf : y.fair := HF.out y (by rw [hy]; exact List.getElem_mem hlt)
      have HY := Lib.hid hyk
      have HC := Lib.hid hcell
      clear hy hyk g0 g1 g2 g3 hcell hbe
      have lst := LbSt.start (y := y) hR.out
      have hlen : (numB (t.length : Int) ++ (t.take k).flatMap BalM.bytes).length ≤ 900000000 := by
        have h1 := balsLen (t.take k) (fun z hz => HF.out z (List.mem_of_mem_take hz))
        have h2 : (t.take k).length ≤ 200 := by rw [List.length_take]; omega
        rw [List.length_append]
        omega
      obtain ⟨hy0, hy1, hy2, hy3, hy4⟩ := hyf
      have b0 := numB_len hy0.1 hy0.2
      have b1 := numB_len (n := (y.acc.size : Int)) (by omega) (by omega)
      have b2 := numB_len (n := (y.cur.size : Int)) (by omega) (by omega)
      have hend : Hid ((numB (t.length : Int) ++ (t.take (k + 1)).flatMap BalM.bytes) = (numB (t.length : Int) ++ (t.take k).flatMap BalM.bytes) ++ numB y.ent ++ textB y.acc ++ textB y.cur ++ numB y.amt ∧
          firstOf (balCodes none (t.take (k + 1))) = mergeC (mergeC (mergeC (mergeC (mergeC (firstOf (balCodes none (t.take k))) (numC (itemB y.ent))) (textC y.acc)) (textC y.cur)) (numC (amtB y.amt))) (ordC (prevB t k) y)) := by
        refine ⟨by rw [flat_succ _ HY.out]; simp [BalM.bytes, List.append_assoc], ?_⟩
        rw [balCodes_take HY.out, ← firstOf_snoc, ← firstOf_snoc, ← firstOf_snoc, ← firstOf_snoc, ← firstOf_snoc]
        simp [BalM.codes, List.append_assoc]
      generalize numB (t.length : Int) ++ (t.take k).flatMap BalM.bytes = P at *
      generalize firstOf (balCodes none (t.take k)) = C at *
      have m0 : (wr.alloc (.cells #[.int .i64 y.ent, .string y.acc, .string y.cur, .int .i64 y.amt] 106)).cell? ⟨wr.heap.size, 0, none⟩ = some (.int .i64 y.ent) := cell_of_heap lst.lbox 0
      obtain ⟨v0, hv0⟩ : ∃ v0, v0 = wr.alloc (.cells #[.int .i64 y.ent, .string y.acc, .string y.cur, .int .i64 y.amt] 106) := ⟨_, rfl⟩
      rw [← hv0] at lst m0
      have LST := Lib.hid lst
      have HV0 := Lib.hid hv0
      have hi1 : (k : Int) < (t.length : Int) := by omega
      have hi0 : (0 : Int) ≤ (k : Int) := by omega
      clear lst hv0
      go_wp2_with fail
      rw [← HV0.out]
      go_still_tail 5, (by kernel_rfl)
      still_call (item_any _ _)
      refine wpStill_nil ?_
      change wpList _ _ _ _ _ v0.drew
      have lt0 := LST.out.below' below_of_still
      generalize v0.drew = v1 at *
      have hc0 := wnum_any w.heap.size _ _ _ _ _ y.ent (itemB y.ent) lt0.wr lt0.le (by omega) hy0.1 hy0.2
      have LT0 := Lib.hid lt0
      clear lt0 LST m0 c0 c1 c2 c3
      go_wp2_with fail
      refine hc0.mono ?_
      rintro e v2 ⟨rfl, ks1, kw1⟩
      have lt1 := LT0.out.step ks1 kw1
      have m1 : v2.cell? ⟨wr.heap.size, 1, none⟩ = some (.string y.acc) := cell_of_heap lt1.lbox 1
      have hc1 := wtext_any w.heap.size _ _ _ _ _ y.acc lt1.wr lt1.le (by simp only [List.length_append]; omega) (by omega)
      have LT1 := Lib.hid lt1
      clear hc0 ks1 kw1 LT0 lt1
      go_wp2_with fail
      refine hc1.mono ?_
      rintro e v3 ⟨rfl, ks2, kw2⟩
      have lt2 := LT1.out.step ks2 kw2
      have m2 : v3.cell? ⟨wr.heap.size, 2, none⟩ = some (.string y.cur) := cell_of_heap lt2.lbox 2
      have hc2 := wtext_any w.heap.size _ _ _ _ _ y.cur lt2.wr lt2.le (by simp only [textB, List.length_append, size_list]; omega) (by omega)
      have LT2 := Lib.hid lt2
      clear hc1 ks2 kw2 LT1 lt2 m1
      go_wp2_with fail
      refine hc2.mono ?_
      rintro e v4 ⟨rfl, ks3, kw3⟩
      have lt3 := LT2.out.step ks3 kw3
      have m3 : v4.cell? ⟨wr.heap.size, 3, none⟩ = some (.int .i64 y.amt) := cell_of_heap lt3.lbox 3
      have LT3 := Lib.hid lt3
      clear hc2 ks3 kw3 LT2 lt3 m2
      go_wp2_with fail
      go_still_tail 5, (by kernel_rfl)
      still_call (amount_any _ _)
      refine wpStill_nil ?_
      change wpList _ _ _ _ _ v4.drew
      have lt4 := LT3.out.below' below_of_still
      generalize v4.drew = v5 at *
      have hc4 := wnum_any w.heap.size _ _ _ _ _ y.amt (amtB y.amt) lt4.wr lt4.le (by simp only [textB, List.length_append, size_list]; omega) hy3 hy4
      have LT4 := Lib.hid lt4
      clear lt4 LT3 m3
      go_wp2_with fail
      refine hc4.mono ?_
      rintro e v6 ⟨rfl, ks5, kw5⟩
      have LT5 := Lib.hid (LT4.out.step ks5 kw5)
      clear hc4 ks5 kw5 LT4 hR
      generalize mergeC (mergeC (mergeC (mergeC C (numC (itemB y.ent))) (textC y.acc)) (textC y.cur)) (numC (amtB y.amt)) = c5 at *
      generalize P ++ numB y.ent ++ textB y.acc ++ textB y.cur ++ numB y.amt = P5 at *
      obtain ⟨vv, hvv⟩ := LT5.out.wr
      have e1 : v6.cell? ⟨w.heap.size, 1, none⟩ = some (errV c5) := cell_of_heap hvv.self 1
      have fe1 : v6.frozen? ⟨w.heap.size, 1, none⟩ = false := free_of_heap hvv.self 1
      clear hvv
      by_cases h5 : c5 = 0
      · subst h5
        rw [errV_zero] at e1
        by_cases hk0 : k = 0
        · have dk : decide ((0 : Int) < (k : Int)) = false := decide_eq_false (by omega)
          have dkn : decide (0 < k) = false := decide_eq_false (by omega)
          have HN : ∀ n, Hid (BalSt w (v6.drewN n) (numB (t.length : Int) ++ (t.take (k + 1)).flatMap BalM.bytes) (firstOf (balCodes none (t.take (k + 1))))) := fun n => by
            show BalSt _ _ _ _
            rw [hend.out.1, hend.out.2, show mergeC 0 (ordC (prevB t k) y) = 0 by rw [prevB, if_pos hk0]; rfl]
            exact (LT5.out.below' (below_drewN (Below.refl _ _) n)).done
          clear hk0 hend
          go_wp2_with fail
          go_quiet (fail)
          go_wp2_with fail
          go_roundw
          case rel => exact ⟨k + 1, by omega, by go_num, HN _⟩
          case measure => simp [intOf]; omega
        · obtain ⟨m, rfl⟩ : ∃ m, k = m + 1 := ⟨k - 1, by omega⟩
          obtain ⟨z, hz⟩ : ∃ z, t[m]? = some z := ⟨t[m]'(by omega), List.getElem?_eq_getElem (by omega)⟩
          obtain ⟨z0, z1, z2, z3⟩ := HC.out m z hz
          have hbe : Below w.heap.size w v6 := LT5.out.below
          have a0 : v6.cell? ⟨b, off + m * 4, none⟩ = some (.int .i64 z.ent) := (hbe.cell (p := ⟨b, off + m * 4, none⟩) hbl).trans z0
          have a1 : v6.cell? ⟨b, off + m * 4 + 1, none⟩ = some (.string z.acc) := (hbe.cell (p := ⟨b, off + m * 4 + 1, none⟩) hbl).trans z1
          have a2 : v6.cell? ⟨b, off + m * 4 + 2, none⟩ = some (.string z.cur) := (hbe.cell (p := ⟨b, off + m * 4 + 2, none⟩) hbl).trans z2
          have a3 : v6.cell? ⟨b, off + m * 4 + 3, none⟩ = some (.int .i64 z.amt) := (hbe.cell (p := ⟨b, off + m * 4 + 3, none⟩) hbl).trans z3
          have q0 : v6.cell? ⟨wr.heap.size, 0, none⟩ = some (.int .i64 y.ent) := cell_of_heap LT5.out.lbox 0
          have q1 : v6.cell? ⟨wr.heap.size, 1, none⟩ = some (.string y.acc) := cell_of_heap LT5.out.lbox 1
          have q2 : v6.cell? ⟨wr.heap.size, 2, none⟩ = some (.string y.cur) := cell_of_heap LT5.out.lbox 2
          have q3 : v6.cell? ⟨wr.heap.size, 3, none⟩ = some (.int .i64 y.amt) := cell_of_heap LT5.out.lbox 3
          have hpv : prevB t (m + 1) = some z := by rw [prevB, if_neg (by omega)]; exact hz
          have hcm := compare_bal z y v6.drew
          have HPV := Lib.hid hpv
          have j0 : (0 : Int) ≤ (m : Int) := by omega
          have j1 : (m : Int) < (t.length : Int) := by omega
          have dk : decide ((0 : Int) < (m : Int) + 1) = true := decide_eq_true (by omega)
          unfold balV at hcm
          clear hz z0 z1 z2 z3 hbe hk0 hpv
          go_wp2_with fail
          have s0 : w.heap.size < v6.drew.heap.size := by have := LT5.out.size; show w.heap.size < v6.heap.size; omega
          have sb : b < v6.drew.heap.size := by show b < v6.heap.size; have : w.heap.size < v6.heap.size := s0; omega
          have sq : wr.heap.size < v6.drew.heap.size := LT5.out.size.2
          have KEEP : ∀ w9, Below v6.drew.heap.size v6.drew w9 → w9.cell? ⟨w.heap.size, 1, none⟩ = some .nilIface ∧ w9.cell? ⟨b, off + m * 4, none⟩ = some (.int .i64 z.ent) ∧ w9.cell? ⟨b, off + m * 4 + 1, none⟩ = some (.string z.acc) ∧ w9.cell? ⟨b, off + m * 4 + 2, none⟩ = some (.string z.cur) ∧ w9.cell? ⟨b, off + m * 4 + 3, none⟩ = some (.int .i64 z.amt) ∧
              w9.cell? ⟨wr.heap.size, 0, none⟩ = some (.int .i64 y.ent) ∧ w9.cell? ⟨wr.heap.size, 1, none⟩ = some (.string y.acc) ∧ w9.cell? ⟨wr.heap.size, 2, none⟩ = some (.string y.cur) ∧ w9.cell? ⟨wr.heap.size, 3, none⟩ = some (.int .i64 y.amt) := fun w9 hb =>
            ⟨(hb.cell (p := ⟨w.heap.size, 1, none⟩) s0).trans e1, (hb.cell (p := ⟨b, off + m * 4, none⟩) sb).trans a0, (hb.cell (p := ⟨b, off + m * 4 + 1, none⟩) sb).trans a1, (hb.cell (p := ⟨b, off + m * 4 + 2, none⟩) sb).trans a2, (hb.cell (p := ⟨b, off + m * 4 + 3, none⟩) sb).trans a3,
              (hb.cell (p := ⟨wr.heap.size, 0, none⟩) sq).trans q0, (hb.cell (p := ⟨wr.heap.size, 1, none⟩) sq).trans q1, (hb.cell (p := ⟨wr.heap.size, 2, none⟩) sq).trans q2, (hb.cell (p := ⟨wr.heap.size, 3, none⟩) sq).trans q3⟩
          have HKEEP := Lib.hid KEEP
          clear KEEP
          have hw1 : IntKind.i64.wrap ((m : Int) + 1 - 1) = (m : Int) := by rw [show (m : Int) + 1 - 1 = (m : Int) by omega]; exact IntWalk.i64_in _ (by omega)
          have hw2 : IntKind.i64.wrap (((m + 1 : Nat) : Int) - 1) = (m : Int) := by rw [show ((m + 1 : Nat) : Int) - 1 = (m : Int) by omega]; exact IntWalk.i64_in _ (by omega)
          have hw3 : IntKind.i64.wrap (m : Int) = (m : Int) := IntWalk.i64_in _ (by omega)
          go_region_held3 (fun w' => w'.cell? ⟨w.heap.size, 1, none⟩ = some .nilIface ∧ w'.cell? ⟨b, off + m * 4, none⟩ = some (.int .i64 z.ent) ∧ w'.cell? ⟨b, off + m * 4 + 1, none⟩ = some (.string z.acc) ∧ w'.cell? ⟨b, off + m * 4 + 2, none⟩ = some (.string z.cur) ∧ w'.cell? ⟨b, off + m * 4 + 3, none⟩ = some (.int .i64 z.amt) ∧
              w'.cell? ⟨wr.heap.size, 0, none⟩ = some (.int .i64 y.ent) ∧ w'.cell? ⟨wr.heap.size, 1, none⟩ = some (.string y.acc) ∧ w'.cell? ⟨wr.heap.size, 2, none⟩ = some (.string y.cur) ∧ w'.cell? ⟨wr.heap.size, 3, none⟩ = some (.int .i64 y.amt))
            (first | exact HKEEP.out _ hb9 | exact ⟨e1, a0, a1, a2, a3, q0, q1, q2, q3⟩ | go_keep)
            (first
              | (go_at_call 61; refine hcm.mono ?_; rintro e w9 ⟨rfl, hb9⟩))
          have LT9 := Lib.hid (LT5.out.below' (below_of_still.trans (hb9.mono (Nat.le_refl _))))
          have e9 := (HKEEP.out w9 hb9).1
          have fe9 : w9.frozen? ⟨w.heap.size, 1, none⟩ = false := by
            obtain ⟨v9, hv9⟩ := LT9.out.wr
            exact free_of_heap hv9.self 1
          clear hw1 hw2 hw3 hcm HKEEP a0 a1 a2 a3 q0 q1 q2 q3 s0 sb sq hb9 fe1 e1
          by_cases hcc : balCmp z y < 0
          · have dcc : decide (0 ≤ balCmp z y) = false := decide_eq_false (by omega)
            have HN : Hid (BalSt w w9 (numB (t.length : Int) ++ (t.take (m + 1 + 1)).flatMap BalM.bytes) (firstOf (balCodes none (t.take (m + 1 + 1))))) := by
              show BalSt _ _ _ _
              have ho : mergeC 0 (ordC (prevB t (m + 1)) y) = 0 := by
                rw [HPV.out]
                unfold mergeC ordC rise
                rw [if_pos rfl, if_pos (decide_eq_true hcc)]
              rw [hend.out.1, hend.out.2, ho]
              exact LT9.out.done
            clear hend LT9
            go_wp2_with fail
            go_roundw
            case rel => exact ⟨m + 1 + 1, by omega, by go_num, HN⟩
            case measure => simp [intOf]; omega
          · have dcc : decide (0 ≤ balCmp z y) = true := decide_eq_true (by omega)
            have HN : Hid (BalSt w (w9.setCell ⟨w.heap.size, 1, none⟩ (.iface 102 (.int .i64 5))) (numB (t.length : Int) ++ (t.take (m + 1 + 1)).flatMap BalM.bytes) (firstOf (balCodes none (t.take (m + 1 + 1))))) := by
              show BalSt _ _ _ _
              have ho : mergeC 0 (ordC (prevB t (m + 1)) y) = 5 := by
                rw [HPV.out]
                unfold mergeC ordC rise
                rw [if_pos rfl, if_neg (by simpa using hcc)]
              rw [hend.out.1, hend.out.2, ho]
              have := (LT9.out.setErr 5).done
              rwa [errV_some (show (5 : Int) ≠ 0 by omega)] at this
            have hge : 0 ≤ balCmp z y := by omega
            clear hend LT9 hcc
            go_wp2_with fail
            go_roundw
            case rel => exact ⟨m + 1 + 1, by omega, by go_num, HN⟩
            case measure => simp [intOf]; omega
      · rw [errV_some h5] at e1
        have HN : ∀ n, Hid (BalSt w (v6.drewN n) (numB (t.length : Int) ++ (t.take (k + 1)).flatMap BalM.bytes) (firstOf (balCodes none (t.take (k + 1))))) := fun n => by
          show BalSt _ _ _ _
          rw [hend.out.1, hend.out.2, show mergeC c5 (ordC (prevB t k) y) = c5 by rw [mergeC, if_neg h5]]
          exact (LT5.out.below' (below_drewN (Below.refl _ _) n)).done
        clear h5 hend
        go_wp2_with fail
        go_quiet (fail)
        go_wp2_with fail
        go_roundw
        case rel => exact ⟨k + 1, by omega, by go_num, HN _⟩
        case measure => simp [intOf]; omega
    · obtain rfl : k = t.length := by omega
      have HE : Hid (BalSt w wr (balsB t) (firstOf (balCodes none t))) := by
        have h := hR.out
        rw [List.take_length] at h
        exact h
      obtain ⟨v, hv⟩ := HE.out.wr
      have hdn := wdone_any _ _ _ _ _ _ _ hv
      have HV := Lib.hid hv
      clear hR hv
      generalize hC : firstOf (balCodes none t) = C at *
      have HCC := Lib.hid hC
      clear hC
      go_wp2_with fail
      refine hdn.mono ?_
      rintro e w9 ⟨rfl, nn, rfl⟩
      clear hdn
      have HOUT : Hid (EntPost w.heap.size w (balsB t) C (.returned (.tuple #[if C = 0 then v else .slice none 0 0, errV C])) (wr.drewN nn)) :=
        ⟨v, rfl, below_drewN HE.out.below _, fun _ => HV.out.own⟩
      generalize (if C = 0 then v else .slice none 0 0) = r at *
      generalize errV C = ev at *
      go_wp2_with fail
      go_ret2
      exact HOUT.out

set_option maxRecDepth 100000 in
set_option maxHeartbeats 2000000 in
theorem bals_many (t : List BalM) (ao : Option Addr) (cap : Nat) (w : World) (hl : 200 < t.length) (hm : t.length ≤ 9223372036854775807) :
    Calls Tryd.prog 21 #[.slice ao t.length cap] w (EntPost w.heap.size w (balsB t) 4) := by
  have hd : decide ((200 : Int) < (t.length : Int)) = true := decide_eq_true (by omega)
  go_enter Tryd.func21, Tryd.ntmps21
  go_wp2_with fail
  go_ret2
  exact ⟨.slice none 0 0, rfl, Below.refl _ _, fun h => by cases h⟩
theorem bals_any (t : List BalM) (ao : Option Addr) (cap : Nat) (w : World) (hf : ∀ x ∈ t, x.fair) (hm : t.length ≤ 9223372036854775807) (hz : BalsAt w ao t) :
    Calls Tryd.prog 21 #[.slice ao t.length cap] w (EntPost w.heap.size w (balsB t) (balsCode t)) := by
  unfold balsCode
  by_cases h : 200 < t.length
  · rw [if_pos h]; exact bals_many t ao cap w h hm
  · rw [if_neg h]; exact bals_few t ao cap w hf (by omega) hz
end Go.Proofs.YtldpflijgbcbhaaDoor
