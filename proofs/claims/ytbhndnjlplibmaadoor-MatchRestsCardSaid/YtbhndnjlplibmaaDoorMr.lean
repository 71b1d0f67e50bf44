/- MatchRests: what is open is what is not paid. -/
import Derived.Test.YtbhndnjlplibmaaDoorMrM
import Derived.Test.YtbhndnjlplibmaaDoorIt7
import Derived.Test.YtbhndnjlplibmaaDoorIt8
namespace Go.Proofs.YtbhndnjlplibmaaDoor.mt
open Go.RowKit

def mrFact : List ItemM := [⟨⟨#[97]⟩, 1, 5⟩, ⟨⟨#[98]⟩, 2, -3⟩]
theorem mrFact_items : itemsF mrFact = 0 := by decide +kernel
theorem mrFact_open : (openA mrFact).length = 1 ∧ ((openA mrFact).getD 0 default).amt = 2 := by decide +kernel

set_option maxRecDepth 100000 in
set_option maxHeartbeats 8000000 in
theorem walk_rests (hf : FifoAll) (ao : Option Addr) (cap : Nat) (its : List ItemM) (w : World) (hh : ItemsAt w.heap.size w ao its) (hm : its.length ≤ 9223372036854775807) :
    Calls Tryd.prog 5 #[.slice ao its.length cap] w fun e w' => e = .returned (.bool true) ∧ Below w.heap.size w w' := by
  obtain ⟨wa, hwa⟩ : ∃ wa, wa = w.alloc (.cells #[.string ⟨#[97]⟩, .int .i64 1, .int .i64 5, .string ⟨#[98]⟩, .int .i64 2, .int .i64 (-3)] 40) := ⟨_, rfl⟩
  have hba : Below w.heap.size w wa := by rw [hwa]; exact (Below.refl _ _).alloc (Nat.le_refl _) _
  have hia : ItemsAt wa.heap.size wa (some ⟨w.heap.size, 0, none⟩) mrFact := by
    refine Or.inr ⟨w.heap.size, 0, rfl, by rw [hwa]; simp, fun i x hx => ?_⟩
    subst hwa
    match i, hx with
    | 0, hx | 1, hx => simp only [mrFact, List.getElem?_cons_zero, List.getElem?_cons_succ, Option.some.injEq] at hx; subst hx; exact ⟨by simp, by simp, by simp⟩
    | n + 2, hx => simp [mrFact] at hx
  have hc1 := hf (some ⟨w.heap.size, 0, none⟩) 2 mrFact wa hia (by decide)
  have HH := Lib.hid hh
  have HF := Lib.hid hf
  have HA := Lib.hid hba
  have HWA := Lib.hid hwa
  clear hh hf hba hwa hia
  go_enter Tryd.func5, Tryd.ntmps5
  go_wp2_with fail
  rw [← HWA.out]
  refine hc1.mono ?_
  intro e w1 hp
  obtain ⟨hb1, sv, ov, rfl, hs1, ho1⟩ := hp
  obtain ⟨sa, sc, hsv, _, _⟩ := row_sets hs1
  obtain ⟨oa, oc, hov, hoa, _⟩ := row_items ho1
  rw [hsv, hov, mrFact_items, errV_zero, mrFact_open.1]
  obtain ⟨g, og, rfl, hg, hcs⟩ := hoa.resolve_left (fun e => by have := mrFact_open.1; rw [e] at this; cases this)
  obtain ⟨_, _, s2⟩ := hcs 0 _ (getD_get (by rw [mrFact_open.1]; decide))
  rw [mrFact_open.2, Nat.zero_mul, Nat.add_zero] at s2
  have s2' : w1.cell? ⟨g, og + 2, none⟩ = some (.int .i64 2) := s2
  have HB1 := Lib.hid (HA.out.trans (hb1.mono HA.out.size))
  have hc2 := HF.out ao cap its w1 (HH.out.later HB1.out HB1.out.size) hm
  obtain ⟨c, hcc⟩ : ∃ c, itemsF its = c := ⟨_, rfl⟩
  clear hc1 hb1 hs1 ho1 hsv hov hcs s2 hg hoa
  by_cases h0 : c = 0
  · subst h0
    have HCC := Lib.hid hcc
    clear hcc
    go_wp2_with fail
    refine hc2.mono ?_
    intro e w2 hp
    obtain ⟨hb2, sv2, ov2, rfl, hs2, ho2⟩ := hp
    rw [HCC.out, errV_zero]
    have e1 : setsA its = setsF its := by unfold setsA; rw [if_pos HCC.out]
    have e2 : openA its = openF its := by unfold openA; rw [if_pos HCC.out]
    rw [e1] at hs2
    rw [e2] at ho2
    obtain ⟨sa2, sc2, rfl, hsa2, _⟩ := row_sets hs2
    obtain ⟨oa2, oc2, rfl, hoa2, _⟩ := row_items ho2
    have HB2 := Lib.hid (HB1.out.trans (hb2.mono HB1.out.size))
    have SA2 := Lib.hid hsa2
    have OA2 := Lib.hid hoa2
    have HH2 := Lib.hid (HH.out.later HB2.out HB2.out.size)
    have hN200 := (itemsF_zero HCC.out).1
    have HTL := Lib.hid (amts_len its)
    have hmk := make_ints its.length (by omega)
    obtain ⟨Bl, hBl⟩ : ∃ Bl, Bl = w2.heap.size := ⟨_, rfl⟩
    have F0 : Hid (Fr w2 [(Bl, lObj (absL (amts its) its.length 0))] (w2.alloc (lObj (List.replicate its.length 0)))) := by
      show Fr _ _ _
      rw [hBl, absL_zero]; exact (Fr.newAt (Fr.nil w2) rfl _)
    have HBL := Lib.hid hBl
    clear hc2 hb2 hs2 ho2 hsa2 hoa2 e1 e2 s2' hBl
    go_wp2_with fail
    clear hmk
    rw [← HBL.out]
    go_loopw [10, 11] (fun s i wr => ∃ k : Nat, k ≤ its.length ∧ i = .int .i64 (k : Int) ∧ s = .int .i64 ((amts its).take k).sum ∧ Hid (Fr w2 [(Bl, lObj (absL (amts its) its.length k))] wr)) (fun _ i _ => its.length - (intOf i).toNat)
    case atStart => exact ⟨0, Nat.zero_le _, rfl, rfl, F0⟩
    case round =>
      clear F0
      obtain ⟨k, hk, rfl, rfl, hF⟩ := hrel
      by_cases hlt : k < its.length
      · obtain ⟨x, hx⟩ := getElem?_ex hlt
        obtain ⟨b, off, rfl, hb, hcc⟩ := HH2.out.resolve_left (fun e => by rw [e] at hlt; simp at hlt)
        obtain ⟨_, _, c2'⟩ := hcc k x hx
        have c2 := (hF.out.old hb _).trans c2'
        have hxa : x.amt = (amts its).getD k 0 := (amts_get its k x hx).symm
        obtain ⟨g7, g8⟩ := amtB_iff.1 (items_amt HCC.out x (List.mem_of_getElem? hx))
        have hbnd := take_sum_bd 1000000000000000 (by decide) (amts its) (amts_bd (items_amt HCC.out)) k
        have hsum := Lib.hid (take_sum_succ (amts its) (k := k) (by rw [HTL.out]; exact hlt))
        have hset := Lib.hid (absL_set hlt HTL.out)
        have hal := absL_len (T := amts its) (N := its.length) (k := k) (by omega) HTL.out
        have hkI : (k : Int) < (its.length : Int) := by omega
        have hk0 : (0 : Int) ≤ (k : Int) := by omega
        have y1 := free_of_heap (hF.out.has _ (List.mem_cons_self ..)).2 k
        have y0 := cell_of_heap (hF.out.has _ (List.mem_cons_self ..)).2 k
        rw [intsA_at _ (by omega)] at y0
        have hbo2 := hF.out.lt (List.mem_cons_self ..)
        have hbn : ¬ b = Bl := by rw [HBL.out]; omega
        have hbn2 : ¬ Bl = b := fun e => hbn e.symm
        have hst := fun v => Fr.set (bs := []) hF.out (fun p hp => by cases hp) k v
        rw [hxa] at c2 g7 g8
        have hbs1 : (-200000000000000000 : Int) ≤ ((amts its).take k).sum ∧ ((amts its).take k).sum ≤ 200000000000000000 := by omega
        obtain ⟨hbs2, hbs3⟩ := hbs1
        have S1 := hst (.int .i64 ((amts its).getD k 0))
        rw [intsA_set] at S1
        have S2 := Fr.set (bs := []) S1 (fun p hp => by cases hp) k (.int .i64 (-((amts its).getD k 0)))
        rw [intsA_set, List.set_set] at S2
        have S3 := hst (.int .i64 (-((amts its).getD k 0)))
        rw [intsA_set] at S3
        clear hcc c2' hx hxa hbnd hal hst
        by_cases hneg : (amts its).getD k 0 < 0
        · have q1 : decide ((amts its).getD k 0 < 0) = true := decide_eq_true hneg
          have ha : fifo.absN ((amts its).getD k 0) = -((amts its).getD k 0) := by rw [fifo.absN, if_pos hneg]
          have hs := hset.out
          rw [ha] at hs
          rw [hs] at S2 S3
          have SS2 := Lib.hid S2
          have SS3 := Lib.hid S3
          have HSUM : Hid (((amts its).take (k + 1)).sum = ((amts its).take k).sum + (amts its).getD k 0) := hsum.out
          clear S1 S2 S3 ha hs hset hsum hneg hF
          generalize ((amts its).take k).sum = s0 at *
          generalize (amts its).getD k 0 = tk at *
          generalize (absL (amts its) its.length k).getD k 0 = old at *
          go_wp2_with fail
          go_roundw
          case rel => exact ⟨k + 1, by omega, by go_num, by rw [HSUM.out], by first | exact SS2 | exact SS3⟩
          case measure => simp [intOf]; omega
        · have q1 : decide ((amts its).getD k 0 < 0) = false := decide_eq_false hneg
          have ha : fifo.absN ((amts its).getD k 0) = (amts its).getD k 0 := by rw [fifo.absN, if_neg hneg]
          have hs := hset.out
          rw [ha] at hs
          rw [hs] at S1
          have SS1 := Lib.hid S1
          have HSUM : Hid (((amts its).take (k + 1)).sum = ((amts its).take k).sum + (amts its).getD k 0) := hsum.out
          clear S1 S2 S3 ha hs hset hsum hneg hF
          generalize ((amts its).take k).sum = s0 at *
          generalize (amts its).getD k 0 = tk at *
          generalize (absL (amts its) its.length k).getD k 0 = old at *
          go_wp2_with fail
          go_roundw
          case rel => exact ⟨k + 1, by omega, by go_num, by rw [HSUM.out], SS1⟩
          case measure => simp [intOf]; omega
      · obtain rfl : k = its.length := by omega
        have hF2 := hF.out
        rw [absL_end HTL.out, ← fifo.remL_zero] at hF2
        have R0 := Lib.hid hF2
        have hsumT : ((amts its).take its.length).sum = (amts its).sum := by rw [List.take_of_length_le (by rw [HTL.out]; exact Nat.le_refl _)]
        rw [hsumT]
        have hbnT := take_sum_bd 1000000000000000 (by decide) (amts its) (amts_bd (items_amt HCC.out)) its.length
        rw [hsumT] at hbnT
        have hbt1 : (-200000000000000000 : Int) ≤ (amts its).sum := by omega
        have hbt2 : (amts its).sum ≤ 200000000000000000 := by omega
        obtain ⟨ST, hST⟩ : ∃ ST, ST = (amts its).sum := ⟨_, rfl⟩
        rw [← hST] at hbt1 hbt2 ⊢
        have HST := Lib.hid hST
        have hsl : (setsF its).length ≤ 40000 := by
          have := setsA_len its
          unfold setsA at this
          rwa [if_pos HCC.out] at this
        clear hF hF2 hsumT hbnT hST hlt
        go_wp2_with fail
        go_loopw [12] (fun i wr => ∃ j : Nat, j ≤ (setsF its).length ∧ i = .int .i64 (j : Int) ∧ Hid (Fr w2 [(Bl, lObj (fifo.remL its j))] wr)) (fun i _ => (setsF its).length - (intOf i).toNat)
        case atStart => exact ⟨0, Nat.zero_le _, rfl, R0⟩
        case round =>
          clear R0
          obtain ⟨j, hj, rfl, hF⟩ := hrel
          by_cases hlt : j < (setsF its).length
          · obtain ⟨s, hs⟩ := getElem?_ex hlt
            obtain ⟨b2, rfl, hb2, hcs⟩ := SA2.out.resolve_left (fun e => by rw [e] at hlt; simp at hlt)
            obtain ⟨x0', x1', x2'⟩ := hcs j s hs
            have x0 := (hF.out.old hb2 _).trans x0'
            have x1 := (hF.out.old hb2 _).trans x1'
            have x2 := (hF.out.old hb2 _).trans x2'
            obtain ⟨sa', sb', sn⟩ := s
            obtain ⟨g1, g2, g3, g4⟩ := fifo.setsF_at hs
            have hstep := Lib.hid (fifo.remL_step its hs)
            dsimp only at g1 g2 g3 g4 x0 x1 x2
            obtain ⟨b, off, rfl, hb, hcc⟩ := HH2.out.resolve_left (fun e => by rw [e] at g2; simp at g2)
            obtain ⟨_, _, ca'⟩ := hcc sa' _ (getD_get (by omega))
            obtain ⟨_, _, cb'⟩ := hcc sb' _ (getD_get g2)
            rw [← amts_at] at ca' cb'
            have ca := (hF.out.old hb _).trans ca'
            have cb := (hF.out.old hb _).trans cb'
            have hrl := fifo.remL_len its j
            have hbA := fifo.remL_bound its j (x := sa') (by omega)
            have hbB := fifo.remL_bound its j (x := sb') g2
            have hbA2 := fifo.remL_bound its (j + 1) (x := sa') (by omega)
            have hbB2 := fifo.remL_bound its (j + 1) (x := sb') g2
            have hab : sa' ≠ sb' := by omega
            have eA : (fifo.remL its (j + 1)).getD sa' 0 = (fifo.remL its j).getD sa' 0 - sn := by
              rw [hstep.out, fifo.getD_set_ne (fun e => hab e.symm), fifo.getD_set_same (by omega)]
            have eB : (fifo.remL its (j + 1)).getD sb' 0 = (fifo.remL its j).getD sb' 0 - sn := by
              rw [hstep.out, fifo.getD_set_same (by rw [List.length_set]; omega)]
            rw [eA] at hbA2
            rw [eB] at hbB2
            have hTa := amts_bd (items_amt HCC.out) ((amts its).getD sa' 0) (by have := HTL.out; simp [show sa' < (amts its).length by omega])
            have hTb := amts_bd (items_amt HCC.out) ((amts its).getD sb' 0) (by have := HTL.out; simp [show sb' < (amts its).length by omega])
            have hkA : fifo.absN ((amts its).getD sa' 0) ≤ 1000000000000000 := by unfold fifo.absN; split <;> omega
            have hkB : fifo.absN ((amts its).getD sb' 0) ≤ 1000000000000000 := by unfold fifo.absN; split <;> omega
            have hF0 := fun n => Fr.later hF.out (wj := wr.drewN n) (below_drewN (Below.refl _ _) n)
            have hS1 := fun n => Fr.set (bs := []) (hF0 n) (fun p hp => by cases hp) sa' (.int .i64 ((fifo.remL its j).getD sa' 0 - sn))
            have hS2 := fun n => Fr.set (bs := []) (hS1 n) (fun p hp => by cases hp) sb' (.int .i64 ((fifo.remL its j).getD sb' 0 - sn))
            have S6 : ∀ n, Hid (Fr w2 [(Bl, lObj (fifo.remL its (j + 1)))] (((wr.drewN n).setCell ⟨Bl, sa', none⟩ (.int .i64 ((fifo.remL its j).getD sa' 0 - sn))).setCell ⟨Bl, sb', none⟩ (.int .i64 ((fifo.remL its j).getD sb' 0 - sn))).drew) := fun n => by
              have h := hS2 n
              rw [intsA_set, intsA_set, ← hstep.out] at h
              exact Fr.later h (Below.refl _ _).drew
            have yA := cell_of_heap (hF.out.has _ (List.mem_cons_self ..)).2 sa'
            rw [intsA_at _ (by omega)] at yA
            have yB := cell_of_heap (hF.out.has _ (List.mem_cons_self ..)).2 sb'
            rw [intsA_at _ (by omega)] at yB
            have fA := free_of_heap (hF.out.has _ (List.mem_cons_self ..)).2 sa'
            have fB := free_of_heap (hF.out.has _ (List.mem_cons_self ..)).2 sb'
            have hbo2 := hF.out.lt (List.mem_cons_self ..)
            have hbn : ¬ b = Bl := by rw [HBL.out]; omega
            have hbn2 : ¬ Bl = b := fun e => hbn e.symm
            have hcn : ¬ b2 = Bl := by rw [HBL.out]; omega
            have hcn2 : ¬ Bl = b2 := fun e => hcn e.symm
            have hsg : (decide (0 < (amts its).getD sa' 0) = true ∧ decide (0 < (amts its).getD sb' 0) = false) ∨ (decide (0 < (amts its).getD sa' 0) = false ∧ decide (0 < (amts its).getD sb' 0) = true) := by
              have := fifo.opp_sign g4
              cases h1 : decide (0 < (amts its).getD sa' 0) <;> cases h2 : decide (0 < (amts its).getD sb' 0) <;> rw [h1, h2] at this <;> simp at this ⊢
            have hab1 : ¬ sa' = sb' := hab
            have hab2 : ¬ sb' = sa' := fun e => hab e.symm
            have i1 : (sa' : Int) < (its.length : Int) := by omega
            have i2 : (sb' : Int) < (its.length : Int) := by omega
            have i3 : (0 : Int) ≤ (sa' : Int) := by omega
            have i4 : (0 : Int) ≤ (sb' : Int) := by omega
            have i5 : (j : Int) < ((setsF its).length : Int) := by omega
            have i6 : (0 : Int) ≤ (j : Int) := by omega
            have d2 : decide ((sb' : Int) ≤ (sa' : Int)) = false := decide_eq_false (by omega)
            have d2n : decide (sb' ≤ sa') = false := decide_eq_false (by omega)
            have d3 : decide ((its.length : Int) ≤ (sb' : Int)) = false := decide_eq_false (by omega)
            have d3n : decide (its.length ≤ sb') = false := decide_eq_false (by omega)
            have d4 : decide (sn < 1) = false := decide_eq_false (by omega)
            have d5 : decide ((fifo.remL its j).getD sa' 0 - sn < 0) = false := decide_eq_false (by omega)
            have d6 : decide ((fifo.remL its j).getD sb' 0 - sn < 0) = false := decide_eq_false (by omega)
            clear hcs x0' x1' x2' hs hstep hcc ca' cb' hF0 hS1 hS2 eA eB hF g4 hTa hTb hab
            generalize (fifo.remL its j).getD sa' 0 = vA at *
            generalize (fifo.remL its j).getD sb' 0 = vB at *
            generalize fifo.absN ((amts its).getD sa' 0) = zA at *
            generalize fifo.absN ((amts its).getD sb' 0) = zB at *
            generalize (amts its).getD sa' 0 = tA at *
            generalize (amts its).getD sb' 0 = tB at *
            have v1 : 0 ≤ vA := hbA.1
            have v2 : vA ≤ 1000000000000000 := by omega
            have v3 : 0 ≤ vB := hbB.1
            have v4 : vB ≤ 1000000000000000 := by omega
            have v5 : sn ≤ vA := by omega
            have v6 : sn ≤ vB := by omega
            clear hbA hbB hbA2 hbB2 hkA hkB hrl
            rcases hsg with ⟨s1, s2⟩ | ⟨s1, s2⟩
            all_goals
              go_wp2_with fail
              go_quiet (fail)
              clear ca cb s1 s2 x0 x1 d2 d2n d3 d3n d4
              go_wp2_with fail
              go_region
              go_wp2_with fail
              go_region
              go_wp2_with fail
              go_roundw
              case rel => exact ⟨j + 1, by omega, by go_num, S6 _⟩
              case measure => simp [intOf]; omega
          · obtain rfl : j = (setsF its).length := by omega
            have HB3 := Lib.hid (HB2.out.trans (hF.out.below.mono HB2.out.size))
            have OA3 := Lib.hid (OA2.out.later hF.out.below hF.out.below.size)
            have HOL := Lib.hid (show (amts (openF its)).length = (openF its).length from amts_len _)
            have hoamt : Hid (∀ x ∈ openF its, amtB x.amt = true) := fun x hx => (open_good HCC.out x hx).2.2.2
            have hopl := openF_len_le its
            obtain ⟨w3, hw3⟩ : ∃ w3 : World, w3 = wr := ⟨_, rfl⟩
            subst hw3
            clear hF hlt SA2 OA2 HBL HTL hsl
            go_wp2_with fail
            go_loopw [10, 15] (fun s i wr => ∃ k n : Nat, k ≤ (openF its).length ∧ i = .int .i64 (k : Int) ∧ s = .int .i64 (ST - ((amts (openF its)).take k).sum) ∧ wr = w3.drewN n) (fun _ i _ => (openF its).length - (intOf i).toNat)
            case atStart => exact ⟨0, 0, Nat.zero_le _, rfl, by simp, rfl⟩
            case round =>
              obtain ⟨k, n, hk, rfl, rfl, rfl⟩ := hrel
              by_cases hlt : k < (openF its).length
              · obtain ⟨b3, o3, rfl, hb3, hc3⟩ := OA3.out.resolve_left (fun e => by rw [e] at hlt; simp at hlt)
                obtain ⟨_, _, x2⟩ := hc3 k _ (getD_get hlt)
                obtain ⟨_, _, z2⟩ := hc3 0 _ (getD_get (by omega))
                rw [Nat.zero_mul, Nat.add_zero] at z2
                have hal := open_alike HCC.out hlt
                have hbd := take_sum_bd 1000000000000000 (by decide) (amts (openF its)) (amts_bd hoamt.out) k
                have hsum : ((amts (openF its)).take (k + 1)).sum = ((amts (openF its)).take k).sum + (amts (openF its)).getD k 0 := take_sum_succ _ (by rw [HOL.out]; exact hlt)
                have HSUM := Lib.hid hsum
                have hxa := amts_bd hoamt.out ((amts (openF its)).getD k 0) (by have := HOL.out; simp [show k < (amts (openF its)).length by omega])
                rw [amts_at] at hxa
                have HAT := Lib.hid (amts_at (openF its) k)
                have i1 : (k : Int) < ((openF its).length : Int) := by omega
                have i2 : (0 : Int) ≤ (k : Int) := by omega
                have i3 : (0 : Int) < ((openF its).length : Int) := by omega
                have i3n : 0 < (openF its).length := by omega
                have hsg : (decide (0 < ((openF its).getD k default).amt) = true ∧ decide (0 < ((openF its).getD 0 default).amt) = true) ∨ (decide (0 < ((openF its).getD k default).amt) = false ∧ decide (0 < ((openF its).getD 0 default).amt) = false) := by
                  cases h1 : decide (0 < ((openF its).getD k default).amt) <;> cases h2 : decide (0 < ((openF its).getD 0 default).amt) <;> rw [h1, h2] at hal <;> simp at hal ⊢
                have b1 : (-200000000000000000 : Int) ≤ ((amts (openF its)).take k).sum ∧ ((amts (openF its)).take k).sum ≤ 200000000000000000 := by omega
                obtain ⟨b11, b12⟩ := b1
                have HN : Hid (ST - ((amts (openF its)).take (k + 1)).sum = ST - ((amts (openF its)).take k).sum - ((openF its).getD k default).amt) := by
                  show _ = _
                  rw [HSUM.out, HAT.out]; omega
                clear hc3 hal hbd hsum HSUM HAT
                generalize ((amts (openF its)).take k).sum = s0 at *
                generalize ((openF its).getD k default).amt = xk at *
                generalize ((openF its).getD 0 default).amt = xz at *
                obtain ⟨c1, c2⟩ := hxa
                rcases hsg with ⟨q1, q2⟩ | ⟨q1, q2⟩
                all_goals
                  go_wp2_with fail
                  go_quiet (fail)
                  go_wp2_with fail
                  go_roundw
                  case rel => exact ⟨k + 1, _, by omega, by go_num, by rw [HN.out], rfl⟩
                  case measure => simp [intOf]; omega
              · obtain rfl : k = (openF its).length := by omega
                have hfull : ((amts (openF its)).take (openF its).length).sum = (amts (openF its)).sum := by rw [List.take_of_length_le (by rw [HOL.out]; exact Nat.le_refl _)]
                have hzero : ST - ((amts (openF its)).take (openF its).length).sum = 0 := by rw [hfull, openF_sum, HST.out]; omega
                rw [hzero]
                have hbn := below_drewN (Below.refl w3.heap.size w3) n
                have hc3 := HF.out oa2 oc2 (openF its) (w3.drewN n) (OA3.out.later hbn (Nat.le_refl _)) (by omega)
                have HB4 := Lib.hid (below_drewN HB3.out n)
                have OA4 := Lib.hid (OA3.out.later hbn (Nat.le_refl (w3.drewN n).heap.size))
                clear hfull hzero hbn hlt OA3
                generalize w3.drewN n = w4 at *
                go_wp2_with fail
                refine hc3.mono ?_
                intro e w5 hp
                obtain ⟨hb5, sv5, ov5, rfl, hs5, ho5⟩ := hp
                have f1 : itemsF (openF its) = 0 := open_items HCC.out
                have f2 : setsA (openF its) = [] := by unfold setsA; rw [if_pos f1]; exact (open_again its).1
                have f3 : openA (openF its) = openF its := by unfold openA; rw [if_pos f1]; exact open_twice HCC.out
                rw [f2] at hs5
                rw [f3] at ho5
                obtain ⟨sa5, sc5, rfl, _, _⟩ := row_sets hs5
                obtain ⟨oa5, oc5, rfl, hoa5, _⟩ := row_items ho5
                rw [f1, errV_zero]
                have hc4 := items_same (openF its) w5 oa5 oa2 oc5 oc2 hoa5 (OA4.out.later hb5 hb5.size) (by omega)
                have HB5 := Lib.hid (HB4.out.trans (hb5.mono HB4.out.size))
                have OA5 := Lib.hid (OA4.out.later hb5 hb5.size)
                clear hc3 hb5 hs5 ho5 hoa5 f1 f2 f3 OA4 HB4
                go_wp2_with fail
                refine hc4.mono ?_
                rintro e w6 ⟨rfl, n6, rfl⟩
                have hbn := below_drewN (Below.refl w5.heap.size w5) n6
                have HB6 := Lib.hid (below_drewN HB5.out n6)
                have OA6 := Lib.hid (OA5.out.later hbn (Nat.le_refl (w5.drewN n6).heap.size))
                clear hc4 hbn OA5 HB5
                generalize w5.drewN n6 = w6 at *
                obtain ⟨w7, hw7⟩ : ∃ w7, w7 = w6.alloc (.cells #[.int .i64 0, .int .i64 3] 3) := ⟨_, rfl⟩
                have hb7 : Below w6.heap.size w6 w7 := by rw [hw7]; exact (Below.refl _ _).alloc (Nat.le_refl _) _
                have hi7 : IntsAt w7 (some ⟨w6.heap.size, 0, none⟩) [0, 3] := by
                  refine Or.inr ⟨w6.heap.size, 0, rfl, fun i hi => ?_⟩
                  subst hw7
                  match i, hi with
                  | 0, _ | 1, _ => simp
                have HB7 := Lib.hid (HB6.out.trans (hb7.mono HB6.out.size))
                have hc5 := ages_any HF.out ao cap its 120 (some ⟨w6.heap.size, 0, none⟩) 2 [0, 3] w7 (HH.out.later HB7.out HB7.out.size) hm hi7 (by decide)
                have hc5' : Calls Tryd.prog 21 #[.slice ao its.length cap, .int .i64 120, .slice (some ⟨w6.heap.size, 0, none⟩) 2 2] w7 (AgesPost w7 its 120 [0, 3]) := hc5
                have OA7 := Lib.hid (OA6.out.later hb7 hb7.size)
                have HW7 := Lib.hid hw7
                clear hc5 hb7 hi7 hw7 OA6 HB6
                go_wp2_with fail
                rw [← HW7.out]
                refine hc5'.mono ?_
                intro e w8 hp
                obtain ⟨hb8, gao, gcap, rfl, hg8⟩ := hp
                have f4 : agesC its 120 [0, 3] = 0 := ages_rests HCC.out
                have f5 : agesA its 120 [0, 3] = agesN (openF its) 120 [0, 3] (openF its).length := by unfold agesA; rw [if_pos f4]
                have f6 := ages_sum (openF its) 120 [0, 3]
                have f7 := agesN_mem (o := openF its) 120 [0, 3] hoamt.out (by omega)
                have f8 := agesA_len its 120 [0, 3]
                rw [← f5] at f6 f7
                rw [f4, errV_zero]
                have OA8 := Lib.hid (OA7.out.later hb8 hb8.size)
                have HB8 := Lib.hid (HB7.out.trans (hb8.mono HB7.out.size))
                have HG8 := Lib.hid hg8
                have F7 := Lib.hid f7
                have F6 := Lib.hid f6
                clear hc5' hb8 hg8 f4 f5 f6 f7 OA7 HB7 HW7
                generalize agesA its 120 [0, 3] = G at *
                go_wp2_with fail
                go_loop [22, 23] (fun s i => ∃ k : Nat, k ≤ G.length ∧ i = .int .i64 (k : Int) ∧ s = .int .i64 (G.take k).sum) (fun _ i => G.length - (intOf i).toNat)
                case atStart => exact ⟨0, Nat.zero_le _, rfl, rfl⟩
                case round =>
                  obtain ⟨k, hk, rfl, rfl⟩ := hrel
                  by_cases hlt : k < G.length
                  · obtain ⟨b3, o3, rfl, hc3⟩ := HG8.out.resolve_left (fun e => by rw [e] at hlt; simp at hlt)
                    have x0 := hc3 k hlt
                    have hbd := take_sum_bd 200000000000000000 (by decide) G F7.out k
                    have hxa := F7.out (G.getD k 0) (by simp [hlt])
                    have HSUM := Lib.hid (take_sum_succ G hlt)
                    have i1 : (k : Int) < (G.length : Int) := by omega
                    have i2 : (0 : Int) ≤ (k : Int) := by omega
                    have b1 : (-4200000000000000000 : Int) ≤ (G.take k).sum ∧ (G.take k).sum ≤ 4200000000000000000 := by omega
                    obtain ⟨b11, b12⟩ := b1
                    obtain ⟨c1, c2⟩ := hxa
                    clear hc3 hbd
                    have HS2 : Hid ((G.take (k + 1)).sum = (G.take k).sum + G.getD k 0) := HSUM.out
                    clear HSUM
                    generalize (G.take k).sum = s0 at *
                    generalize G.getD k 0 = xk at *
                    go_wp2_with fail
                    go_round
                    case rel => exact ⟨k + 1, by omega, by go_num, by rw [HS2.out]⟩
                    case measure => simp [intOf]; omega
                  · obtain rfl : k = G.length := by omega
                    rw [List.take_of_length_le (Nat.le_refl _)]
                    have hbG := take_sum_bd 1000000000000000 (by decide) (amts (openF its)) (amts_bd hoamt.out) (openF its).length
                    rw [List.take_of_length_le (by rw [HOL.out]; exact Nat.le_refl _), ← F6.out] at hbG
                    have g1 : (-200000000000000000 : Int) ≤ G.sum := by omega
                    have g2 : G.sum ≤ 200000000000000000 := by omega
                    clear hbG hlt
                    obtain ⟨GS, hGS⟩ : ∃ GS, GS = G.sum := ⟨_, rfl⟩
                    rw [← hGS] at g1 g2 ⊢
                    have HGS := Lib.hid hGS
                    clear hGS
                    go_wp2_with fail
                    go_loop [22, 24] (fun s i => ∃ k : Nat, k ≤ (openF its).length ∧ i = .int .i64 (k : Int) ∧ s = .int .i64 (GS - ((amts (openF its)).take k).sum)) (fun _ i => (openF its).length - (intOf i).toNat)
                    case atStart => exact ⟨0, Nat.zero_le _, rfl, by simp⟩
                    case round =>
                      obtain ⟨k, hk, rfl, rfl⟩ := hrel
                      by_cases hlt : k < (openF its).length
                      · obtain ⟨b3, o3, rfl, hb3, hc3⟩ := OA8.out.resolve_left (fun e => by rw [e] at hlt; simp at hlt)
                        obtain ⟨_, _, x2⟩ := hc3 k _ (getD_get hlt)
                        have hbd := take_sum_bd 1000000000000000 (by decide) (amts (openF its)) (amts_bd hoamt.out) k
                        have hsum : ((amts (openF its)).take (k + 1)).sum = ((amts (openF its)).take k).sum + (amts (openF its)).getD k 0 := take_sum_succ _ (by rw [HOL.out]; exact hlt)
                        have hxa := amts_bd hoamt.out ((amts (openF its)).getD k 0) (by have := HOL.out; simp [show k < (amts (openF its)).length by omega])
                        rw [amts_at] at hxa hsum
                        have i1 : (k : Int) < ((openF its).length : Int) := by omega
                        have i2 : (0 : Int) ≤ (k : Int) := by omega
                        have b1 : (-200000000000000000 : Int) ≤ ((amts (openF its)).take k).sum ∧ ((amts (openF its)).take k).sum ≤ 200000000000000000 := by omega
                        obtain ⟨b11, b12⟩ := b1
                        have HN : Hid (GS - ((amts (openF its)).take (k + 1)).sum = GS - ((amts (openF its)).take k).sum - ((openF its).getD k default).amt) := by
                          show _ = _
                          rw [hsum]; omega
                        obtain ⟨c1, c2⟩ := hxa
                        clear hc3 hbd hsum
                        generalize ((amts (openF its)).take k).sum = s0 at *
                        generalize ((openF its).getD k default).amt = xk at *
                        go_wp2_with fail
                        go_round
                        case rel => exact ⟨k + 1, by omega, by go_num, by rw [HN.out]⟩
                        case measure => simp [intOf]; omega
                      · obtain rfl : k = (openF its).length := by omega
                        have hz2 : GS - ((amts (openF its)).take (openF its).length).sum = 0 := by
                          rw [List.take_of_length_le (by rw [HOL.out]; exact Nat.le_refl _), HGS.out, F6.out]; omega
                        rw [hz2]
                        clear hz2 hlt
                        go_wp2_with fail
                        go_ret
                        exact ⟨rfl, HB8.out⟩
  · have hne : (errV c) ≠ .nilIface := by rw [errV_some h0]; simp
    have herr := errV_some h0
    have HCC := Lib.hid hcc
    clear hcc hne
    go_wp2_with fail
    refine hc2.mono ?_
    intro e w2 hp
    obtain ⟨hb2, sv2, ov2, rfl, _, _⟩ := hp
    rw [HCC.out, herr]
    have HB2 := Lib.hid (HB1.out.trans (hb2.mono HB1.out.size))
    clear hc2 hb2 herr s2'
    go_wp2_with fail
    go_ret
    exact ⟨rfl, HB2.out⟩
end Go.Proofs.YtbhndnjlplibmaaDoor.mt
