/- MatchFinds: what is found is so. -/
import Derived.Test.YtbhndnjlplibmaaDoorMfnL
import Derived.BigQuiet
import Derived.Deep.QuietTactic
namespace Go.Proofs.YtbhndnjlplibmaaDoor.mt
open Go.RowKit

def fnFact : List ItemM := [⟨⟨#[97]⟩, 1, 5⟩, ⟨⟨#[98]⟩, 2, 3⟩]
theorem fnFact_ex : exC fnFact 3 = 0 ∧ exX fnFact 3 = [1] := by decide +kernel
set_option maxRecDepth 100000 in
set_option maxHeartbeats 8000000 in
theorem walk_finds (ao : Option Addr) (cap : Nat) (its : List ItemM) (want : Int) (bo : Option Addr) (lb cb : Nat) (B : Nat → Bool) (w : World) (hh : ItemsAt w.heap.size w ao its) (hbo : BoolsAt w.heap.size w bo lb B) (hm : its.length ≤ 9223372036854775807) (hlb : lb ≤ 9223372036854775807) (hwant : -9223372036854775808 ≤ want ∧ want ≤ 9223372036854775807) :
    Calls Tryd.prog 7 #[.slice ao its.length cap, .int .i64 want, .slice bo lb cb] w fun e w' => e = .returned (.bool true) ∧ Below w.heap.size w w' := by
  obtain ⟨wa, hwa⟩ : ∃ wa, wa = w.alloc (.cells #[.string ⟨#[97]⟩, .int .i64 1, .int .i64 5, .string ⟨#[98]⟩, .int .i64 2, .int .i64 3] 40) := ⟨_, rfl⟩
  have hba : Below w.heap.size w wa := by rw [hwa]; exact (Below.refl _ _).alloc (Nat.le_refl _) _
  have hia : ItemsAt wa.heap.size wa (some ⟨w.heap.size, 0, none⟩) fnFact := by
    refine Or.inr ⟨w.heap.size, 0, rfl, by rw [hwa]; simp, fun i x hx => ?_⟩
    subst hwa
    match i, hx with
    | 0, hx | 1, hx => simp only [fnFact, List.getElem?_cons_zero, List.getElem?_cons_succ, Option.some.injEq] at hx; subst hx; exact ⟨by simp, by simp, by simp⟩
    | n + 2, hx => simp [fnFact] at hx
  have hc1 := exact_any (some ⟨w.heap.size, 0, none⟩) 2 fnFact 3 wa hia (by decide) (by decide)
  rw [fnFact_ex.1, fnFact_ex.2] at hc1
  have HH := Lib.hid hh
  have HBO := Lib.hid hbo
  have HA := Lib.hid hba
  have HWA := Lib.hid hwa
  have HW := Lib.hid hwant
  clear hh hba hwa hia hbo hwant
  go_enter Tryd.func7, Tryd.ntmps7
  go_wp2_with fail
  rw [← HWA.out]
  refine hc1.mono ?_
  intro e w1 hp
  obtain ⟨hb1, v, rfl, hs1⟩ := hp
  obtain ⟨g, cp, rfl, hi1⟩ := hs1.resolve_left (by simp)
  have c1 : w1.cell? ⟨g, 0, none⟩ = some (.int .i64 1) := hi1 0 _ rfl
  rw [errV_zero]
  have HB1 := Lib.hid (HA.out.trans (hb1.mono HA.out.size))
  have hc2 := exact_any ao cap its want w1 (HH.out.later HB1.out HB1.out.size) hm HW.out
  obtain ⟨C, hC⟩ : ∃ C, exC its want = C := ⟨_, rfl⟩
  obtain ⟨X, hX⟩ : ∃ X, exX its want = X := ⟨_, rfl⟩
  rw [hC, hX] at hc2
  have HC := Lib.hid hC
  have HX := Lib.hid hX
  clear hc1 hb1 hs1 hi1 HA hC hX
  have hl1 : [1].length = 1 := rfl
  go_wp2_with fail
  refine hc2.mono ?_
  intro e w2 hp
  obtain ⟨hb2, v2, rfl, hs2⟩ := hp
  obtain ⟨xo, xc, rfl, hxi⟩ := slx_form hs2
  have HB2 := Lib.hid (HB1.out.trans (hb2.mono HB1.out.size))
  have HXI := Lib.hid hxi
  clear hc2 hb2 hs2 hxi c1 hl1 HB1
  go_wp2_with fail
  go_loopw [11, 12] (fun s i wr => ∃ k n : Nat, k ≤ X.length ∧ i = .int .i64 (k : Int) ∧ s = .int .i64 (part (amts its) X k) ∧ wr = w2.drewN n) (fun _ i _ => X.length - (intOf i).toNat)
  case atStart => exact ⟨0, 0, Nat.zero_le _, rfl, rfl, rfl⟩
  case round =>
    obtain ⟨k, n, hk, rfl, rfl, rfl⟩ := hrel
    by_cases hlt : k < X.length
    · have hX0 : exX its want ≠ [] := by rw [HX.out]; intro h; rw [h] at hlt; simp at hlt
      obtain ⟨hf, hl16, hw⟩ := exX_way hX0
      rw [HX.out] at hw
      have hXl : X.length ≤ 16 := by have := hw.room (Nat.zero_le _); rw [amts_len] at this; omega
      have hget : ∀ j, j < X.length → X.getD j 0 ∈ X := fun j hj => by simp [hj]
      have hp := hw.all _ (hget k hlt)
      rw [amts_len] at hp
      obtain ⟨b, off, rfl, hcx⟩ := HXI.out.resolve_left (fun e => by have := congrArg List.length e; simp at this; rw [this] at hlt; simp at hlt)
      have hcast : ∀ j, j < X.length → w2.cell? ⟨b, off + j, none⟩ = some (.int .i64 ((X.getD j 0 : Nat) : Int)) := fun j hj => by
        rw [hcx j (by simpa using hj)]
        simp [hj]
      have d1 := hcast k hlt
      obtain ⟨x, hx⟩ := getElem?_ex hp.2
      obtain ⟨ib, ioff, rfl, hib, hci⟩ := HH.out.resolve_left (fun e => by rw [e] at hp; simp at hp)
      obtain ⟨_, _, x2'⟩ := hci _ x hx
      have x2 := (HB2.out.cell (p := ⟨ib, _, none⟩) hib).trans x2'
      have hsn := part_succ (amts its) X hlt
      rw [amts_get its _ x hx] at hsn
      have HSN := Lib.hid hsn
      have hpb := part_bound (bound_of hf) X (Nat.le_of_lt hlt)
      have hxa := amtB_iff.1 ((itemsF_zero hf).2 _ x hx).2.2.2.1
      obtain ⟨xr, xp, xa⟩ := x
      dsimp only at x2 hxa HSN
      have hprev : k = 0 ∨ ∃ q : Nat, k = q + 1 ∧ X.getD q 0 < X.getD k 0 ∧ w2.cell? ⟨b, off + q, none⟩ = some (.int .i64 ((X.getD q 0 : Nat) : Int)) := by
        rcases Nat.eq_zero_or_pos k with h | h
        · exact Or.inl h
        · refine Or.inr ⟨k - 1, by omega, ?_, hcast _ (by omega)⟩
          have := List.pairwise_iff_getElem.1 hw.rises (k - 1) k (by omega) hlt (by omega)
          simpa [hlt, show k - 1 < X.length by omega] using this
      obtain ⟨pb1, pb2⟩ : -16000000000000000 ≤ part (amts its) X k ∧ part (amts its) X k ≤ 16000000000000000 := by omega
      obtain ⟨xa1, xa2⟩ := hxa
      have hp2 := hp.2
      have hk1 : (k : Int) < (X.length : Int) := by omega
      have hk0 : (0 : Int) ≤ (k : Int) := by omega
      clear hcx hcast hci x2' hx hsn hpb hget hw hX0 hf
      generalize X.getD k 0 = p at *
      generalize part (amts its) X k = S at *
      have e1 : decide ((p : Int) < 0) = false := decide_eq_false (by omega)
      have e2 : decide ((its.length : Int) ≤ (p : Int)) = false := decide_eq_false (by omega)
      have e2' : decide (its.length ≤ p) = false := decide_eq_false (by omega)
      have i1 : (p : Int) < (its.length : Int) := by omega
      have i0 : (0 : Int) ≤ (p : Int) := by omega
      clear hp hp2
      rcases hprev with h0 | ⟨q, hq, hlt2, d2⟩
      · have z1 : decide ((0 : Int) < (k : Int)) = false := decide_eq_false (by omega)
        have z2 : decide (0 < k) = false := decide_eq_false (by omega)
        clear h0
        go_wp2_with fail
        go_quiet (fail)
        go_wp2_with fail
        go_roundw
        case rel => exact ⟨k + 1, _, by omega, by go_num, by rw [HSN.out], rfl⟩
        case measure => simp [intOf]; omega
      · have z1 : decide ((0 : Int) < (k : Int)) = true := decide_eq_true (by omega)
        have z2 : decide (0 < k) = true := decide_eq_true (by omega)
        have q1 : (q : Int) < (X.length : Int) := by omega
        have q0 : (0 : Int) ≤ (q : Int) := by omega
        have qk : (k : Int) - 1 = (q : Int) := by omega
        generalize X.getD q 0 = p2 at *
        have e3 : decide ((p : Int) ≤ (p2 : Int)) = false := decide_eq_false (by omega)
        have e3' : decide (p ≤ p2) = false := decide_eq_false (by omega)
        clear hq hlt2
        go_wp2_with fail
        go_quiet (fail)
        go_wp2_with fail
        go_roundw
        case rel => exact ⟨k + 1, _, by omega, by go_num, by rw [HSN.out], rfl⟩
        case measure => simp [intOf]; omega
    · obtain rfl : k = X.length := by omega
      have hfin : errV C = .nilIface ∧ part (amts its) X X.length = want ∨ ∃ u v, errV C = .iface u v := by
        by_cases h : C = 0
        · refine Or.inl ⟨by rw [h]; rfl, ?_⟩
          obtain ⟨_, _, hw⟩ := exC_way (HC.out.trans h)
          rw [HX.out] at hw
          rw [part_all]; exact hw.sum
        · exact Or.inr ⟨_, _, errV_some h⟩
      obtain ⟨r, hr⟩ : ∃ r, itemsF its = r := ⟨_, rfl⟩
      have HR := Lib.hid hr
      have HBN := fun n => Lib.hid (show Below w.heap.size w (w2.drewN n) from below_drewN HB2.out n)
      have hchk := fun n => check_r r ao cap its (w2.drewN n) (HH.out.later (HBN n).out (HBN n).out.size) hm HR
      clear hlt hr hk
      rcases hfin with ⟨he, hs⟩ | ⟨u, v, he⟩
      all_goals
        rw [he]
        try rw [hs]
        clear he
        try clear hs
        go_wp2_with fail
        refine (hchk _).mono ?_
        intro e w3 hp
        obtain ⟨rfl, hb3⟩ := hp
        have HB3 := Lib.hid ((HBN _).out.trans (hb3.mono (HBN _).out.size))
        clear hchk hb3 HBN
        by_cases h0 : r = 0
        · subst h0
          rw [errV_zero]
          by_cases h16 : 16 < its.length
          · have hd : decide ((16 : Int) < (its.length : Int)) = true := decide_eq_true (by omega)
            go_wp2_with fail
            go_ret
            exact ⟨rfl, HB3.out⟩
          · have hd : decide ((16 : Int) < (its.length : Int)) = false := decide_eq_false (by omega)
            have hlen : its.length ≤ 16 := by omega
            have HBD := Lib.hid (bound_of HR.out)
            go_wp2_with fail
            go_loop [11, 14, 15] (fun s c i => ∃ k : Nat, k ≤ its.length ∧ k ≤ lb ∧ i = .int .i64 (k : Int) ∧ s = .int .i64 ((idxB B k).map fun j => (amts its).getD j 0).sum ∧ c = .int .i64 ((idxB B k).length : Int)) (fun _ _ i => its.length - (intOf i).toNat)
            case atStart => exact ⟨0, Nat.zero_le _, Nat.zero_le _, rfl, rfl, rfl⟩
            case round =>
              obtain ⟨k, hk, hk2, rfl, rfl, rfl⟩ := hrel
              have hsb := sum_bound HBD.out (idxB B k)
              have hil := idxB_len B k
              obtain ⟨pb1, pb2⟩ : -16000000000000000 ≤ ((idxB B k).map fun j => (amts its).getD j 0).sum ∧ ((idxB B k).map fun j => (amts its).getD j 0).sum ≤ 16000000000000000 := by omega
              have hsu := Lib.hid (idxB_succ B k)
              by_cases hlt : k < its.length ∧ k < lb
              · obtain ⟨hlt1, hlt2⟩ := hlt
                obtain ⟨b2, off2, rfl, hbb, hcb⟩ := HBO.out.resolve_left (by omega)
                have y1 := (HB3.out.cell (p := ⟨b2, off2 + k, none⟩) hbb).trans (hcb k hlt2)
                obtain ⟨x, hx⟩ := getElem?_ex hlt1
                obtain ⟨ib, ioff, rfl, hib, hci⟩ := HH.out.resolve_left (fun e => by rw [e] at hlt1; simp at hlt1)
                obtain ⟨_, _, x2'⟩ := hci _ x hx
                have x2 := (HB3.out.cell (p := ⟨ib, _, none⟩) hib).trans x2'
                have hxa := HBD.out k
                rw [amts_get its k x hx] at hxa
                have hga := Lib.hid (amts_get its k x hx)
                obtain ⟨xa1, xa2⟩ := hxa
                have i1 : (k : Int) < (its.length : Int) := by omega
                have i2 : (k : Int) < (lb : Int) := by omega
                have i0 : (0 : Int) ≤ (k : Int) := by omega
                obtain ⟨xr, xp, xa⟩ := x
                dsimp only at x2 xa1 xa2 hga
                have hst : ∀ L : List Nat, (((L ++ [k]).map fun j => (amts its).getD j 0).sum = (L.map fun j => (amts its).getD j 0).sum + xa) ∧ ((L ++ [k]).length : Int) = (L.length : Int) + 1 := fun L => ⟨by rw [List.map_append, List.sum_append]; simp only [List.map_cons, List.map_nil, List.sum_cons, List.sum_nil, Int.add_zero]; rw [hga.out], by simp⟩
                have HST := Lib.hid hst
                clear hcb hci x2' hx hsb hst
                cases hB : B k with
                | true =>
                  rw [hB] at y1
                  have hsu2 : Hid (idxB B (k + 1) = idxB B k ++ [k]) := by have := hsu.out; rw [hB] at this; exact this
                  clear hB hsu
                  generalize idxB B k = L at *
                  generalize hS : (L.map fun j => (amts its).getD j 0).sum = S at *
                  have HSS := Lib.hid hS
                  clear hS
                  go_wp2_with fail
                  go_round
                  case rel => exact ⟨k + 1, by omega, by omega, by go_num, by rw [hsu2.out, (HST.out L).1, HSS.out], by rw [hsu2.out, (HST.out L).2]⟩
                  case measure => simp [intOf]; omega
                | false =>
                  rw [hB] at y1
                  have hsu2 : Hid (idxB B (k + 1) = idxB B k) := by have h5 := hsu.out; rw [hB] at h5; show _ = _; simpa using h5
                  clear hB hsu
                  go_wp2_with fail
                  go_round
                  case rel => exact ⟨k + 1, by omega, by omega, by go_num, by rw [hsu2.out], by rw [hsu2.out]⟩
                  case measure => simp [intOf]; omega
              · have hw := idxB_way (amts its) B (by rw [amts_len]; exact hk)
                obtain ⟨hz, hyl⟩ := ex_finds HR.out hlen hw
                have hc4 := exact_any ao cap its ((idxB B k).map fun j => (amts its).getD j 0).sum w3 (HH.out.later HB3.out HB3.out.size) hm (by omega)
                rw [hz] at hc4
                have hq : (k < its.length ∧ ¬ k < lb) ∨ (¬ k < its.length) := by omega
                generalize ((idxB B k).map fun j => (amts its).getD j 0).sum = S at *
                generalize exX its S = Y at *
                have hYL := Lib.hid hyl
                clear hz hw hsb hsu hlt hyl
                generalize (idxB B k).length = c at *
                rcases hq with ⟨q1, q2⟩ | q1
                all_goals
                  have d1 := decide_eq_true q1
                  go_wp2_with fail
                  refine hc4.mono ?_
                  intro e w5 hp
                  obtain ⟨hb5, v5, rfl, hs5⟩ := hp
                  obtain ⟨yo, yc, rfl, _⟩ := slx_form hs5
                  rw [errV_zero]
                  have HB5 := HB3.out.trans (hb5.mono HB3.out.size)
                  have d2 : decide ((Y.length : Int) ≤ (c : Int)) = true := decide_eq_true (by have := hYL.out; omega)
                  have d3 : decide (Y.length ≤ c) = true := decide_eq_true hYL.out
                  have HB5' := Lib.hid HB5
                  clear hc4 hb5 hs5 HB5
                  go_wp2_with fail
                  go_ret
                  exact ⟨rfl, HB5'.out⟩
        · have he := errV_some h0
          rw [he]
          clear he
          go_wp2_with fail
          go_ret
          exact ⟨rfl, HB3.out⟩
end Go.Proofs.YtbhndnjlplibmaaDoor.mt
