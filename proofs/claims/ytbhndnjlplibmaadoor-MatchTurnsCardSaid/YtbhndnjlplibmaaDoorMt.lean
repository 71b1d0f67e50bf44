/- MatchTurns: items turned contrary are set off alike, and what is open is contrary. -/
import Derived.Test.YtbhndnjlplibmaaDoorIt6
import Derived.Test.YtbhndnjlplibmaaDoorMrL
namespace Go.Proofs.YtbhndnjlplibmaaDoor.mt
open Go.RowKit

def mtFact : List ItemM := [⟨⟨#[97]⟩, 1, 5⟩, ⟨⟨#[98]⟩, 2, -5⟩]
theorem mtFact_items : itemsF mtFact = 0 := by decide +kernel
theorem mtFact_sets : setsA mtFact = [(0, 1, 5)] := by decide +kernel
theorem mtFact_open : openA mtFact = [] := by
  have : (openA mtFact).length = 0 := by decide +kernel
  exact List.length_eq_zero_iff.1 this
theorem turn_snoc (its : List ItemM) {k : Nat} {x : ItemM} (h : its[k]? = some x) : turnF (its.take (k + 1)) = turnF (its.take k) ++ [turnI x] := by
  obtain ⟨hk, rfl⟩ := List.getElem?_eq_some_iff.1 h
  unfold turnF
  rw [List.take_succ_eq_append_getElem hk, List.map_append]
  rfl

theorem openA_amt (its : List ItemM) : ∀ x ∈ openA its, -1000000000000000 ≤ x.amt ∧ x.amt ≤ 1000000000000000 := by
  intro x hx
  unfold openA at hx
  split at hx
  · rename_i h
    have := (open_good h x hx).2.2.2
    rwa [amtB_iff] at this
  · cases hx

set_option maxRecDepth 100000 in
set_option maxHeartbeats 8000000 in
theorem walk (hf : FifoAll) (ao : Option Addr) (cap : Nat) (its : List ItemM) (w : World) (hh : ItemsAt w.heap.size w ao its) (hm : its.length ≤ 4398046510976) :
    Calls Tryd.prog 4 #[.slice ao its.length cap] w fun e w' => e = .returned (.bool true) ∧ Below w.heap.size w w' := by
  obtain ⟨wa, hwa⟩ : ∃ wa, wa = w.alloc (.cells #[.string ⟨#[97]⟩, .int .i64 1, .int .i64 5, .string ⟨#[98]⟩, .int .i64 2, .int .i64 (-5)] 40) := ⟨_, rfl⟩
  have hba : Below w.heap.size w wa := by rw [hwa]; exact (Below.refl _ _).alloc (Nat.le_refl _) _
  have hia : ItemsAt wa.heap.size wa (some ⟨w.heap.size, 0, none⟩) mtFact := by
    refine Or.inr ⟨w.heap.size, 0, rfl, by rw [hwa]; simp, fun i x hx => ?_⟩
    subst hwa
    match i, hx with
    | 0, hx | 1, hx => simp only [mtFact, List.getElem?_cons_zero, List.getElem?_cons_succ, Option.some.injEq] at hx; subst hx; exact ⟨by simp, by simp, by simp⟩
    | n + 2, hx => simp [mtFact] at hx
  have hc1 := hf (some ⟨w.heap.size, 0, none⟩) 2 mtFact wa hia (by decide)
  have HH := Lib.hid hh
  have HF := Lib.hid hf
  have HA := Lib.hid hba
  have HWA := Lib.hid hwa
  clear hh hf hba hwa hia
  go_enter Tryd.func4, Tryd.ntmps4
  go_wp2_with fail
  rw [← HWA.out]
  refine hc1.mono ?_
  intro e w1 hp
  obtain ⟨hb1, sv, ov, rfl, hs1, ho1⟩ := hp
  obtain ⟨sa, sc, hsv, hsa, _⟩ := row_sets hs1
  obtain ⟨oa, oc, hov, _, _⟩ := row_items ho1
  rw [hsv, hov, mtFact_items, errV_zero]
  rw [mtFact_sets] at hsa
  rw [show (setsA mtFact).length = 1 by rw [mtFact_sets]; rfl, show (openA mtFact).length = 0 by rw [mtFact_open]; rfl]
  obtain ⟨g, rfl, hg, hcs⟩ := hsa.resolve_left (by simp)
  obtain ⟨_, _, s2⟩ := hcs 0 _ rfl
  rw [Nat.zero_mul, Nat.zero_add] at s2
  have s2' : w1.cell? ⟨g, 2, none⟩ = some (.int .i64 5) := s2
  have HB1 := Lib.hid (HA.out.trans (hb1.mono HA.out.size))
  clear hc1 hb1 hs1 ho1 hsv hov hcs s2 hg
  have S0 : Hid (RowSt w [] 40 3 (.slice none 0 0) (turnF (its.take 0)).length ((turnF (its.take 0)).flatMap itemCells) w1) := RowSt.start ⟨HB1.out, fun p hp => by cases hp⟩
  go_wp2_with fail
  clear s2'
  go_loopw [6, 7] (fun v i wr => ∃ k : Nat, k ≤ its.length ∧ i = .int .i64 (k : Int) ∧ Hid (∀ i x, i < k → its[i]? = some x → amtB x.amt = true) ∧ Hid (RowSt w [] 40 3 v (turnF (its.take k)).length ((turnF (its.take k)).flatMap itemCells) wr)) (fun _ i _ => its.length - (intOf i).toNat)
  case atStart => exact ⟨0, Nat.zero_le _, rfl, fun i x h => absurd h (by omega), S0⟩
  case round =>
    clear S0
    obtain ⟨k, hk, rfl, hal, hS⟩ := hrel
    by_cases hlt : k < its.length
    · obtain ⟨x, hx⟩ := getElem?_ex hlt
      obtain ⟨b, off, rfl, hb, hcc⟩ := HH.out.resolve_left (fun e => by rw [e] at hlt; simp at hlt)
      obtain ⟨c0', c1', c2'⟩ := hcc k x hx
      have c0 := (hS.out.fr.old hb _).trans c0'
      have c1 := (hS.out.fr.old hb _).trans c1'
      have c2 := (hS.out.fr.old hb _).trans c2'
      have hkI : (k : Int) < (its.length : Int) := by omega
      have hk0 : (0 : Int) ≤ (k : Int) := by omega
      have hbel := Lib.hid (hS.out.fr.below.alloc hS.out.fr.below.size (.cells #[.string x.ref, .int .i64 x.per, .int .i64 x.amt] 40))
      have hsn := Lib.hid (turn_snoc its hx)
      have HX := Lib.hid hx
      clear hcc c0' c1' c2' hx
      obtain ⟨xr, xp, xa⟩ := x
      dsimp only at c0 c1 c2
      by_cases hbad : xa < -1000000000000000 ∨ 1000000000000000 < xa
      · have hq : decide (xa < -1000000000000000) = true ∨ (decide (xa < -1000000000000000) = false ∧ decide (1000000000000000 < xa) = true) := by
          by_cases h : xa < -1000000000000000
          · exact Or.inl (decide_eq_true h)
          · exact Or.inr ⟨decide_eq_false h, decide_eq_true (by omega)⟩
        clear hbad
        rcases hq with q1 | ⟨q1, q2⟩
        all_goals
          go_wp2_with fail
          go_ret
          exact ⟨rfl, hbel.out⟩
      · have q1 : decide (xa < -1000000000000000) = false := decide_eq_false (by omega)
        have q2 : decide (1000000000000000 < xa) = false := decide_eq_false (by omega)
        have hal' : Hid (∀ i x, i < k + 1 → its[i]? = some x → amtB x.amt = true) := fun i y hi hy => by
          by_cases h : i < k
          · exact hal.out i y h hy
          · obtain rfl : i = k := by omega
            rw [HX.out] at hy
            injection hy with hy
            subst hy
            rw [amtB_iff]; show -1000000000000000 ≤ xa ∧ xa ≤ 1000000000000000; omega
        have b1 : -1000000000000000 ≤ xa := by omega
        have b2 : xa ≤ 1000000000000000 := by omega
        obtain ⟨uo, um, uc, rfl⟩ := ownsRow_form hS.out.row
        obtain ⟨i0, hi0, hz0, hz1, hz2⟩ := info_parts infoIt
        have HI0 := Lib.hid hi0
        have HZ0 := Lib.hid hz0
        have HZ1 := Lib.hid hz1
        have HZ2 := Lib.hid hz2
        have hszw := hS.out.fr.below.size
        have hln : (turnF (its.take k)).length = k := by rw [turnF_len, List.length_take]; omega
        have HLN := Lib.hid hln
        have SB : Hid (RowSt w [] 40 3 (.slice uo um uc) (turnF (its.take k)).length ((turnF (its.take k)).flatMap itemCells) (wr.alloc (.cells #[.string xr, .int .i64 xp, .int .i64 (-xa)] 40))) := RowSt.later hS.out ((Below.refl _ _).alloc (Nat.le_refl _) _)
        clear hbad hi0 hz0 hz1 hz2 hal hln hS
        go_wp2_with (at_builtin; go_must (refine wpList_append_own_at (o := ⟨some 69, _, _, _, _, _⟩) _ rfl (.tmp 66) (.tmp 68) 35 rfl w.heap.size 40 i0 (.agg #[.string ⟨#[]⟩, .int .i64 0, .int .i64 0]) 3 32 Tryd.underlying35 HI0.out HZ0.out HZ1.out HZ2.out rfl (by decide) (.slice uo um uc) (turnF (its.take k)).length ((turnF (its.take k)).flatMap itemCells) rfl (World.ownsRow.alloc SB.out.row _) ⟨wr.heap.size + 1, 0, none⟩ 1 1 [.string xr, .int .i64 xp, .int .i64 (-xa)] rfl rfl (World.news_of_block (cs := #[.string xr, .int .i64 xp, .int .i64 (-xa)]) (t := 40) (fr := (0, 0)) (by exact heap_new_at (by simp) _)) (by simp [Value.oneCell']) (by rw [HLN.out]; unfold maxLen; omega) (by rw [HLN.out]; omega) (by simp; omega) ?_); intro v1 w2 hown1 hgrow1 _ hblk1)
        have HS5 : Hid (RowSt w [] 40 3 v1 (turnF (its.take (k + 1))).length ((turnF (its.take (k + 1))).flatMap itemCells) w2) :=
          RowSt.moved SB.out (ownsRow_cast hown1 (by rw [hsn.out]; simp) (by rw [hsn.out]; simp [itemCells, turnI])) (Moved.append hgrow1 (by simpa using hblk1))
        clear hown1 hgrow1 hblk1 SB hszw c0 c1 c2
        go_wp2_with fail
        go_roundw
        case rel => exact ⟨k + 1, by omega, by go_num, hal', HS5⟩
        case measure => simp [intOf]; omega
    · obtain rfl : k = its.length := by omega
      have hS2 := hS.out
      rw [List.take_of_length_le (Nat.le_refl _)] at hS2
      obtain ⟨tao, tcap, rfl, hti, _⟩ := row_items hS2.row
      have hc2 := HF.out ao cap its wr (HH.out.later hS2.fr.below hS2.fr.below.size) (by omega)
      have BR := Lib.hid hS2.fr.below
      have TI := Lib.hid hti
      rw [turnF_len]
      clear hS hS2 hti hal hlt
      go_wp2_with fail
      refine hc2.mono ?_
      intro e w3 hp
      obtain ⟨hb3, sv3, ov3, rfl, hs3, ho3⟩ := hp
      obtain ⟨sa3, sc3, rfl, hsa3, _⟩ := row_sets hs3
      obtain ⟨oa3, oc3, rfl, hoa3, _⟩ := row_items ho3
      have hc3 := HF.out tao tcap (turnF its) w3 (TI.out.later hb3 hb3.size) (by rw [turnF_len]; omega)
      rw [turnF_len] at hc3
      have B3 := Lib.hid (BR.out.trans (hb3.mono BR.out.size))
      have SA3 := Lib.hid hsa3
      have OA3 := Lib.hid hoa3
      clear hc2 hb3 hs3 ho3 hsa3 hoa3 BR
      go_wp2_with fail
      refine hc3.mono ?_
      intro e w4 hp
      obtain ⟨hb4, sv4, ov4, rfl, hs4, ho4⟩ := hp
      rw [turn_setsA] at hs4
      rw [turn_openA] at ho4
      obtain ⟨sa4, sc4, rfl, hsa4, _⟩ := row_sets hs4
      obtain ⟨oa4, oc4, rfl, hoa4, _⟩ := row_items ho4
      rw [turn_items, turnF_len]
      have B4 := Lib.hid (B3.out.trans (hb4.mono B3.out.size))
      have SA3' := Lib.hid (SA3.out.later hb4)
      have OA3' := Lib.hid (OA3.out.later hb4 hb4.size)
      have SA4 := Lib.hid hsa4
      have OA4 := Lib.hid hoa4
      have HAM := Lib.hid (openA_amt its)
      have hl1 := setsA_len its
      have hl2 := openA_len its
      clear hc3 hb4 hs4 ho4 hsa4 hoa4 B3 SA3 OA3 TI
      generalize setsA its = S at *
      generalize openA its = O at *
      generalize itemsF its = C at *
      have q1 : ((S.length : Int) != (S.length : Int)) = false := by simp
      have q2 : ((O.length : Int) != (O.length : Int)) = false := by simp
      have hcase : errV C = .nilIface ∨ ∃ u v, errV C = .iface u v := by
        by_cases h : C = 0
        · exact Or.inl (by rw [h]; rfl)
        · exact Or.inr ⟨_, _, errV_some h⟩
      rcases hcase with he | ⟨u, v, he⟩
      all_goals
        rw [he]
        clear he
        go_wp2_with fail
        go_quiet (fail)
        go_wp2_with fail
        go_loopw [15] (fun i wr => ∃ k n : Nat, k ≤ S.length ∧ i = .int .i64 (k : Int) ∧ wr = w4.drewN n) (fun i _ => S.length - (intOf i).toNat)
        case atStart => exact ⟨0, _, Nat.zero_le _, rfl, rfl⟩
        case round =>
          obtain ⟨k, n, hk, rfl, rfl⟩ := hrel
          by_cases hlt : k < S.length
          · obtain ⟨b1, rfl, _, hc1⟩ := SA3'.out.resolve_left (fun e => by rw [e] at hlt; simp at hlt)
            obtain ⟨b2, rfl, _, hc2⟩ := SA4.out.resolve_left (fun e => by rw [e] at hlt; simp at hlt)
            obtain ⟨y, hy⟩ : ∃ y, S[k]? = some y := ⟨S[k], List.getElem?_eq_getElem hlt⟩
            obtain ⟨x0, x1, x2⟩ := hc1 k y hy
            obtain ⟨y0, y1, y2⟩ := hc2 k y hy
            have hi1 : (k : Int) < (S.length : Int) := by omega
            have hi0 : (0 : Int) ≤ (k : Int) := by omega
            have har := arr3_same
            clear hc1 hc2 hy
            go_wp2_with fail
            go_quiet (fail)
            go_wp2_with fail
            go_roundw
            case rel => exact ⟨k + 1, _, by omega, by go_num, rfl⟩
            case measure => simp [intOf]; omega
          · go_wp2_with fail
            go_loopw [16] (fun i wr => ∃ k n : Nat, k ≤ O.length ∧ i = .int .i64 (k : Int) ∧ wr = w4.drewN n) (fun i _ => O.length - (intOf i).toNat)
            case atStart => exact ⟨0, _, Nat.zero_le _, rfl, rfl⟩
            case round =>
              obtain ⟨k2, n2, hk2, rfl, rfl⟩ := hrel
              by_cases hlt2 : k2 < O.length
              · obtain ⟨b1, o1, rfl, _, hc1⟩ := OA3'.out.resolve_left (fun e => by rw [e] at hlt2; simp at hlt2)
                obtain ⟨b2, o2, rfl, _, hc2⟩ := OA4.out.resolve_left (fun e => by
                  have : (turnF O).length = 0 := by rw [e]; rfl
                  rw [turnF_len] at this; omega)
                obtain ⟨y, hy⟩ : ∃ y, O[k2]? = some y := ⟨O[k2], List.getElem?_eq_getElem hlt2⟩
                obtain ⟨x0, x1, x2⟩ := hc1 k2 y hy
                obtain ⟨y0, y1, y2⟩ := hc2 k2 (turnI y) (by simp [turnF, hy])
                obtain ⟨ya1, ya2⟩ := HAM.out y (List.mem_of_getElem? hy)
                have hi1 : (k2 : Int) < (O.length : Int) := by omega
                have hi0 : (0 : Int) ≤ (k2 : Int) := by omega
                obtain ⟨yr, yp, ya⟩ := y
                dsimp only [turnI] at x0 x1 x2 y0 y1 y2 ya1 ya2
                have e1 : (ya != - -ya) = false := by simp
                have e2 : (yp != yp) = false := by simp
                have e3 : (ya != ya) = false := by simp
                clear hc1 hc2 hy
                go_wp2_with fail
                go_quiet (fail)
                go_wp2_with fail
                go_roundw
                case rel => exact ⟨k2 + 1, _, by omega, by go_num, rfl⟩
                case measure => simp [intOf]; omega
              · go_wp2_with fail
                go_ret
                exact ⟨rfl, below_drewN B4.out _⟩
end Go.Proofs.YtbhndnjlplibmaaDoor.mt
