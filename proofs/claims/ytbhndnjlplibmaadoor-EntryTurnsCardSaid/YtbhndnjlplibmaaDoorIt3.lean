/- match.Check at any items: what is wrong with them. -/
import Derived.Test.YtbhndnjlplibmaaDoorIt2
import Derived.BigQuiet
import Derived.Deep.QuietTactic
namespace Go.Proofs.YtbhndnjlplibmaaDoor.mt
open Go.RowKit

def ErrPost (B : Nat) (w : World) (c : Int) (e : Ending) (w' : World) : Prop := e = .returned (errV c) ∧ Below B w w'
theorem itOne_ref {its : List ItemM} {k : Nat} {x : ItemM} (h : refB x.ref = false) : itOne its k x = 2 := by rw [itOne, if_pos h]
theorem itOne_rng {its : List ItemM} {k : Nat} {x : ItemM} (h1 : refB x.ref = true) (h : perB x.per = false ∨ x.amt = 0 ∨ amtB x.amt = false) : itOne its k x = 1 := by rw [itOne, if_neg (by rw [h1]; simp), if_pos h]
theorem itOne_ord {its : List ItemM} {k : Nat} {x : ItemM} (h1 : refB x.ref = true) (h2 : perB x.per = true) (h3 : x.amt ≠ 0) (h4 : amtB x.amt = true) : itOne its k x = if 0 < k ∧ x.per < (its.getD (k - 1) default).per then 5 else 0 := by
  rw [itOne, if_neg (by rw [h1]; simp), if_neg (by rw [h2, h4]; simp [h3])]

set_option maxRecDepth 100000 in
set_option maxHeartbeats 4000000 in
theorem check_r (r : Int) (ao : Option Addr) (cap : Nat) (its : List ItemM) (w : World) (hh : ItemsAt w.heap.size w ao its) (hm : its.length ≤ 9223372036854775807) (hr : Hid (itemsF its = r)) :
    Calls Tryd.prog 23 #[.slice ao its.length cap] w (ErrPost w.heap.size w r) := by
  have HH := Lib.hid hh
  clear hh
  by_cases hlen : 200 < its.length
  · have hr4 : r = 4 := by have a := hr.out; rw [itemsF, if_pos hlen] at a; exact a.symm
    subst hr4
    clear hr
    have hd : decide ((200 : Int) < (its.length : Int)) = true := decide_eq_true (by omega)
    go_enter Tryd.func23, Tryd.ntmps23
    go_wp2
    go_ret
    exact ⟨rfl, Below.refl _ _⟩
  · have hr1 : Hid (itFrom its its 0 = r) := by
      have a := hr.out; rw [itemsF, if_neg hlen] at a; exact a
    have hd : decide ((200 : Int) < (its.length : Int)) = false := decide_eq_false (by omega)
    have hlen2 : its.length ≤ 200 := by omega
    obtain ⟨B, hB⟩ : ∃ B, B = w.heap.size := ⟨_, rfl⟩
    go_enter Tryd.func23, Tryd.ntmps23
    go_wp2_with fail
    rw [← hB]
    have HB := Lib.hid hB
    clear hB hr hlen
    go_loopw [2, 11] (fun z i wr => ∃ k : Nat, k ≤ its.length ∧ i = .int .i64 k ∧ z = .nilIface ∧ Hid (itFrom its its 0 = itFrom its (its.drop k) k) ∧ Hid (Below B w wr)) (fun _ i _ => its.length - (intOf i).toNat)
    case atStart => exact ⟨0, Nat.zero_le _, rfl, rfl, rfl, Below.refl _ _⟩
    case round =>
      obtain ⟨k, hk, rfl, rfl, hi, hbel⟩ := hrel
      by_cases hlt : k < its.length
      · obtain ⟨x, hx⟩ := getElem?_ex hlt
        obtain ⟨b, off, rfl, hb, hcc⟩ := HH.out.resolve_left (fun e => by rw [e] at hlt; simp at hlt)
        have HC := Lib.hid hcc
        clear hcc
        obtain ⟨c0, c1, c2⟩ := HC.out k x hx
        have hbB : b < B := by rw [HB.out]; exact hb
        replace c0 := (hbel.out.cell (p := ⟨b, _, none⟩) hbB).trans c0
        replace c1 := (hbel.out.cell (p := ⟨b, _, none⟩) hbB).trans c1
        replace c2 := (hbel.out.cell (p := ⟨b, _, none⟩) hbB).trans c2
        have hd2 := Lib.hid (itFrom_drop its k x hx)
        have hd3 : decide ((k : Int) < (its.length : Int)) = true := decide_eq_true (by omega)
        obtain ⟨q, hq⟩ : ∃ q, q = wr.heap.size := ⟨_, rfl⟩
        have hBq : B ≤ q := by rw [hq, HB.out]; exact hbel.out.size
        have hbel2 : Hid (Below B w (wr.alloc (.cells #[.string x.ref, .int .i64 x.per, .int .i64 x.amt] 40))) := hbel.out.alloc (by rw [HB.out]; exact hbel.out.size) _
        have hrf := ref_any x.ref (wr.alloc (.cells #[.string x.ref, .int .i64 x.per, .int .i64 x.amt] 40))
        have HX := Lib.hid hx
        clear hx
        obtain ⟨xr, xp, xa⟩ := x
        dsimp only at c0 c1 c2 hrf hbel2
        obtain ⟨wa, hwa⟩ : ∃ wa, wa = wr.alloc (.cells #[.string xr, .int .i64 xp, .int .i64 xa] 40) := ⟨_, rfl⟩
        rw [← hwa] at hrf hbel2
        have hqa : q < wa.heap.size := by rw [hwa, hq]; simp
        have e0 : Hid (∀ v, Below wa.heap.size wa v → v.cell? ⟨q, 1, none⟩ = some (.int .i64 xp) ∧ v.cell? ⟨q, 2, none⟩ = some (.int .i64 xa)) := fun v hv =>
          ⟨(hv.cell (p := ⟨q, 1, none⟩) hqa).trans (by rw [hwa, hq]; simp), (hv.cell (p := ⟨q, 2, none⟩) hqa).trans (by rw [hwa, hq]; simp)⟩
        have HWA := Lib.hid hwa
        have HQ := Lib.hid hq
        clear hwa hq hbel
        cases hrb : refB xr with
        | false =>
          have hr1' := it_stop (itOne_ref (x := ⟨xr, xp, xa⟩) hrb) (by decide) hi.out hd2.out hr1.out
          subst hr1'
          rw [hrb] at hrf
          clear hr1 hd2 hi hrb e0
          go_wp2_with fail
          rw [← HWA.out, ← HQ.out]
          refine hrf.mono ?_
          rintro e w1 ⟨rfl, hb1⟩
          clear hrf
          go_wp2_with fail
          go_ret
          exact ⟨rfl, hbel2.out.trans (hb1.mono (by have := hbel2.out.size; rw [HB.out]; exact this))⟩
        | true =>
          rw [hrb] at hrf
          have HBB : Hid (∀ v, Below wa.heap.size wa v → Below B w v) := fun v hv => hbel2.out.trans (hv.mono (by have := hbel2.out.size; rw [HB.out]; exact this))
          by_cases hbad : perB xp = false ∨ xa = 0 ∨ amtB xa = false
          · have hr1' := it_stop (itOne_rng (x := ⟨xr, xp, xa⟩) hrb hbad) (by decide) hi.out hd2.out hr1.out
            subst hr1'
            have hbad' : perB xp = false ∨ (perB xp = true ∧ (xa == 0) = true) ∨ (perB xp = true ∧ (xa == 0) = false ∧ amtB xa = false) := by
              cases hp : perB xp with
              | false => exact Or.inl rfl
              | true =>
                by_cases h0 : xa = 0
                · exact Or.inr (Or.inl ⟨rfl, beq_iff_eq.2 h0⟩)
                · refine Or.inr (Or.inr ⟨rfl, beq_eq_false_iff_ne.2 h0, ?_⟩)
                  rcases hbad with h | h | h
                  · rw [hp] at h; cases h
                  · exact absurd h h0
                  · exact h
            have hper := period_any xp
            have hamt := amount_any xa
            clear hr1 hd2 hi hrb hbad
            go_wp2_with fail
            rw [← HWA.out, ← HQ.out]
            refine hrf.mono ?_
            rintro e w1 ⟨rfl, hb1⟩
            obtain ⟨d1, d2⟩ := e0.out w1 hb1
            have HB1 := Lib.hid (HBB.out w1 hb1)
            clear hrf hb1 e0 HBB
            rcases hbad' with hp | ⟨hp, h0⟩ | ⟨hp, h0, ha⟩
            · rw [hp] at hper
              clear hamt
              go_wp2_with (go_at_call 51; refine (hper _).mono ?_; rintro e w' ⟨rfl, rfl⟩)
              go_ret
              exact ⟨rfl, HB1.out⟩
            · rw [hp] at hper
              clear hamt
              go_wp2_with (go_at_call 51; refine (hper _).mono ?_; rintro e w' ⟨rfl, rfl⟩)
              go_ret
              exact ⟨rfl, HB1.out⟩
            · rw [hp] at hper
              rw [ha] at hamt
              go_wp2_with (first | (go_at_call 51; refine (hper _).mono ?_; rintro e w' ⟨rfl, rfl⟩) | (go_at_call 55; refine (hamt _).mono ?_; rintro e w' ⟨rfl, rfl⟩))
              go_ret
              exact ⟨rfl, HB1.out⟩
          · have hp : perB xp = true := by cases h : perB xp with | true => rfl | false => exact absurd (Or.inl h) hbad
            have h0 : xa ≠ 0 := fun h => hbad (Or.inr (Or.inl h))
            have ha : amtB xa = true := by cases h : amtB xa with | true => rfl | false => exact absurd (Or.inr (Or.inr h)) hbad
            have h0b : (xa == 0) = false := beq_eq_false_iff_ne.2 h0
            have hone := Lib.hid (itOne_ord (its := its) (k := k) (x := ⟨xr, xp, xa⟩) hrb hp h0 ha)
            have hper := period_any xp
            have hamt := amount_any xa
            rw [hp] at hper
            rw [ha] at hamt
            clear hrb hbad hp ha h0
            go_wp2_with fail
            rw [← HWA.out, ← HQ.out]
            refine hrf.mono ?_
            rintro e w1 ⟨rfl, hb1⟩
            obtain ⟨d1, d2⟩ := e0.out w1 hb1
            have HB1 := Lib.hid (HBB.out w1 hb1)
            clear hrf hb1 e0 HBB
            go_wp2_with (first | (go_at_call 51; refine (hper _).mono ?_; rintro e w' ⟨rfl, rfl⟩) | (go_at_call 55; refine (hamt _).mono ?_; rintro e w' ⟨rfl, rfl⟩))
            clear hper hamt
            by_cases hk00 : k = 0
            · have dk : decide ((0 : Int) < (k : Int)) = false := decide_eq_false (by omega)
              have dkn : decide (0 < k) = false := decide_eq_false (by omega)
              have hn := Lib.hid (it_next (x := ⟨xr, xp, xa⟩) (by rw [hone.out, if_neg (by omega)]) hi.out hd2.out)
              have HN := fun n => Lib.hid (show Below B w (w1.drewN n) from ⟨HB1.out.os, HB1.out.tape, HB1.out.output, HB1.out.size, HB1.out.block⟩)
              clear hk00 hone hi hd2
              go_quiet (fail)
              go_wp2_with fail
              go_roundw
              case rel => exact ⟨k + 1, by omega, by go_num, rfl, hn, HN _⟩
              case measure => simp [intOf]; omega
            · obtain ⟨m, hm⟩ : ∃ m, k = m + 1 := ⟨k - 1, by omega⟩
              obtain ⟨z, hz⟩ : ∃ z, its[m]? = some z := ⟨its[m]'(by omega), List.getElem?_eq_getElem (by omega)⟩
              obtain ⟨_, a1', _⟩ := HC.out m z hz
              have a1 : w1.cell? ⟨b, off + m * 3 + 1, none⟩ = some (.int .i64 z.per) := (HB1.out.cell (p := ⟨b, _, none⟩) hbB).trans a1'
              have hone' : Hid (itOne its k ⟨xr, xp, xa⟩ = if xp < z.per then 5 else 0) := by
                have hg : its.getD (k - 1) default = z := by rw [show k - 1 = m by omega]; simp [hz]
                have h := hone.out
                rw [hg] at h
                show _ = _
                rw [h]
                by_cases hlt2 : xp < z.per
                · rw [if_pos ⟨by omega, hlt2⟩, if_pos hlt2]
                · rw [if_neg (fun h => hlt2 h.2), if_neg hlt2]
              have d0 : decide ((0 : Int) < (k : Int)) = true := decide_eq_true (by omega)
              have d0n : decide (0 < k) = true := decide_eq_true (by omega)
              have hw1 : IntKind.i64.wrap ((k : Int) - 1) = (m : Int) := by rw [show (k : Int) - 1 = (m : Int) by omega]; exact IntWalk.i64_in _ (by omega)
              have hw2 : (k : Int) - 1 = (m : Int) := by omega
              have j0 : (0 : Int) ≤ (m : Int) := by omega
              have j1 : (m : Int) < (its.length : Int) := by omega
              clear hk00 hone a1' hz hm
              generalize z.per = zp at *
              have HN := fun n => Lib.hid (show Below B w (w1.drewN n) from ⟨HB1.out.os, HB1.out.tape, HB1.out.output, HB1.out.size, HB1.out.block⟩)
              by_cases hlt2 : xp < zp
              · have hr1' := it_stop (x := ⟨xr, xp, xa⟩) (c := 5) (by rw [hone'.out, if_pos hlt2]) (by decide) hi.out hd2.out hr1.out
                subst hr1'
                have dl : decide (xp < zp) = true := decide_eq_true hlt2
                clear hone' hi hd2 hr1 hlt2
                go_quiet (fail)
                clear hw1 hw2 j0 j1
                go_wp2_with fail
                go_ret
                exact ⟨rfl, (HN _).out⟩
              · have hn := Lib.hid (it_next (x := ⟨xr, xp, xa⟩) (by rw [hone'.out, if_neg hlt2]) hi.out hd2.out)
                have dl : decide (xp < zp) = false := decide_eq_false hlt2
                clear hone' hi hd2 hlt2
                go_quiet (fail)
                clear hw1 hw2 j0 j1
                go_wp2_with fail
                go_roundw
                case rel => exact ⟨k + 1, by omega, by go_num, rfl, hn, HN _⟩
                case measure => simp [intOf]; omega
      · have hke : its.drop k = [] := List.drop_eq_nil_of_le (by omega)
        have hd3 : decide ((k : Int) < (its.length : Int)) = false := decide_eq_false (by omega)
        have hr2 : r = 0 := by
          have a := hr1.out; have c := hi.out; rw [hke] at c; rw [show itFrom its its 0 = 0 from c] at a; exact a.symm
        subst hr2
        clear hi hke hr1
        go_wp2_with fail
        go_ret
        exact ⟨rfl, by rw [← HB.out]; exact hbel.out⟩
end Go.Proofs.YtbhndnjlplibmaaDoor.mt
