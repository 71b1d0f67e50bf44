/- dayref3.Items at any items: the same number. -/
import Derived.Test.YtbhndnjlplibmaaDoorRf1
import Derived.BigQuiet
import Derived.Deep.QuietTactic
namespace Go.Proofs.YtbhndnjlplibmaaDoor.mt
open Go.RowKit

def IntPost (B : Nat) (w : World) (c : Int) (e : Ending) (w' : World) : Prop := e = .returned (.int .i64 c) ∧ Below B w w'

set_option maxRecDepth 100000 in
set_option maxHeartbeats 4000000 in
theorem ritems_r (r : Int) (ao : Option Addr) (cap : Nat) (its : List ItemM) (w : World) (hh : ItemsAt w.heap.size w ao its) (hm : its.length ≤ 9223372036854775807) (hr : Hid (itemsF its = r)) :
    Calls Tryd.prog 22 #[.slice ao its.length cap] w (IntPost w.heap.size w r) := by
  have HH := Lib.hid hh
  clear hh
  by_cases hlen : 200 < its.length
  · have hr4 : r = 4 := by have a := hr.out; rw [itemsF, if_pos hlen] at a; exact a.symm
    subst hr4
    clear hr
    have hd : decide ((200 : Int) < (its.length : Int)) = true := decide_eq_true (by omega)
    go_enter Tryd.func22, Tryd.ntmps22
    go_wp2
    go_ret
    exact ⟨rfl, Below.refl _ _⟩
  · have hr1 : Hid (itFrom its its 0 = r) := by
      have a := hr.out; rw [itemsF, if_neg hlen] at a; exact a
    have hd : decide ((200 : Int) < (its.length : Int)) = false := decide_eq_false (by omega)
    have hlen2 : its.length ≤ 200 := by omega
    obtain ⟨B, hB⟩ : ∃ B, B = w.heap.size := ⟨_, rfl⟩
    go_enter Tryd.func22, Tryd.ntmps22
    go_wp2_with fail
    rw [← hB]
    have HB := Lib.hid hB
    clear hB hr hlen hd
    go_loopw [3] (fun i wr => ∃ k : Nat, k ≤ its.length ∧ i = .int .i64 (k : Int) ∧ Hid (itFrom its its 0 = itFrom its (its.drop k) k) ∧ Hid (Below B w wr)) (fun i _ => its.length - (intOf i).toNat)
    case atStart => exact ⟨0, Nat.zero_le _, rfl, rfl, Below.refl _ _⟩
    case round =>
      obtain ⟨k, hk, rfl, hi, hbel⟩ := hrel
      by_cases hlt : k < its.length
      · obtain ⟨x, hx⟩ := getElem?_ex hlt
        obtain ⟨b, off, rfl, hb, hcc⟩ := HH.out.resolve_left (fun e => by rw [e] at hlt; simp at hlt)
        have HC := Lib.hid hcc
        clear hcc
        obtain ⟨c0, c1, c2⟩ := HC.out k x hx
        have hbB : b < B := by rw [HB.out]; exact hb
        replace c0 := (hbel.out.cell (p := ⟨b, _, none⟩) hbB).trans c0
        replace c1 := (hbel.out.cell (p := ⟨b, _, none⟩) hbB).trans c1
        replace c2 := (hbel.out.cell (p := ⟨b, _, none⟩) hbB).trans c2
        have hd2 := Lib.hid (itFrom_drop its k x hx)
        have hkI : (k : Int) < (its.length : Int) := by omega
        have hk0 : (0 : Int) ≤ (k : Int) := by omega
        have hrf := rref_any x.ref wr
        have HX := Lib.hid hx
        clear hx
        obtain ⟨xr, xp, xa⟩ := x
        dsimp only at c0 c1 c2 hrf
        have hper := rper_any xp wr
        have hamt := ramt_any xa wr
        cases hrb : refB xr with
        | false =>
          have hr1' := it_stop (itOne_ref (x := ⟨xr, xp, xa⟩) hrb) (by decide) hi.out hd2.out hr1.out
          subst hr1'
          rw [hrb] at hrf
          clear hr1 hd2 hi hrb hper hamt
          go_wp2_with (go_at_call 35; refine hrf.mono ?_; rintro e w' ⟨rfl, rfl⟩)
          go_ret
          exact ⟨rfl, hbel.out⟩
        | true =>
          rw [hrb] at hrf
          by_cases hbad : perB xp = false ∨ xa = 0 ∨ amtB xa = false
          · have hr1' := it_stop (itOne_rng (x := ⟨xr, xp, xa⟩) hrb hbad) (by decide) hi.out hd2.out hr1.out
            subst hr1'
            have hbad' : perB xp = false ∨ (perB xp = true ∧ amtB xa = false) ∨ (perB xp = true ∧ amtB xa = true ∧ (xa == 0) = true) := by
              cases hp : perB xp with
              | false => exact Or.inl rfl
              | true =>
                cases ha : amtB xa with
                | false => exact Or.inr (Or.inl ⟨rfl, rfl⟩)
                | true =>
                  refine Or.inr (Or.inr ⟨rfl, rfl, ?_⟩)
                  rcases hbad with h | h | h
                  · rw [hp] at h; cases h
                  · exact beq_iff_eq.2 h
                  · rw [ha] at h; cases h
            clear hr1 hd2 hi hrb hbad
            rcases hbad' with hp | ⟨hp, ha⟩ | ⟨hp, ha, h0⟩
            · rw [hp] at hper
              generalize amtB xa = ab at *
              clear hp
              go_wp2_with (first | (go_at_call 35; refine hrf.mono ?_; rintro e w' ⟨rfl, rfl⟩) | (go_at_call 52; refine hper.mono ?_; rintro e w' ⟨rfl, rfl⟩) | (go_at_call 53; refine hamt.mono ?_; rintro e w' ⟨rfl, rfl⟩))
              go_ret
              exact ⟨rfl, hbel.out⟩
            · rw [hp] at hper
              rw [ha] at hamt
              clear hp ha
              go_wp2_with (first | (go_at_call 35; refine hrf.mono ?_; rintro e w' ⟨rfl, rfl⟩) | (go_at_call 52; refine hper.mono ?_; rintro e w' ⟨rfl, rfl⟩) | (go_at_call 53; refine hamt.mono ?_; rintro e w' ⟨rfl, rfl⟩))
              go_ret
              exact ⟨rfl, hbel.out⟩
            · rw [hp] at hper
              rw [ha] at hamt
              clear hp ha
              go_wp2_with (first | (go_at_call 35; refine hrf.mono ?_; rintro e w' ⟨rfl, rfl⟩) | (go_at_call 52; refine hper.mono ?_; rintro e w' ⟨rfl, rfl⟩) | (go_at_call 53; refine hamt.mono ?_; rintro e w' ⟨rfl, rfl⟩))
              go_ret
              exact ⟨rfl, hbel.out⟩
          · have hp : perB xp = true := by cases h : perB xp with | true => rfl | false => exact absurd (Or.inl h) hbad
            have h0 : xa ≠ 0 := fun h => hbad (Or.inr (Or.inl h))
            have ha : amtB xa = true := by cases h : amtB xa with | true => rfl | false => exact absurd (Or.inr (Or.inr h)) hbad
            have h0b : (xa == 0) = false := beq_eq_false_iff_ne.2 h0
            have hone := Lib.hid (itOne_ord (its := its) (k := k) (x := ⟨xr, xp, xa⟩) hrb hp h0 ha)
            rw [hp] at hper
            rw [ha] at hamt
            clear hrb hbad hp ha h0
            by_cases hk00 : k = 0
            · have dk : decide ((0 : Int) < (k : Int)) = false := decide_eq_false (by omega)
              have dkn : decide (0 < k) = false := decide_eq_false (by omega)
              have hn := Lib.hid (it_next (x := ⟨xr, xp, xa⟩) (by rw [hone.out, if_neg (by omega)]) hi.out hd2.out)
              have HN := fun n => Lib.hid (show Below B w (wr.drewN n) from ⟨hbel.out.os, hbel.out.tape, hbel.out.output, hbel.out.size, hbel.out.block⟩)
              clear hk00 hone hi hd2
              go_wp2_with (first | (go_at_call 35; refine hrf.mono ?_; rintro e w' ⟨rfl, rfl⟩) | (go_at_call 52; refine hper.mono ?_; rintro e w' ⟨rfl, rfl⟩) | (go_at_call 53; refine hamt.mono ?_; rintro e w' ⟨rfl, rfl⟩))
              clear hrf hper hamt
              go_quiet (fail)
              go_wp2_with fail
              go_roundw
              case rel => exact ⟨k + 1, by omega, by go_num, hn, HN _⟩
              case measure => simp [intOf]; omega
            · obtain ⟨m, hm⟩ : ∃ m, k = m + 1 := ⟨k - 1, by omega⟩
              obtain ⟨z, hz⟩ : ∃ z, its[m]? = some z := ⟨its[m]'(by omega), List.getElem?_eq_getElem (by omega)⟩
              obtain ⟨_, a1', _⟩ := HC.out m z hz
              have a1 : wr.cell? ⟨b, off + m * 3 + 1, none⟩ = some (.int .i64 z.per) := (hbel.out.cell (p := ⟨b, _, none⟩) hbB).trans a1'
              have hone' : Hid (itOne its k ⟨xr, xp, xa⟩ = if xp < z.per then 5 else 0) := by
                have hg : its.getD (k - 1) default = z := by rw [show k - 1 = m by omega]; simp [hz]
                have h := hone.out
                rw [hg] at h
                show _ = _
                rw [h]
                by_cases hlt2 : xp < z.per
                · rw [if_pos ⟨by omega, hlt2⟩, if_pos hlt2]
                · rw [if_neg (fun h => hlt2 h.2), if_neg hlt2]
              have d0 : decide ((0 : Int) < (k : Int)) = true := decide_eq_true (by omega)
              have d0n : decide (0 < k) = true := decide_eq_true (by omega)
              have hw1 : IntKind.i64.wrap ((k : Int) - 1) = (m : Int) := by rw [show (k : Int) - 1 = (m : Int) by omega]; exact IntWalk.i64_in _ (by omega)
              have hw2 : (k : Int) - 1 = (m : Int) := by omega
              have j0 : (0 : Int) ≤ (m : Int) := by omega
              have j1 : (m : Int) < (its.length : Int) := by omega
              clear hk00 hone a1' hz hm
              generalize z.per = zp at *
              have HN := fun n => Lib.hid (show Below B w (wr.drewN n) from ⟨hbel.out.os, hbel.out.tape, hbel.out.output, hbel.out.size, hbel.out.block⟩)
              by_cases hlt2 : xp < zp
              · have hr1' := it_stop (x := ⟨xr, xp, xa⟩) (c := 5) (by rw [hone'.out, if_pos hlt2]) (by decide) hi.out hd2.out hr1.out
                subst hr1'
                have dl : decide (xp < zp) = true := decide_eq_true hlt2
                clear hone' hi hd2 hr1 hlt2
                go_wp2_with (first | (go_at_call 35; refine hrf.mono ?_; rintro e w' ⟨rfl, rfl⟩) | (go_at_call 52; refine hper.mono ?_; rintro e w' ⟨rfl, rfl⟩) | (go_at_call 53; refine hamt.mono ?_; rintro e w' ⟨rfl, rfl⟩))
                clear hrf hper hamt
                go_quiet (fail)
                clear hw1 hw2 j0 j1
                go_wp2_with fail
                go_ret
                exact ⟨rfl, (HN _).out⟩
              · have hn := Lib.hid (it_next (x := ⟨xr, xp, xa⟩) (by rw [hone'.out, if_neg hlt2]) hi.out hd2.out)
                have dl : decide (xp < zp) = false := decide_eq_false hlt2
                clear hone' hi hd2 hlt2
                go_wp2_with (first | (go_at_call 35; refine hrf.mono ?_; rintro e w' ⟨rfl, rfl⟩) | (go_at_call 52; refine hper.mono ?_; rintro e w' ⟨rfl, rfl⟩) | (go_at_call 53; refine hamt.mono ?_; rintro e w' ⟨rfl, rfl⟩))
                clear hrf hper hamt
                go_quiet (fail)
                clear hw1 hw2 j0 j1
                go_wp2_with fail
                go_roundw
                case rel => exact ⟨k + 1, by omega, by go_num, hn, HN _⟩
                case measure => simp [intOf]; omega
      · have hke : its.drop k = [] := List.drop_eq_nil_of_le (by omega)
        have hd3 : decide ((k : Int) < (its.length : Int)) = false := decide_eq_false (by omega)
        have hr2 : r = 0 := by
          have a := hr1.out; have c := hi.out; rw [hke] at c; rw [show itFrom its its 0 = 0 from c] at a; exact a.symm
        subst hr2
        clear hi hke hr1
        go_wp2_with fail
        go_ret
        exact ⟨rfl, by rw [← HB.out]; exact hbel.out⟩
end Go.Proofs.YtbhndnjlplibmaaDoor.mt
