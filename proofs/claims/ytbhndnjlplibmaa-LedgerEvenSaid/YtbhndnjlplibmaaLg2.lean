/- ledger.Check at any balances: what is wrong with them. -/
import Derived.Test.YtbhndnjlplibmaaLg1
import Derived.BigQuiet
import Derived.Deep.QuietTactic
import Derived.Deep.RegionHeld3
import Derived.IntWalk
namespace Go.Proofs.Ytbhndnjlplibmaa.lg
open Go.RowKit

def prevL (t : List BalM) (k : Nat) : Option BalM := if k = 0 then none else t[k - 1]?
/-- does it not rise? -/
def notRise (p : Option BalM) (x : BalM) : Bool := match p with
  | some y => decide (0 ≤ balCmp y x)
  | none => false
def balOne (p : Option BalM) (x : BalM) : Int := if notRise p x = true then 5 else if mayB x.amt = false then 1 else if x.amt = 0 then 3 else 0
def balFrom (t : List BalM) : List BalM → Nat → Int
  | [], _ => 0
  | x :: r, k => if balOne (prevL t k) x = 0 then balFrom t r (k + 1) else balOne (prevL t k) x
def chkB (t : List BalM) : Int := if 200 < t.length then 4 else balFrom t t 0
theorem balFrom_drop {t : List BalM} {k : Nat} {x : BalM} (hk : t[k]? = some x) : balFrom t (t.drop k) k = if balOne (prevL t k) x = 0 then balFrom t (t.drop (k + 1)) (k + 1) else balOne (prevL t k) x := by
  obtain ⟨hk', rfl⟩ := List.getElem?_eq_some_iff.1 hk
  rw [List.drop_eq_getElem_cons hk', balFrom]
theorem bal_split {p : Option BalM} {x : BalM} {r N : Int} (h : r = if balOne p x = 0 then N else balOne p x) : r = if notRise p x = true then 5 else if mayB x.amt = false then 1 else if x.amt = 0 then 3 else N := by
  unfold balOne at h
  rw [h]
  by_cases c0 : notRise p x = true
  · rw [if_pos c0, if_pos c0, if_neg (by decide)]
  · rw [if_neg c0, if_neg c0]
    by_cases c1 : mayB x.amt = false
    · rw [if_pos c1, if_pos c1, if_neg (by decide)]
    · rw [if_neg c1, if_neg c1]
      by_cases c2 : x.amt = 0
      · rw [if_pos c2, if_pos c2, if_neg (by decide)]
      · rw [if_neg c2, if_neg c2, if_pos rfl]
def ErrPost (B : Nat) (w : World) (c : Int) (e : Ending) (w' : World) : Prop := e = .returned (errV c) ∧ Below B w w'

set_option maxRecDepth 100000 in
set_option maxHeartbeats 4000000 in
theorem check_r (r : Int) (ao : Option Addr) (cap : Nat) (t : List BalM) (w : World) (hh : BalsAt w ao t) (hm : t.length ≤ 9223372036854775807) (hr : Hid (chkB t = r)) :
    Calls Try.prog 26 #[.slice ao t.length cap] w (ErrPost w.heap.size w r) := by
  have HH := Lib.hid hh
  clear hh
  by_cases hlen : 200 < t.length
  · have hr4 : r = 4 := by have a := hr.out; rw [chkB, if_pos hlen] at a; exact a.symm
    subst hr4
    clear hr
    have hd : decide ((200 : Int) < (t.length : Int)) = true := decide_eq_true (by omega)
    go_enter Try.func26, Try.ntmps26
    go_wp2
    go_ret
    exact ⟨rfl, Below.refl _ _⟩
  · have hr1 : Hid (balFrom t t 0 = r) := by
      have a := hr.out; rw [chkB, if_neg hlen] at a; exact a
    have hd : decide ((200 : Int) < (t.length : Int)) = false := decide_eq_false (by omega)
    have hlen2 : t.length ≤ 200 := by omega
    obtain ⟨B, hB⟩ : ∃ B, B = w.heap.size := ⟨_, rfl⟩
    rw [← hB]
    have HB := Lib.hid hB
    clear hB hr hlen
    go_enter Try.func26, Try.ntmps26
    go_wp2_with fail
    go_loopw [11] (fun i wr => ∃ k : Nat, k ≤ t.length ∧ i = .int .i64 (k : Int) ∧ Hid (balFrom t (t.drop k) k = r) ∧ Hid (Below B w wr)) (fun i _ => t.length - (intOf i).toNat)
    case atStart => exact ⟨0, Nat.zero_le _, rfl, hr1, Below.refl _ _⟩
    case round =>
      clear hr1
      obtain ⟨k, hk, rfl, HR, HBW⟩ := hrel
      by_cases hlt : k < t.length
      · obtain ⟨x, hx⟩ := getElem?_ex hlt
        obtain ⟨b, off, rfl, hb, hcc⟩ := HH.out.resolve_left (fun e => by rw [e] at hlt; simp at hlt)
        have hbw : Below w.heap.size w wr := by rw [← HB.out]; exact HBW.out
        obtain ⟨y0, y1, y2, y3⟩ := hcc k x hx
        have x0 := (hbw.cell (p := ⟨b, _, none⟩) hb).trans y0
        have x1 := (hbw.cell (p := ⟨b, _, none⟩) hb).trans y1
        have x2 := (hbw.cell (p := ⟨b, _, none⟩) hb).trans y2
        have x3 := (hbw.cell (p := ⟨b, _, none⟩) hb).trans y3
        have hdr := balFrom_drop hx
        rw [HR.out] at hdr
        have HD := Lib.hid hdr
        have hi1 : (k : Int) < (t.length : Int) := by omega
        have hi0 : (0 : Int) ≤ (k : Int) := by omega
        obtain ⟨W, hW⟩ : ∃ W, W = wr.alloc (.cells #[.int .i64 x.ent, .string x.acc, .string x.cur, .int .i64 x.amt] 43) := ⟨_, rfl⟩
        have HBA : Hid (Below B w W) := by show Below _ _ _; rw [hW]; exact HBW.out.alloc (by rw [HB.out]; exact hbw.size) _
        have hbx : W.heap[wr.heap.size]? = some (.cells #[.int .i64 x.ent, .string x.acc, .string x.cur, .int .i64 x.amt] 43 (0, 0)) := by rw [hW]; exact heap_new_at rfl _
        have q0 : W.cell? ⟨wr.heap.size, 0, none⟩ = some (.int .i64 x.ent) := cell_of_heap hbx 0
        have q1 : W.cell? ⟨wr.heap.size, 1, none⟩ = some (.string x.acc) := cell_of_heap hbx 1
        have q2 : W.cell? ⟨wr.heap.size, 2, none⟩ = some (.string x.cur) := cell_of_heap hbx 2
        have q3 : W.cell? ⟨wr.heap.size, 3, none⟩ = some (.int .i64 x.amt) := cell_of_heap hbx 3
        have hwsz : wr.heap.size < W.heap.size := lt_of_heap hbx
        have hwb : b < wr.heap.size := Nat.lt_of_lt_of_le hb hbw.size
        have HW := Lib.hid hW
        clear hW hbx HR
        rcases Nat.eq_zero_or_pos k with h0 | h0
        · have z1 : decide ((0 : Int) < (k : Int)) = false := decide_eq_false (by omega)
          have z2 : decide (0 < k) = false := decide_eq_false (by omega)
          have HD2 : Hid (r = if mayB x.amt = false then 1 else if x.amt = 0 then 3 else balFrom t (t.drop (k + 1)) (k + 1)) := by
            have := bal_split HD.out
            rw [if_neg (by unfold prevL notRise; rw [if_pos h0]; simp)] at this
            exact this
          clear HD hcc h0 y0 y1 y2 y3 hx
          go_wp2_with fail
          rw [← HW.out]
          go_quiet (fail)
          go_wp2_with fail
          have HBN := fun n => Lib.hid (show Below B w (W.drewN n) from ⟨HBA.out.os, HBA.out.tape, HBA.out.output, HBA.out.size, HBA.out.block⟩)
          have hmy := fun w' => may_any x.amt w'
          cases hmb : mayB x.amt with
          | false =>
            have HR1 : Hid (r = 1) := by have := HD2.out; rw [if_pos hmb] at this; exact this
            rw [hmb] at hmy
            clear hmb HD2
            go_wp2_with fail
            refine (hmy _).mono ?_
            rintro e w' ⟨rfl, rfl⟩
            clear hmy
            go_wp2_with fail
            go_ret
            exact ⟨by rw [HR1.out]; rfl, (HBN _).out⟩
          | true =>
            rw [hmb] at hmy
            by_cases hz0 : x.amt = 0
            · have HR1 : Hid (r = 3) := by have := HD2.out; rw [if_neg (by rw [hmb]; simp), if_pos hz0] at this; exact this
              have hze : (x.amt == 0) = true := by simpa using hz0
              clear hmb HD2 hz0
              go_wp2_with fail
              refine (hmy _).mono ?_
              rintro e w' ⟨rfl, rfl⟩
              clear hmy
              go_wp2_with fail
              go_ret
              exact ⟨by rw [HR1.out]; rfl, (HBN _).out⟩
            · have HR1 : Hid (balFrom t (t.drop (k + 1)) (k + 1) = r) := by have := HD2.out; rw [if_neg (by rw [hmb]; simp), if_neg hz0] at this; exact this.symm
              have hze : (x.amt == 0) = false := by simpa using hz0
              clear hmb HD2 hz0
              go_wp2_with fail
              refine (hmy _).mono ?_
              rintro e w' ⟨rfl, rfl⟩
              clear hmy
              go_wp2_with fail
              go_roundw
              case rel => exact ⟨k + 1, by omega, by go_num, HR1, (HBN _)⟩
              case measure => simp [intOf]; omega
        · obtain ⟨m, rfl⟩ : ∃ m, k = m + 1 := ⟨k - 1, by omega⟩
          obtain ⟨z, hz⟩ := getElem?_ex (show m < t.length by omega)
          obtain ⟨z0, z1, z2, z3⟩ := hcc m z hz
          have hbW : Below w.heap.size w W := by rw [← HB.out]; exact HBA.out
          have a0 := (hbW.cell (p := ⟨b, _, none⟩) hb).trans z0
          have a1 := (hbW.cell (p := ⟨b, _, none⟩) hb).trans z1
          have a2 := (hbW.cell (p := ⟨b, _, none⟩) hb).trans z2
          have a3 := (hbW.cell (p := ⟨b, _, none⟩) hb).trans z3
          have hpv : notRise (prevL t (m + 1)) x = decide (0 ≤ balCmp z x) := by unfold prevL notRise; rw [if_neg (by omega), Nat.add_sub_cancel, hz]
          have HD2 : Hid (r = if decide (0 ≤ balCmp z x) = true then 5 else if mayB x.amt = false then 1 else if x.amt = 0 then 3 else balFrom t (t.drop (m + 1 + 1)) (m + 1 + 1)) := by
            have := bal_split HD.out
            rw [hpv] at this
            exact this
          have hcm := compare_bal z x W.drew
          have j0 : (0 : Int) ≤ (m : Int) := by omega
          have j1 : (m : Int) < (t.length : Int) := by omega
          have dk : decide ((0 : Int) < ((m + 1 : Nat) : Int)) = true := decide_eq_true (by omega)
          have dk' : decide ((0 : Int) < (m : Int) + 1) = true := decide_eq_true (by omega)
          have hw1 : IntKind.i64.wrap ((m : Int) + 1 - 1) = (m : Int) := by rw [show (m : Int) + 1 - 1 = (m : Int) by omega]; exact IntWalk.i64_in _ (by omega)
          have hw2 : IntKind.i64.wrap (((m + 1 : Nat) : Int) - 1) = (m : Int) := by rw [show ((m + 1 : Nat) : Int) - 1 = (m : Int) by omega]; exact IntWalk.i64_in _ (by omega)
          have hw3 : IntKind.i64.wrap (m : Int) = (m : Int) := IntWalk.i64_in _ (by omega)
          have sb : b < W.heap.size := by omega
          have HBW' : Hid (Below w.heap.size w wr) := by show Below _ _ _; rw [← HB.out]; exact HBW.out
          have KEEP : ∀ w9, Below W.drew.heap.size W.drew w9 → w9.cell? ⟨b, off + m * 4, none⟩ = some (.int .i64 z.ent) ∧ w9.cell? ⟨b, off + m * 4 + 1, none⟩ = some (.string z.acc) ∧ w9.cell? ⟨b, off + m * 4 + 2, none⟩ = some (.string z.cur) ∧ w9.cell? ⟨b, off + m * 4 + 3, none⟩ = some (.int .i64 z.amt) ∧
              w9.cell? ⟨wr.heap.size, 0, none⟩ = some (.int .i64 x.ent) ∧ w9.cell? ⟨wr.heap.size, 1, none⟩ = some (.string x.acc) ∧ w9.cell? ⟨wr.heap.size, 2, none⟩ = some (.string x.cur) ∧ w9.cell? ⟨wr.heap.size, 3, none⟩ = some (.int .i64 x.amt) := fun w9 hb9 =>
            ⟨(hb9.cell (p := ⟨b, off + m * 4, none⟩) sb).trans a0, (hb9.cell (p := ⟨b, off + m * 4 + 1, none⟩) sb).trans a1, (hb9.cell (p := ⟨b, off + m * 4 + 2, none⟩) sb).trans a2, (hb9.cell (p := ⟨b, off + m * 4 + 3, none⟩) sb).trans a3,
              (hb9.cell (p := ⟨wr.heap.size, 0, none⟩) hwsz).trans q0, (hb9.cell (p := ⟨wr.heap.size, 1, none⟩) hwsz).trans q1, (hb9.cell (p := ⟨wr.heap.size, 2, none⟩) hwsz).trans q2, (hb9.cell (p := ⟨wr.heap.size, 3, none⟩) hwsz).trans q3⟩
          have HKEEP := Lib.hid KEEP
          unfold balV at hcm
          clear HD hcc h0 y0 y1 y2 y3 hx hz z0 z1 z2 z3 hpv KEEP hbW
          go_wp2_with fail
          rw [← HW.out]
          go_region_held3 (fun w' => w'.cell? ⟨b, off + m * 4, none⟩ = some (.int .i64 z.ent) ∧ w'.cell? ⟨b, off + m * 4 + 1, none⟩ = some (.string z.acc) ∧ w'.cell? ⟨b, off + m * 4 + 2, none⟩ = some (.string z.cur) ∧ w'.cell? ⟨b, off + m * 4 + 3, none⟩ = some (.int .i64 z.amt) ∧
              w'.cell? ⟨wr.heap.size, 0, none⟩ = some (.int .i64 x.ent) ∧ w'.cell? ⟨wr.heap.size, 1, none⟩ = some (.string x.acc) ∧ w'.cell? ⟨wr.heap.size, 2, none⟩ = some (.string x.cur) ∧ w'.cell? ⟨wr.heap.size, 3, none⟩ = some (.int .i64 x.amt))
            (first | exact HKEEP.out _ hb9 | exact ⟨a0, a1, a2, a3, q0, q1, q2, q3⟩ | go_keep)
            (first
              | (go_at_call 59; refine hcm.mono ?_; rintro e w9 ⟨rfl, hb9⟩))
          have HB9 : Hid (Below B w w9) := HBA.out.drew.trans (hb9.mono (show B ≤ W.heap.size by rw [HB.out]; exact Nat.le_trans HBW'.out.size (Nat.le_of_lt hwsz)))
          have u3 := (HKEEP.out w9 hb9).2.2.2.2.2.2.2
          clear hw1 hw2 hw3 hcm HKEEP a0 a1 a2 a3 q0 q1 q2 q3 sb hb9
          by_cases hcc : 0 ≤ balCmp z x
          · have dcc : decide (0 ≤ balCmp z x) = true := decide_eq_true hcc
            have HR1 : Hid (r = 5) := by have := HD2.out; rw [if_pos dcc] at this; exact this
            clear HD2
            go_wp2_with fail
            go_ret
            exact ⟨by rw [HR1.out]; rfl, HB9.out⟩
          · have dcc : decide (0 ≤ balCmp z x) = false := decide_eq_false hcc
            have HD3 : Hid (r = if mayB x.amt = false then 1 else if x.amt = 0 then 3 else balFrom t (t.drop (m + 1 + 1)) (m + 1 + 1)) := by have := HD2.out; rw [if_neg (by rw [dcc]; simp)] at this; exact this
            have hcc2 : balCmp z x < 0 := by omega
            clear hcc HD2
            have hmy := fun w' => may_any x.amt w'
            cases hmb : mayB x.amt with
            | false =>
              have HR1 : Hid (r = 1) := by have := HD3.out; rw [if_pos hmb] at this; exact this
              rw [hmb] at hmy
              clear hmb HD3
              go_wp2_with fail
              refine (hmy _).mono ?_
              rintro e w' ⟨rfl, rfl⟩
              clear hmy
              go_wp2_with fail
              go_ret
              exact ⟨by rw [HR1.out]; rfl, HB9.out⟩
            | true =>
              rw [hmb] at hmy
              by_cases hz0 : x.amt = 0
              · have HR1 : Hid (r = 3) := by have := HD3.out; rw [if_neg (by rw [hmb]; simp), if_pos hz0] at this; exact this
                have hze : (x.amt == 0) = true := by simpa using hz0
                clear hmb HD3 hz0
                go_wp2_with fail
                refine (hmy _).mono ?_
                rintro e w' ⟨rfl, rfl⟩
                clear hmy
                go_wp2_with fail
                go_ret
                exact ⟨by rw [HR1.out]; rfl, HB9.out⟩
              · have HR1 : Hid (balFrom t (t.drop ((m + 1) + 1)) ((m + 1) + 1) = r) := by have := HD3.out; rw [if_neg (by rw [hmb]; simp), if_neg hz0] at this; exact this.symm
                have hze : (x.amt == 0) = false := by simpa using hz0
                clear hmb HD3 hz0
                go_wp2_with fail
                refine (hmy _).mono ?_
                rintro e w' ⟨rfl, rfl⟩
                clear hmy
                go_wp2_with fail
                go_roundw
                case rel => exact ⟨(m + 1) + 1, by omega, by go_num, HR1, HB9⟩
                case measure => simp [intOf]; omega
      · obtain rfl : k = t.length := by omega
        have hz := HR.out
        rw [List.drop_of_length_le (Nat.le_refl _)] at hz
        have HZ : Hid (0 = r) := hz
        clear hz HR
        go_wp2_with fail
        go_ret
        exact ⟨by rw [← HZ.out]; rfl, HBW.out⟩
end Go.Proofs.Ytbhndnjlplibmaa.lg
