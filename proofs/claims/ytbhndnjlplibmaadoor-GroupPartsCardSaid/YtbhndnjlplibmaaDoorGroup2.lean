/- The search for a holding by package group's second closure, at any holdings. -/
import Derived.Test.YtbhndnjlplibmaaDoorGroup1
namespace Go.Proofs.YtbhndnjlplibmaaDoor
open Go.RowKit

set_option maxHeartbeats 1000000 in
theorem indexf_order (p : Hold → Bool) (b0 b1 : Nat) (ao : Option Addr) (cap : Nat) (hs : List Hold) (w : World) (hh : HoldsAt w.heap.size w ao hs) (hm : hs.length ≤ 9223372036854775807)
    (hf : Answers 77 (fun v => #[v, .pointer (some ⟨b0, 0, none⟩), .pointer (some ⟨b1, 0, none⟩)]) w.heap.size w p) :
    Calls Tryd.prog 75 #[.slice ao hs.length cap, .func (.func 77) #[] #[.pointer (some ⟨b0, 0, none⟩), .pointer (some ⟨b1, 0, none⟩)]] w fun e w' => e = .returned (.int .i64 (firstFrom p hs 0)) ∧ Below w.heap.size w w' := by
  rcases hh with rfl | ⟨b, off, rfl, hB, hc⟩
  · go_enter Tryd.func75, Tryd.ntmps75
    go_wp2
    refine wp_loop_rounds 1 ?_
    rw [rounds_succ]
    go_wp2
    go_ret
    exact ⟨rfl, Below.refl _ _⟩
  · have HC := Lib.hid hc
    clear hc
    go_enter Tryd.func75, Tryd.ntmps75
    go_wp2
    go_loopw [8] (fun i wr => ∃ k : Nat, k ≤ hs.length ∧ i = .int .i64 k ∧ Hid (firstFrom p hs 0 = firstFrom p (hs.drop k) k) ∧ Below w.heap.size w wr) (fun i _ => hs.length - (intOf i).toNat)
    case atStart => exact ⟨0, Nat.zero_le _, rfl, rfl, Below.refl _ _⟩
    case round =>
      obtain ⟨k, hk, rfl, hi, hbel⟩ := hrel
      by_cases hlt : k < hs.length
      · obtain ⟨x, hx⟩ := getElem?_ex hlt
        obtain ⟨c0, c1, c2⟩ := HC.out k x hx
        have c0 := (hbel.cell (p := ⟨b, _, none⟩) hB).trans c0
        have c1 := (hbel.cell (p := ⟨b, _, none⟩) hB).trans c1
        have c2 := (hbel.cell (p := ⟨b, _, none⟩) hB).trans c2
        have hd := Lib.hid (firstFrom_drop p hs k x hx)
        have hcall := hf x wr hbel
        have HF := Lib.hid hf
        clear hx hf
        by_cases hp : p x = true
        · have hd2 : Hid (firstFrom p hs 0 = (k : Int)) := by
            have a := hi.out; have b := hd.out; rw [if_pos hp] at b; exact a.trans b
          rw [hp] at hcall
          clear hi hd hp
          go_wp2_with fail
          refine hcall.mono ?_
          rintro e w1 ⟨rfl, hb1⟩
          go_wp2_with fail
          go_ret
          exact ⟨ret_int hd2.out.symm, hbel.trans (hb1.mono hbel.size)⟩
        · have hd2 : Hid (firstFrom p hs 0 = firstFrom p (hs.drop (k + 1)) (k + 1)) := by
            have a := hi.out; have b := hd.out; rw [if_neg hp] at b; exact a.trans b
          have hp' : p x = false := by simpa using hp
          rw [hp'] at hcall
          clear hi hd hp hp'
          go_wp2_with fail
          refine hcall.mono ?_
          rintro e w1 ⟨rfl, hb1⟩
          go_wp2_with fail
          go_roundw
          case rel => exact ⟨k + 1, by omega, by go_num, hd2, hbel.trans (hb1.mono hbel.size)⟩
          case measure => simp [intOf]; omega
      · have hke : hs.drop k = [] := List.drop_eq_nil_of_le (by omega)
        have hd2 : Hid (firstFrom p hs 0 = -1) := by have a := hi.out; rw [hke] at a; exact a
        have HF := Lib.hid hf
        clear hi hke hf
        go_wp2
        go_ret
        exact ⟨ret_int hd2.out.symm, hbel⟩

set_option maxHeartbeats 1000000 in
theorem containsf_order (p : Hold → Bool) (b0 b1 : Nat) (ao : Option Addr) (cap : Nat) (hs : List Hold) (w : World) (hh : HoldsAt w.heap.size w ao hs) (hm : hs.length ≤ 9223372036854775807)
    (hf : Answers 77 (fun v => #[v, .pointer (some ⟨b0, 0, none⟩), .pointer (some ⟨b1, 0, none⟩)]) w.heap.size w p) :
    Calls Tryd.prog 45 #[.slice ao hs.length cap, .func (.func 77) #[] #[.pointer (some ⟨b0, 0, none⟩), .pointer (some ⟨b1, 0, none⟩)]] w fun e w' => e = .returned (.bool (hs.any p)) ∧ Below w.heap.size w w' := by
  have hb : Hid ((decide (0 ≤ firstFrom p hs 0)) = hs.any p) := by
    show _ = _
    rw [Bool.eq_iff_iff, decide_eq_true_iff, firstFrom_nonneg]
  have hi := indexf_order p b0 b1 ao cap hs w hh hm hf
  clear hh hf
  go_enter Tryd.func45, Tryd.ntmps45
  go_wp2_with fail
  refine hi.mono ?_
  rintro e w' ⟨rfl, hbel⟩
  generalize firstFrom p hs 0 = x at hb
  go_wp2
  go_ret
  exact ⟨ret_bool hb.out, hbel⟩

set_option maxHeartbeats 1000000 in
/-- group.order$1: has one that is not yet in the list a part of it? -/
theorem order1_any (x : Hold) (b0 b1 : Nat) (e : Int) (ao : Option Addr) (cap : Nat) (out : List Int) (w : World) (h0 : w.cell? ⟨b0, 0, none⟩ = some (.int .i64 e)) (h1 : w.cell? ⟨b1, 0, none⟩ = some (.slice ao out.length cap))
    (hz : IntsAt w ao out) (hB : ∀ b off, ao = some ⟨b, off, none⟩ → b < w.heap.size) (hm : out.length ≤ 9223372036854775807) :
    Calls Tryd.prog 77 #[.agg #[.int .i64 x.e, .int .i64 x.o, .int .i64 x.p], .pointer (some ⟨b0, 0, none⟩), .pointer (some ⟨b1, 0, none⟩)] w fun e' w' => e' = .returned (.bool (x.o == e && !(memB out x.e))) ∧ Below w.heap.size w w' := by
  have hb0 : b0 < w.heap.size := by
    rcases Nat.lt_or_ge b0 w.heap.size with h | h
    · exact h
    · simp [World.cell?, Array.getElem?_eq_none h] at h0
  have hb1 : b1 < w.heap.size := by
    rcases Nat.lt_or_ge b1 w.heap.size with h | h
    · exact h
    · simp [World.cell?, Array.getElem?_eq_none h] at h1
  obtain ⟨xe, xo, xp⟩ := x
  dsimp only at *
  have hcon := contains_ints ao cap out xe (w.alloc (.cells #[.int .i64 xe, .int .i64 xo, .int .i64 xp] 99)) (by
    rcases hz with hz | ⟨b, off, e1, hc⟩
    · exact Or.inl hz
    · exact Or.inr ⟨b, off, e1, fun i hi => (World.cell?_alloc_lt _ _ ⟨b, off + i, none⟩ (hB b off e1)).trans (hc i hi)⟩) hm
  by_cases e1 : xo = e
  · have e1' : (xo == e) = true := beq_iff_eq.2 e1
    have H := Lib.hid e1'
    have HB := Lib.hid hB
    clear e1 hB hz
    go_enter Tryd.func77, Tryd.ntmps77
    go_wp2_with fail
    refine hcon.mono ?_
    rintro e' w' ⟨rfl, rfl⟩
    go_wp2_with fail
    go_ret
    exact ⟨ret_bool (by rw [H.out]; rfl), (Below.refl _ _).alloc (Nat.le_refl _) _⟩
  · have e1' : (xo == e) = false := beq_eq_false_iff_ne.2 e1
    have H := Lib.hid e1'
    have HB := Lib.hid hB
    clear e1 hB hz hcon
    go_enter Tryd.func77, Tryd.ntmps77
    go_wp2_with fail
    go_ret
    exact ⟨ret_bool (by rw [H.out]; rfl), (Below.refl _ _).alloc (Nat.le_refl _) _⟩
end Go.Proofs.YtbhndnjlplibmaaDoor
