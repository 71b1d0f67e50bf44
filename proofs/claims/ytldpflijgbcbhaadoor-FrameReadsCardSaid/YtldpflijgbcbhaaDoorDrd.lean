/- dayref2's reader D: a number, a text. -/
import Derived.Test.YtldpflijgbcbhaaDoorFrd2
namespace Go.Proofs.YtldpflijgbcbhaaDoor.dd
open Go.RowKit

structure ReaderIs (w : World) (g : Nat) (sp : Option Addr) (cap : Nat) (l : List UInt8) (at_ : Nat) (bad : Bool) : Prop where
  self : w.heap[g]? = some (.cells #[.slice sp l.length cap, .int .i64 at_, .bool bad] 95 (0, 0))
  src : SrcAt w g sp l
  le : at_ ≤ l.length
  cap : l.length ≤ cap
  max : l.length ≤ 140737488355328

theorem ReaderIs.lt {w : World} {g : Nat} {sp : Option Addr} {cap : Nat} {l : List UInt8} {at_ : Nat} {bad : Bool} (h : ReaderIs w g sp cap l at_ bad) : g < w.heap.size := lt_of_heap h.self
theorem ReaderIs.set1 {w : World} {g : Nat} {sp : Option Addr} {cap : Nat} {l : List UInt8} {at_ : Nat} {bad : Bool} (h : ReaderIs w g sp cap l at_ bad) (a : Nat) (ha : a ≤ l.length) : ReaderIs (w.setCell ⟨g, 1, none⟩ (.int .i64 (a : Int))) g sp cap l a bad where
  self := heap_setCell_same h.self _
  src := fun h0 => by
    obtain ⟨b, o, e, hb, hne, hc⟩ := h.src h0
    exact ⟨b, o, e, by simpa using hb, hne, fun j x hj => (World.cell?_of_block (a := ⟨b, o + j, none⟩) (Below.heap_setCell _ _ _ _ hne)).trans (hc j x hj)⟩
  le := ha
  cap := h.cap
  max := h.max
theorem ReaderIs.set2 {w : World} {g : Nat} {sp : Option Addr} {cap : Nat} {l : List UInt8} {at_ : Nat} {bad : Bool} (h : ReaderIs w g sp cap l at_ bad) (b' : Bool) : ReaderIs (w.setCell ⟨g, 2, none⟩ (.bool b')) g sp cap l at_ b' where
  self := heap_setCell_same h.self _
  src := fun h0 => by
    obtain ⟨b, o, e, hb, hne, hc⟩ := h.src h0
    exact ⟨b, o, e, by simpa using hb, hne, fun j x hj => (World.cell?_of_block (a := ⟨b, o + j, none⟩) (Below.heap_setCell _ _ _ _ hne)).trans (hc j x hj)⟩
  le := h.le
  cap := h.cap
  max := h.max
theorem ReaderIs.drewN {w : World} {g : Nat} {sp : Option Addr} {cap : Nat} {l : List UInt8} {at_ : Nat} {bad : Bool} (h : ReaderIs w g sp cap l at_ bad) (n : Nat) : ReaderIs (w.drewN n) g sp cap l at_ bad := ⟨h.self, h.src, h.le, h.cap, h.max⟩
theorem ReaderIs.c0 {w : World} {g : Nat} {sp : Option Addr} {cap : Nat} {l : List UInt8} {at_ : Nat} {bad : Bool} (h : ReaderIs w g sp cap l at_ bad) : w.cell? ⟨g, 0, none⟩ = some (.slice sp l.length cap) := cell_of_heap h.self 0
theorem ReaderIs.c1 {w : World} {g : Nat} {sp : Option Addr} {cap : Nat} {l : List UInt8} {at_ : Nat} {bad : Bool} (h : ReaderIs w g sp cap l at_ bad) : w.cell? ⟨g, 1, none⟩ = some (.int .i64 at_) := cell_of_heap h.self 1
theorem ReaderIs.c2 {w : World} {g : Nat} {sp : Option Addr} {cap : Nat} {l : List UInt8} {at_ : Nat} {bad : Bool} (h : ReaderIs w g sp cap l at_ bad) : w.cell? ⟨g, 2, none⟩ = some (.bool bad) := cell_of_heap h.self 2

def RNumPost (g : Nat) (sp : Option Addr) (cap : Nat) (l : List UInt8) (lo hi : Int) (at_ : Nat) (bad : Bool) (w : World) (e : Ending) (w' : World) : Prop :=
  ∃ (n : Int) (at' : Nat) (bad' : Bool), e = .returned (.int .i64 n) ∧ Only (fun k => k = g) w w' ∧ ReaderIs w' g sp cap l at' bad' ∧ NumRel l lo hi at_ bad n at' bad'

set_option maxRecDepth 100000 in
set_option maxHeartbeats 4000000 in
theorem rnum_bad (lo hi : Int) (w : World) (g : Nat) (sp : Option Addr) (cap : Nat) (l : List UInt8) (at_ : Nat) (h : ReaderIs w g sp cap l at_ true) :
    Calls Tryd.prog 55 #[.pointer (some ⟨g, 0, none⟩), .int .i64 lo, .int .i64 hi] w (RNumPost g sp cap l lo hi at_ true w) := by
  have c2 := h.c2
  have f2 : w.frozen? ⟨g, 2, none⟩ = false := free_of_heap h.self 2
  have h2 := h.set2 true
  have HOUT : Hid (RNumPost g sp cap l lo hi at_ true w (.returned (.int .i64 0)) (w.setCell ⟨g, 2, none⟩ (.bool true))) :=
    ⟨0, at_, true, rfl, (Only.refl (fun k => k = g) w).setCell (p := ⟨g, 2, none⟩) rfl _, h2, by simp [NumRel]⟩
  clear h h2
  go_enter Tryd.func55, Tryd.ntmps55
  go_wp2_with fail
  refine wp_loop_rounds 1 ?_
  rw [rounds_succ]
  go_wp2_with fail
  go_ret
  exact HOUT.out

/-- what stands at the head of a round -/
structure NumAt (w : World) (g : Nat) (sp : Option Addr) (cap : Nat) (l : List UInt8) (at_ j acc a : Nat) (wr : World) : Prop where
  only : Only (fun k => k = g) w wr
  rd : ReaderIs wr g sp cap l a false
  eq : rdv 0 0 (l.drop at_) = rdv j acc (l.drop a)
  lt : acc < 128 ^ j
  j10 : j ≤ 10
  pos : a = at_ + j

/-- the loop is left: it is none -/
theorem num_none {w wr : World} {g : Nat} {sp : Option Addr} {cap : Nat} {l : List UInt8} {at_ j acc a : Nat} (h : NumAt w g sp cap l at_ j acc a wr) (hn : rdv j acc (l.drop a) = none) (lo hi : Int) (n : Nat) :
    RNumPost g sp cap l lo hi at_ false w (.returned (.int .i64 0)) ((wr.drewN n).setCell ⟨g, 2, none⟩ (.bool true)) := by
  refine ⟨0, a, true, rfl, ?_, (h.rd.drewN n).set2 true, ?_⟩
  · have h1 : Only (fun k => k = g) w (wr.drewN n) := ⟨h.only.os, h.only.tape, h.only.output, h.only.size, h.only.block⟩
    exact h1.setCell (p := ⟨g, 2, none⟩) rfl _
  · have e := h.eq
    rw [hn] at e
    simp [NumRel, rdNum, e]
theorem drewN_setCell1 {w : World} {g : Nat} {n : Nat} {S : Nat → Prop} {w0 : World} (h : Only S w0 w) (hg : S g) (v : Value) : Only S w0 ((w.drewN n).setCell ⟨g, 1, none⟩ v) :=
  (show Only S w0 (w.drewN n) from ⟨h.os, h.tape, h.output, h.size, h.block⟩).setCell (p := ⟨g, 1, none⟩) hg v
/-- the number is whole -/
theorem num_some {w wr : World} {g : Nat} {sp : Option Addr} {cap : Nat} {l : List UInt8} {at_ j acc a acc2 : Nat} (h : NumAt w g sp cap l at_ j acc a wr) (hn : rdv j acc (l.drop a) = some (acc2, l.drop (a + 1))) (ha : a < l.length) (lo hi m : Int) (hm : m = zag acc2) (n : Nat) (bb : Bool) (hbb : bb = (decide (m < lo) || decide (hi < m))) :
    RNumPost g sp cap l lo hi at_ false w (.returned (.int .i64 m)) (((wr.drewN n).setCell ⟨g, 1, none⟩ (.int .i64 ((a : Int) + 1))).setCell ⟨g, 2, none⟩ (.bool bb)) := by
  subst hbb
  have h1 := ((h.rd.drewN n).set1 (a + 1) (by omega)).set2 (decide (m < lo) || decide (hi < m))
  rw [show ((a + 1 : Nat) : Int) = (a : Int) + 1 by omega] at h1
  refine ⟨m, a + 1, _, rfl, (drewN_setCell1 h.only rfl _).setCell (p := ⟨g, 2, none⟩) rfl _, h1, ?_⟩
  have e := h.eq
  rw [hn] at e
  simp only [NumRel, rdNum, e, Option.bind_some, ← hm]
  by_cases hb : lo ≤ m ∧ m ≤ hi
  · rw [if_pos hb]
    simp only [Bool.false_eq_true, if_false]
    exact ⟨by rw [decide_eq_false (by omega), decide_eq_false (by omega)]; rfl, trivial, trivial⟩
  · rw [if_neg hb]
    simp only [Bool.false_eq_true, if_false]
    by_cases h2 : m < lo
    · rw [decide_eq_true h2]; rfl
    · rw [decide_eq_true (show hi < m by omega), Bool.or_true]
/-- one byte more -/
theorem num_next {w wr : World} {g : Nat} {sp : Option Addr} {cap : Nat} {l : List UInt8} {at_ j acc a acc2 : Nat} (h : NumAt w g sp cap l at_ j acc a wr) (hn : rdv j acc (l.drop a) = rdv (j + 1) acc2 (l.drop (a + 1))) (ha : a < l.length) (h2 : acc2 < 128 ^ (j + 1)) (hj : j ≤ 9) (n : Nat) :
    NumAt w g sp cap l at_ (j + 1) acc2 (a + 1) ((wr.drewN n).setCell ⟨g, 1, none⟩ (.int .i64 ((a : Int) + 1))) := by
  have h1 := (h.rd.drewN n).set1 (a + 1) (by omega)
  rw [show ((a + 1 : Nat) : Int) = (a : Int) + 1 by omega] at h1
  exact ⟨drewN_setCell1 h.only rfl _, h1, h.eq.trans hn, h2, by omega, by have := h.pos; omega⟩
/-- .. behind the byte -/
theorem num_none1 {w wr : World} {g : Nat} {sp : Option Addr} {cap : Nat} {l : List UInt8} {at_ j acc a : Nat} (h : NumAt w g sp cap l at_ j acc a wr) (hn : rdv j acc (l.drop a) = none) (ha : a < l.length) (lo hi : Int) (n : Nat) :
    RNumPost g sp cap l lo hi at_ false w (.returned (.int .i64 0)) (((wr.drewN n).setCell ⟨g, 1, none⟩ (.int .i64 ((a : Int) + 1))).setCell ⟨g, 2, none⟩ (.bool true)) := by
  have h1 := ((h.rd.drewN n).set1 (a + 1) (by omega)).set2 true
  rw [show ((a + 1 : Nat) : Int) = (a : Int) + 1 by omega] at h1
  refine ⟨0, a + 1, true, rfl, (drewN_setCell1 h.only rfl _).setCell (p := ⟨g, 2, none⟩) rfl _, h1, ?_⟩
  have e := h.eq
  rw [hn] at e
  simp [NumRel, rdNum, e]
theorem num_in {w wr : World} {g : Nat} {sp : Option Addr} {cap : Nat} {l : List UInt8} {at_ j acc a acc2 : Nat} (h : NumAt w g sp cap l at_ j acc a wr) (hn : rdv j acc (l.drop a) = some (acc2, l.drop (a + 1))) (ha : a < l.length) (lo hi m : Int) (hm : m = zag acc2) (n : Nat) (h1 : lo ≤ m) (h2 : m ≤ hi) :
    RNumPost g sp cap l lo hi at_ false w (.returned (.int .i64 m)) ((wr.drewN n).setCell ⟨g, 1, none⟩ (.int .i64 ((a : Int) + 1))) := by
  have h3 := (h.rd.drewN n).set1 (a + 1) (by omega)
  rw [show ((a + 1 : Nat) : Int) = (a : Int) + 1 by omega] at h3
  refine ⟨m, a + 1, false, rfl, drewN_setCell1 h.only rfl _, h3, ?_⟩
  have e := h.eq
  rw [hn] at e
  simp only [NumRel, rdNum, e, Option.bind_some, ← hm]
  rw [if_pos (show lo ≤ m ∧ m ≤ hi from ⟨h1, h2⟩)]
  simp
theorem num_out {w wr : World} {g : Nat} {sp : Option Addr} {cap : Nat} {l : List UInt8} {at_ j acc a acc2 : Nat} (h : NumAt w g sp cap l at_ j acc a wr) (hn : rdv j acc (l.drop a) = some (acc2, l.drop (a + 1))) (ha : a < l.length) (lo hi m : Int) (hm : m = zag acc2) (n : Nat) (h1 : m < lo ∨ hi < m) :
    RNumPost g sp cap l lo hi at_ false w (.returned (.int .i64 m)) (((wr.drewN n).setCell ⟨g, 1, none⟩ (.int .i64 ((a : Int) + 1))).setCell ⟨g, 2, none⟩ (.bool true)) := by
  have h3 := num_some h hn ha lo hi m hm n true (by
    rcases h1 with h1 | h1
    · rw [decide_eq_true h1]; rfl
    · rw [decide_eq_true h1, Bool.or_true])
  exact h3
theorem pow9 {j : Nat} (h : j ≤ 9) : 128 ^ j ≤ 9223372036854775808 := by
  have := Nat.pow_le_pow_right (n := 128) (by omega) h
  simpa using this
/-- the sum and the factor, as the program reckons them -/
theorem sum_walk {acc c j : Nat} (_ : j ≤ 9) (hlt : acc + c % 128 * 128 ^ j < 18446744073709551616) : IntKind.u64.wrap ((acc : Int) + IntKind.u64.wrap ((c : Int) % 128 * ((128 ^ j : Nat) : Int))) = ((acc + c % 128 * 128 ^ j : Nat) : Int) := by
  have e : (c : Int) % 128 * ((128 ^ j : Nat) : Int) = ((c % 128 * 128 ^ j : Nat) : Int) := by simp
  rw [e, wrap_u64, wrap_u64]
  generalize c % 128 * 128 ^ j = y at *
  omega

set_option maxRecDepth 100000 in
set_option maxHeartbeats 8000000 in
theorem rnum_good (lo hi : Int) (w : World) (g : Nat) (sp : Option Addr) (cap : Nat) (l : List UInt8) (at_ : Nat) (h : ReaderIs w g sp cap l at_ false) :
    Calls Tryd.prog 55 #[.pointer (some ⟨g, 0, none⟩), .int .i64 lo, .int .i64 hi] w (RNumPost g sp cap l lo hi at_ false w) := by
  have hst : NumAt w g sp cap l at_ 0 0 at_ w := ⟨Only.refl _ _, h, rfl, by simp, by omega, rfl⟩
  have hmax := h.max
  clear h
  go_enter Tryd.func55, Tryd.ntmps55
  go_wp2_with fail
  go_loopw [7, 8, 9] (fun x y i wr => ∃ j acc a by_ : Nat, x = .int .u64 (acc : Int) ∧ y = .int .u64 (by_ : Int) ∧ i = .int .i64 (j : Int) ∧ Hid (NumAt w g sp cap l at_ j acc a wr) ∧ Hid (j ≤ 9 → by_ = 128 ^ j)) (fun _ _ i _ => 11 - (intOf i).toNat)
  case atStart => exact ⟨0, 0, at_, 1, rfl, rfl, rfl, hst, fun _ => rfl⟩
  case round =>
    clear hst
    obtain ⟨j, acc, a, by_, rfl, rfl, rfl, hR, hby⟩ := hrel
    have hj10 := hR.out.j10
    have ha := hR.out.rd.le
    have c0 := hR.out.rd.c0
    have c1 := hR.out.rd.c1
    have c2 := hR.out.rd.c2
    have f2 : wr.frozen? ⟨g, 2, none⟩ = false := free_of_heap hR.out.rd.self 2
    have f1 : wr.frozen? ⟨g, 1, none⟩ = false := free_of_heap hR.out.rd.self 1
    by_cases h9 : 9 < j
    · have d2 : decide ((j : Int) < 10) = false := decide_eq_false (by omega)
      have d2n : decide (j < 10) = false := decide_eq_false (by omega)
      have hn : Hid (rdv j acc (l.drop a) = none) := rdv_stop (Or.inr h9)
      have HOUT := Lib.hid (num_none hR.out hn.out lo hi 0)
      clear hR hn hby
      go_wp2_with fail
      go_ret
      exact HOUT.out
    · have d2 : decide ((j : Int) < 10) = true := decide_eq_true (by omega)
      have d2n : decide (j < 10) = true := decide_eq_true (by omega)
      by_cases hal : l.length ≤ a
      · have d1 : decide ((l.length : Int) ≤ (a : Int)) = true := decide_eq_true (by omega)
        have hn : Hid (rdv j acc (l.drop a) = none) := rdv_stop (Or.inl (List.drop_eq_nil_of_le hal))
        have HOUT := fun n => Lib.hid (num_none hR.out hn.out lo hi n)
        clear hR hn hby
        go_wp2_with fail
        go_quiet (fail)
        go_wp2_with fail
        go_ret
        exact (HOUT _).out
      · have d1 : decide ((l.length : Int) ≤ (a : Int)) = false := decide_eq_false (by omega)
        obtain ⟨b, o, rfl, hb, hbg, hcell⟩ := hR.out.rd.src (by omega)
        obtain ⟨cn, hcn⟩ : ∃ cn, cn = (l[a]'(by omega)).toNat := ⟨_, rfl⟩
        have hc256 : cn < 256 := by rw [hcn]; exact UInt8.toNat_lt _
        have c3 : wr.cell? ⟨b, o + a, none⟩ = some (.int .u8 (cn : Int)) := by rw [hcn]; exact hcell a _ (List.getElem?_eq_getElem (by omega))
        have hstep : Hid (rdv j acc (l.drop a) = if 9 < j ∨ (j = 9 ∧ 1 < cn) ∨ (0 < j ∧ cn = 0) then none else if cn < 128 then some (acc + cn * 128 ^ j, l.drop (a + 1)) else rdv (j + 1) (acc + cn % 128 * 128 ^ j) (l.drop (a + 1))) := by
          show _ = _
          rw [drop_cons (by omega), rdv, hcn]
        have hi1 : (a : Int) < (l.length : Int) := by omega
        have hi0 : (0 : Int) ≤ (a : Int) := by omega
        have hal' : a < l.length := by omega
        clear hcn hcell
        by_cases hstop : (j = 9 ∧ 1 < cn) ∨ (0 < j ∧ cn = 0)
        · have hn : Hid (rdv j acc (l.drop a) = none) := by show _ = _; rw [hstep.out, if_pos (Or.inr hstop)]
          have HOUT := fun n => Lib.hid (num_none1 hR.out hn.out hal' lo hi n)
          have hs : (j = 9 ∧ decide ((1 : Int) < (cn : Int)) = true) ∨ (j = 9 ∧ cn = 0) ∨ (((j : Int) == 9) = false ∧ decide ((0 : Int) < (j : Int)) = true ∧ decide (0 < j) = true ∧ cn = 0) := by
            simp only [beq_eq_false_iff_ne, decide_eq_true_eq]
            omega
          clear hstep hstop hn hby
          rcases hs with ⟨rfl, e4⟩ | ⟨rfl, rfl⟩ | ⟨e3, e5, e5n, rfl⟩
          all_goals
            clear hR
            go_wp2_with fail
            go_quiet (fail)
            go_wp2_with fail
            go_quiet (fail)
            go_wp2_with fail
            go_ret
            exact (HOUT _).out
        · have hs : (((j : Int) == 9) = true ∧ decide ((1 : Int) < (cn : Int)) = false ∧ decide (1 < cn) = false ∧ decide ((0 : Int) < (j : Int)) = true ∧ decide (0 < j) = true ∧ ((cn : Int) == 0) = false) ∨ (((j : Int) == 9) = false ∧ (1 : Nat) = 1 ∧ (1 : Nat) = 1 ∧ decide ((0 : Int) < (j : Int)) = true ∧ decide (0 < j) = true ∧ ((cn : Int) == 0) = false) ∨ (((j : Int) == 9) = false ∧ (1 : Nat) = 1 ∧ (1 : Nat) = 1 ∧ decide ((0 : Int) < (j : Int)) = false ∧ decide (0 < j) = false ∧ (1 : Nat) = 1) := by
            have hns : ¬ (j = 9 ∧ 1 < cn) ∧ ¬ (0 < j ∧ cn = 0) := not_or.1 hstop
            by_cases hj : j = 9
            · have : ¬ 1 < cn := fun h => hns.1 ⟨hj, h⟩
              have : cn ≠ 0 := fun h => hns.2 ⟨by omega, h⟩
              exact Or.inl ⟨beq_iff_eq.2 (by omega), decide_eq_false (by omega), decide_eq_false (by omega), decide_eq_true (by omega), decide_eq_true (by omega), beq_eq_false_iff_ne.2 (by omega)⟩
            · by_cases h0 : 0 < j
              · have : cn ≠ 0 := fun h => hns.2 ⟨h0, h⟩
                exact Or.inr (Or.inl ⟨beq_eq_false_iff_ne.2 (by omega), rfl, rfl, decide_eq_true (by omega), decide_eq_true h0, beq_eq_false_iff_ne.2 (by omega)⟩)
              · exact Or.inr (Or.inr ⟨beq_eq_false_iff_ne.2 (by omega), rfl, rfl, decide_eq_false (by omega), decide_eq_false h0, rfl⟩)
          have hj9 : j ≤ 9 := by omega
          obtain ⟨_, hlt64⟩ := or_walk (c := cn) hR.out.lt (show j ≤ 9 by omega) (fun h => by have := (not_or.1 hstop).1; have : ¬ 1 < cn := fun h' => this ⟨h, h'⟩; omega)
          have hnext := acc_lt (c := cn % 128) hR.out.lt (by omega)
          have HNEXT := Lib.hid hnext
          have hsum := sum_walk hj9 hlt64
          rw [← hby.out hj9] at hsum
          have hsum2 : (acc : Int) + (cn : Int) % 128 * (by_ : Int) = ((acc + cn % 128 * 128 ^ j : Nat) : Int) := by rw [hby.out hj9]; simp
          have hstep2 : Hid (rdv j acc (l.drop a) = if cn < 128 then some (acc + cn % 128 * 128 ^ j, l.drop (a + 1)) else rdv (j + 1) (acc + cn % 128 * 128 ^ j) (l.drop (a + 1))) := by
            show _ = _
            rw [hstep.out, if_neg (fun h' => by rcases h' with h' | h'; exact h9 h'; exact hstop h')]
            by_cases h : cn < 128
            · rw [if_pos h, if_pos h, Nat.mod_eq_of_lt h]
            · rw [if_neg h, if_neg h]
          obtain ⟨by2, hby2⟩ : ∃ by2 : Nat, IntKind.u64.wrap ((by_ : Int) * 128) = (by2 : Int) ∧ (j + 1 ≤ 9 → by2 = 128 ^ (j + 1)) := by
            refine ⟨by_ * 128 % 18446744073709551616, by rw [wrap_u64]; omega, fun h => ?_⟩
            have h2 := pow9 h
            rw [Nat.pow_succ] at h2 ⊢
            rw [hby.out hj9]
            exact Nat.mod_eq_of_lt (by omega)
          obtain ⟨hb21, hb22⟩ := hby2
          have HB22 := Lib.hid hb22
          clear hstop hstep hnext hby hb22
          generalize acc + cn % 128 * 128 ^ j = acc2 at *
          have H64 := Lib.hid hlt64
          clear hlt64
          by_cases h128 : cn < 128
          · have d7 : decide ((cn : Int) < 128) = true := decide_eq_true (by omega)
            obtain ⟨m, hm⟩ : ∃ m, m = zag acc2 := ⟨_, rfl⟩
            have hlt := H64.out
            obtain ⟨q, hw1, hq, hz⟩ : ∃ q : Nat, IntKind.u64.wrap ((acc2 : Int) / 2) = (q : Int) ∧ (q : Int) ≤ 9223372036854775807 ∧ ((((acc2 : Int) % 2 == 1) = false ∧ (q : Int) = m) ∨ (((acc2 : Int) % 2 == 1) = true ∧ -(q : Int) - 1 = m)) := by
              refine ⟨acc2 / 2, by rw [wrap_u64]; omega, by omega, ?_⟩
              rw [hm]; unfold zag
              by_cases h2 : acc2 % 2 = 0
              · rw [if_pos h2]; left; exact ⟨beq_eq_false_iff_ne.2 (by omega), rfl⟩
              · rw [if_neg h2]; right; exact ⟨beq_iff_eq.2 (by omega), rfl⟩
            have HM := Lib.hid hm
            clear hm hlt
            have hlast : Hid (rdv j acc (l.drop a) = some (acc2, l.drop (a + 1))) := by show _ = _; rw [hstep2.out, if_pos h128]
            have hrange : (m < lo ∧ decide (m < lo) = true) ∨ (¬ m < lo ∧ hi < m ∧ decide (m < lo) = false ∧ decide (hi < m) = true) ∨ (lo ≤ m ∧ m ≤ hi ∧ decide (m < lo) = false ∧ decide (hi < m) = false) := by
              by_cases h1 : m < lo
              · exact Or.inl ⟨h1, decide_eq_true h1⟩
              · by_cases h2 : hi < m
                · exact Or.inr (Or.inl ⟨h1, h2, decide_eq_false h1, decide_eq_true h2⟩)
                · exact Or.inr (Or.inr ⟨by omega, by omega, decide_eq_false h1, decide_eq_false h2⟩)
            rcases hrange with ⟨r1, k1⟩ | ⟨r1, r2, k1, k2⟩ | ⟨r1, r2, k1, k2⟩
            · have HOUT := fun n => Lib.hid (num_out hR.out hlast.out hal' lo hi m HM.out n (Or.inl r1))
              clear hR hstep2 hbg hb hlast HM HB22 HNEXT
              rcases hz with ⟨hz1, rfl⟩ | ⟨hz1, hz2⟩
              all_goals
                rcases hs with ⟨e3, e4, e4n, e5, e5n, e6⟩ | ⟨e3, -, -, e5, e5n, e6⟩ | ⟨e3, -, -, e5, e5n, -⟩
              all_goals
                go_wp2_with fail
                go_quiet (fail)
                go_wp2_with fail
                go_quiet (fail)
                go_wp2_with fail
                go_ret
                exact (HOUT _).out
            · have HOUT := fun n => Lib.hid (num_out hR.out hlast.out hal' lo hi m HM.out n (Or.inr r2))
              clear hR hstep2 hbg hb hlast HM HB22 HNEXT
              rcases hz with ⟨hz1, rfl⟩ | ⟨hz1, hz2⟩
              all_goals
                rcases hs with ⟨e3, e4, e4n, e5, e5n, e6⟩ | ⟨e3, -, -, e5, e5n, e6⟩ | ⟨e3, -, -, e5, e5n, -⟩
              all_goals
                go_wp2_with fail
                go_quiet (fail)
                go_wp2_with fail
                go_quiet (fail)
                go_wp2_with fail
                go_ret
                exact (HOUT _).out
            · have HOUT := fun n => Lib.hid (num_in hR.out hlast.out hal' lo hi m HM.out n r1 r2)
              clear hR hstep2 hbg hb hlast HM HB22 HNEXT
              rcases hz with ⟨hz1, rfl⟩ | ⟨hz1, hz2⟩
              all_goals
                rcases hs with ⟨e3, e4, e4n, e5, e5n, e6⟩ | ⟨e3, -, -, e5, e5n, e6⟩ | ⟨e3, -, -, e5, e5n, -⟩
              all_goals
                go_wp2_with fail
                go_quiet (fail)
                go_wp2_with fail
                go_quiet (fail)
                go_wp2_with fail
                go_ret
                exact (HOUT _).out
          · have d7 : decide ((cn : Int) < 128) = false := decide_eq_false (by omega)
            have HOUT := fun n => Lib.hid (num_next hR.out (by rw [hstep2.out, if_neg h128]) hal' HNEXT.out hj9 n)
            clear hR hstep2 hbg hb
            rcases hs with ⟨e3, e4, e4n, e5, e5n, e6⟩ | ⟨e3, -, -, e5, e5n, e6⟩ | ⟨e3, -, -, e5, e5n, -⟩
            all_goals
              go_wp2_with fail
              go_quiet (fail)
              go_wp2_with fail
              go_quiet (fail)
              go_wp2_with fail
              go_roundw
              case rel => exact ⟨j + 1, acc2, a + 1, by2, rfl, rfl, by go_num, HOUT _, HB22⟩
              case measure => simp [intOf]; omega

theorem rnum_any (lo hi : Int) (w : World) (g : Nat) (sp : Option Addr) (cap : Nat) (l : List UInt8) (at_ : Nat) (bad : Bool) (h : ReaderIs w g sp cap l at_ bad) :
    Calls Tryd.prog 55 #[.pointer (some ⟨g, 0, none⟩), .int .i64 lo, .int .i64 hi] w (RNumPost g sp cap l lo hi at_ bad w) := by
  cases bad with
  | true => exact rnum_bad lo hi w g sp cap l at_ h
  | false => exact rnum_good lo hi w g sp cap l at_ h
end Go.Proofs.YtldpflijgbcbhaaDoor.dd
