/- The reader of package frame: a number, a text. -/
import Derived.Test.YtldpflijgbcbhaaStays
import Derived.BigQuiet
import Derived.Deep.QuietTactic
import Derived.WalkSmall
namespace Go.Proofs.Ytldpflijgbcbhaa
open Go.RowKit

/-- the bytes l are what a slice holds; of an empty slice nothing is said on where it lies -/
def SrcAt (w : World) (g : Nat) (sp : Option Addr) (l : List UInt8) : Prop :=
  0 < l.length → ∃ b o, sp = some ⟨b, o, none⟩ ∧ b < w.heap.size ∧ b ≠ g ∧ ∀ (j : Nat) (x : UInt8), l[j]? = some x → w.cell? ⟨b, o + j, none⟩ = some (byteV x)
structure ReaderIs (w : World) (g : Nat) (sp : Option Addr) (cap : Nat) (l : List UInt8) (at_ : Nat) (bad : Bool) : Prop where
  self : w.heap[g]? = some (.cells #[.slice sp l.length cap, .int .i64 at_, .bool bad] 85 (0, 0))
  src : SrcAt w g sp l
  le : at_ ≤ l.length
  cap : l.length ≤ cap
  max : l.length ≤ 140737488355328

theorem ReaderIs.lt {w : World} {g : Nat} {sp : Option Addr} {cap : Nat} {l : List UInt8} {at_ : Nat} {bad : Bool} (h : ReaderIs w g sp cap l at_ bad) : g < w.heap.size := lt_of_heap h.self
theorem ReaderIs.set1 {w : World} {g : Nat} {sp : Option Addr} {cap : Nat} {l : List UInt8} {at_ : Nat} {bad : Bool} (h : ReaderIs w g sp cap l at_ bad) (a : Nat) (ha : a ≤ l.length) : ReaderIs (w.setCell ⟨g, 1, none⟩ (.int .i64 (a : Int))) g sp cap l a bad where
  self := heap_setCell_same h.self _
  src := fun h0 => by
    obtain ⟨b, o, e, hb, hne, hc⟩ := h.src h0
    exact ⟨b, o, e, by simpa using hb, hne, fun j x hj => (World.cell?_of_block (a := ⟨b, o + j, none⟩) (Below.heap_setCell _ _ _ _ hne)).trans (hc j x hj)⟩
  le := ha
  cap := h.cap
  max := h.max
theorem ReaderIs.set2 {w : World} {g : Nat} {sp : Option Addr} {cap : Nat} {l : List UInt8} {at_ : Nat} {bad : Bool} (h : ReaderIs w g sp cap l at_ bad) (b' : Bool) : ReaderIs (w.setCell ⟨g, 2, none⟩ (.bool b')) g sp cap l at_ b' where
  self := heap_setCell_same h.self _
  src := fun h0 => by
    obtain ⟨b, o, e, hb, hne, hc⟩ := h.src h0
    exact ⟨b, o, e, by simpa using hb, hne, fun j x hj => (World.cell?_of_block (a := ⟨b, o + j, none⟩) (Below.heap_setCell _ _ _ _ hne)).trans (hc j x hj)⟩
  le := h.le
  cap := h.cap
  max := h.max
theorem ReaderIs.drewN {w : World} {g : Nat} {sp : Option Addr} {cap : Nat} {l : List UInt8} {at_ : Nat} {bad : Bool} (h : ReaderIs w g sp cap l at_ bad) (n : Nat) : ReaderIs (w.drewN n) g sp cap l at_ bad := ⟨h.self, h.src, h.le, h.cap, h.max⟩
theorem ReaderIs.c0 {w : World} {g : Nat} {sp : Option Addr} {cap : Nat} {l : List UInt8} {at_ : Nat} {bad : Bool} (h : ReaderIs w g sp cap l at_ bad) : w.cell? ⟨g, 0, none⟩ = some (.slice sp l.length cap) := cell_of_heap h.self 0
theorem ReaderIs.c1 {w : World} {g : Nat} {sp : Option Addr} {cap : Nat} {l : List UInt8} {at_ : Nat} {bad : Bool} (h : ReaderIs w g sp cap l at_ bad) : w.cell? ⟨g, 1, none⟩ = some (.int .i64 at_) := cell_of_heap h.self 1
theorem ReaderIs.c2 {w : World} {g : Nat} {sp : Option Addr} {cap : Nat} {l : List UInt8} {at_ : Nat} {bad : Bool} (h : ReaderIs w g sp cap l at_ bad) : w.cell? ⟨g, 2, none⟩ = some (.bool bad) := cell_of_heap h.self 2

/-- what a number read is, and where the reader stands then -/
def NumRel (l : List UInt8) (lo hi : Int) (at_ : Nat) (bad : Bool) (n : Int) (at' : Nat) (bad' : Bool) : Prop :=
  if bad = true then bad' = true ∧ n = 0 else
    match rdNum lo hi (l.drop at_) with
    | some (m, r) => bad' = false ∧ n = m ∧ l.drop at' = r
    | none => bad' = true
def RNumPost (g : Nat) (sp : Option Addr) (cap : Nat) (l : List UInt8) (lo hi : Int) (at_ : Nat) (bad : Bool) (w : World) (e : Ending) (w' : World) : Prop :=
  ∃ (n : Int) (at' : Nat) (bad' : Bool), e = .returned (.int .i64 n) ∧ Only (fun k => k = g) w w' ∧ ReaderIs w' g sp cap l at' bad' ∧ NumRel l lo hi at_ bad n at' bad'

set_option maxRecDepth 100000 in
set_option maxHeartbeats 4000000 in
theorem rnum_bad (lo hi : Int) (w : World) (g : Nat) (sp : Option Addr) (cap : Nat) (l : List UInt8) (at_ : Nat) (h : ReaderIs w g sp cap l at_ true) :
    Calls Try.prog 47 #[.pointer (some ⟨g, 0, none⟩), .int .i64 lo, .int .i64 hi] w (RNumPost g sp cap l lo hi at_ true w) := by
  have c2 := h.c2
  have f2 : w.frozen? ⟨g, 2, none⟩ = false := free_of_heap h.self 2
  have h2 := h.set2 true
  have HOUT : Hid (RNumPost g sp cap l lo hi at_ true w (.returned (.int .i64 0)) (w.setCell ⟨g, 2, none⟩ (.bool true))) :=
    ⟨0, at_, true, rfl, (Only.refl (fun k => k = g) w).setCell (p := ⟨g, 2, none⟩) rfl _, h2, by simp [NumRel]⟩
  clear h h2
  go_enter Try.func47, Try.ntmps47
  go_wp2_with fail
  refine wp_loop_rounds 1 ?_
  rw [rounds_succ]
  go_wp2_with fail
  go_ret
  exact HOUT.out

theorem drop_cons {l : List UInt8} {a : Nat} (h : a < l.length) : l.drop a = l[a] :: l.drop (a + 1) := List.drop_eq_getElem_cons h

/-- what stands at the head of a round -/
structure NumAt (w : World) (g : Nat) (sp : Option Addr) (cap : Nat) (l : List UInt8) (at_ j acc a : Nat) (wr : World) : Prop where
  only : Only (fun k => k = g) w wr
  rd : ReaderIs wr g sp cap l a false
  eq : rdv 0 0 (l.drop at_) = rdv j acc (l.drop a)
  lt : acc < 128 ^ j
  j10 : j ≤ 10
  pos : a = at_ + j

/-- the loop is left: it is none -/
theorem num_none {w wr : World} {g : Nat} {sp : Option Addr} {cap : Nat} {l : List UInt8} {at_ j acc a : Nat} (h : NumAt w g sp cap l at_ j acc a wr) (hn : rdv j acc (l.drop a) = none) (lo hi : Int) (n : Nat) :
    RNumPost g sp cap l lo hi at_ false w (.returned (.int .i64 0)) ((wr.drewN n).setCell ⟨g, 2, none⟩ (.bool true)) := by
  refine ⟨0, a, true, rfl, ?_, (h.rd.drewN n).set2 true, ?_⟩
  · have h1 : Only (fun k => k = g) w (wr.drewN n) := ⟨h.only.os, h.only.tape, h.only.output, h.only.size, h.only.block⟩
    exact h1.setCell (p := ⟨g, 2, none⟩) rfl _
  · have e := h.eq
    rw [hn] at e
    simp [NumRel, rdNum, e]
theorem drewN_setCell1 {w : World} {g : Nat} {n : Nat} {S : Nat → Prop} {w0 : World} (h : Only S w0 w) (hg : S g) (v : Value) : Only S w0 ((w.drewN n).setCell ⟨g, 1, none⟩ v) :=
  (show Only S w0 (w.drewN n) from ⟨h.os, h.tape, h.output, h.size, h.block⟩).setCell (p := ⟨g, 1, none⟩) hg v
/-- the number is whole -/
theorem num_some {w wr : World} {g : Nat} {sp : Option Addr} {cap : Nat} {l : List UInt8} {at_ j acc a acc2 : Nat} (h : NumAt w g sp cap l at_ j acc a wr) (hn : rdv j acc (l.drop a) = some (acc2, l.drop (a + 1))) (ha : a < l.length) (lo hi m : Int) (hm : m = zag acc2) (n : Nat) (bb : Bool) (hbb : bb = (decide (m < lo) || decide (hi < m))) :
    RNumPost g sp cap l lo hi at_ false w (.returned (.int .i64 m)) (((wr.drewN n).setCell ⟨g, 1, none⟩ (.int .i64 ((a : Int) + 1))).setCell ⟨g, 2, none⟩ (.bool bb)) := by
  subst hbb
  have h1 := ((h.rd.drewN n).set1 (a + 1) (by omega)).set2 (decide (m < lo) || decide (hi < m))
  rw [show ((a + 1 : Nat) : Int) = (a : Int) + 1 by omega] at h1
  refine ⟨m, a + 1, _, rfl, (drewN_setCell1 h.only rfl _).setCell (p := ⟨g, 2, none⟩) rfl _, h1, ?_⟩
  have e := h.eq
  rw [hn] at e
  simp only [NumRel, rdNum, e, Option.bind_some, ← hm]
  by_cases hb : lo ≤ m ∧ m ≤ hi
  · rw [if_pos hb]
    simp only [Bool.false_eq_true, if_false]
    exact ⟨by rw [decide_eq_false (by omega), decide_eq_false (by omega)]; rfl, trivial, trivial⟩
  · rw [if_neg hb]
    simp only [Bool.false_eq_true, if_false]
    by_cases h2 : m < lo
    · rw [decide_eq_true h2]; rfl
    · rw [decide_eq_true (show hi < m by omega), Bool.or_true]
/-- one byte more -/
theorem num_next {w wr : World} {g : Nat} {sp : Option Addr} {cap : Nat} {l : List UInt8} {at_ j acc a acc2 : Nat} (h : NumAt w g sp cap l at_ j acc a wr) (hn : rdv j acc (l.drop a) = rdv (j + 1) acc2 (l.drop (a + 1))) (ha : a < l.length) (h2 : acc2 < 128 ^ (j + 1)) (hj : j ≤ 9) (n : Nat) :
    NumAt w g sp cap l at_ (j + 1) acc2 (a + 1) ((wr.drewN n).setCell ⟨g, 1, none⟩ (.int .i64 ((a : Int) + 1))) := by
  have h1 := (h.rd.drewN n).set1 (a + 1) (by omega)
  rw [show ((a + 1 : Nat) : Int) = (a : Int) + 1 by omega] at h1
  exact ⟨drewN_setCell1 h.only rfl _, h1, h.eq.trans hn, h2, by omega, by have := h.pos; omega⟩
theorem acc_lt {acc c j : Nat} (h : acc < 128 ^ j) (hc : c < 128) : acc + c * 128 ^ j < 128 ^ (j + 1) := by
  have e : 128 ^ (j + 1) = 128 * 128 ^ j := by rw [Nat.pow_succ]; omega
  rw [e]
  have h1 : (c + 1) * 128 ^ j ≤ 128 * 128 ^ j := Nat.mul_le_mul_right _ (by omega)
  rw [Nat.add_mul, Nat.one_mul] at h1
  omega
theorem rdv_stop {j acc : Nat} {l : List UInt8} (h : l = [] ∨ 9 < j) : rdv j acc l = none := by
  rcases h with rfl | h
  · rfl
  · cases l with
    | nil => rfl
    | cons c r => rw [rdv, if_pos (Or.inl h)]

set_option maxRecDepth 100000 in
set_option maxHeartbeats 8000000 in
theorem rnum_good (lo hi : Int) (w : World) (g : Nat) (sp : Option Addr) (cap : Nat) (l : List UInt8) (at_ : Nat) (h : ReaderIs w g sp cap l at_ false) :
    Calls Try.prog 47 #[.pointer (some ⟨g, 0, none⟩), .int .i64 lo, .int .i64 hi] w (RNumPost g sp cap l lo hi at_ false w) := by
  have hst : NumAt w g sp cap l at_ 0 0 at_ w := ⟨Only.refl _ _, h, rfl, by simp, by omega, rfl⟩
  have hmax := h.max
  clear h
  go_enter Try.func47, Try.ntmps47
  go_wp2_with fail
  go_loopw [7, 8] (fun x i wr => ∃ j acc a : Nat, x = .int .u64 (acc : Int) ∧ i = .int .i64 (j : Int) ∧ Hid (NumAt w g sp cap l at_ j acc a wr)) (fun _ i _ => 11 - (intOf i).toNat)
  case atStart => exact ⟨0, 0, at_, rfl, rfl, hst⟩
  case round =>
    clear hst
    obtain ⟨j, acc, a, rfl, rfl, hR⟩ := hrel
    have hj10 := hR.out.j10
    have ha := hR.out.rd.le
    have c0 := hR.out.rd.c0
    have c1 := hR.out.rd.c1
    have c2 := hR.out.rd.c2
    have f2 : wr.frozen? ⟨g, 2, none⟩ = false := free_of_heap hR.out.rd.self 2
    have f1 : wr.frozen? ⟨g, 1, none⟩ = false := free_of_heap hR.out.rd.self 1
    by_cases hal : l.length ≤ a
    · have d1 : decide ((l.length : Int) ≤ (a : Int)) = true := decide_eq_true (by omega)
      have hn : Hid (rdv j acc (l.drop a) = none) := rdv_stop (Or.inl (List.drop_eq_nil_of_le hal))
      go_wp2_with fail
      go_quiet (fail)
      have HOUT := fun n => Lib.hid (num_none hR.out hn.out lo hi n)
      go_wp2_with fail
      go_ret
      exact (HOUT _).out
    · have d1 : decide ((l.length : Int) ≤ (a : Int)) = false := decide_eq_false (by omega)
      by_cases h9 : 9 < j
      · have d2 : decide ((9 : Int) < (j : Int)) = true := decide_eq_true (by omega)
        have hn : Hid (rdv j acc (l.drop a) = none) := rdv_stop (Or.inr h9)
        go_wp2_with fail
        go_quiet (fail)
        have HOUT := fun n => Lib.hid (num_none hR.out hn.out lo hi n)
        go_wp2_with fail
        go_ret
        exact (HOUT _).out
      · have d2 : decide ((9 : Int) < (j : Int)) = false := decide_eq_false (by omega)
        obtain ⟨b, o, rfl, hb, hbg, hcell⟩ := hR.out.rd.src (by omega)
        obtain ⟨cn, hcn⟩ : ∃ cn, cn = (l[a]'(by omega)).toNat := ⟨_, rfl⟩
        have hc256 : cn < 256 := by rw [hcn]; exact UInt8.toNat_lt _
        have c3 : wr.cell? ⟨b, o + a, none⟩ = some (.int .u8 (cn : Int)) := by rw [hcn]; exact hcell a _ (List.getElem?_eq_getElem (by omega))
        have hstep : Hid (rdv j acc (l.drop a) = if 9 < j ∨ (j = 9 ∧ 1 < cn) ∨ (0 < j ∧ cn = 0) then none else if cn < 128 then some (acc + cn * 128 ^ j, l.drop (a + 1)) else rdv (j + 1) (acc + cn % 128 * 128 ^ j) (l.drop (a + 1))) := by
          show _ = _
          rw [drop_cons (by omega), rdv, hcn]
        clear hcn hcell
        by_cases hstop : (j = 9 ∧ 1 < cn) ∨ (0 < j ∧ cn = 0)
        · have hn : Hid (rdv j acc (l.drop a) = none) := by show _ = _; rw [hstep.out, if_pos (Or.inr hstop)]
          have HOUT := fun n => Lib.hid (num_none hR.out hn.out lo hi n)
          have hs : (j = 9 ∧ decide ((1 : Int) < (cn : Int)) = true) ∨ (j = 9 ∧ cn = 0) ∨ (((j : Int) == 9) = false ∧ decide ((0 : Int) < (j : Int)) = true ∧ decide (0 < j) = true ∧ cn = 0) := by
            simp only [beq_eq_false_iff_ne, decide_eq_true_eq]
            omega
          clear hstep hstop hn
          rcases hs with ⟨rfl, e4⟩ | ⟨rfl, rfl⟩ | ⟨e3, e5, e5n, rfl⟩
          all_goals
            clear hR
            go_wp2_with fail
            go_quiet (fail)
            go_wp2_with fail
            go_ret
            exact (HOUT _).out
        · have hand := and127 hc256
          have hs : (((j : Int) == 9) = true ∧ decide ((1 : Int) < (cn : Int)) = false ∧ decide (1 < cn) = false ∧ decide ((0 : Int) < (j : Int)) = true ∧ decide (0 < j) = true ∧ ((cn : Int) == 0) = false) ∨ (((j : Int) == 9) = false ∧ (1 : Nat) = 1 ∧ (1 : Nat) = 1 ∧ decide ((0 : Int) < (j : Int)) = true ∧ decide (0 < j) = true ∧ ((cn : Int) == 0) = false) ∨ (((j : Int) == 9) = false ∧ (1 : Nat) = 1 ∧ (1 : Nat) = 1 ∧ decide ((0 : Int) < (j : Int)) = false ∧ decide (0 < j) = false ∧ (1 : Nat) = 1) := by
            have hns : ¬ (j = 9 ∧ 1 < cn) ∧ ¬ (0 < j ∧ cn = 0) := not_or.1 hstop
            by_cases hj : j = 9
            · have : ¬ 1 < cn := fun h => hns.1 ⟨hj, h⟩
              have : cn ≠ 0 := fun h => hns.2 ⟨by omega, h⟩
              exact Or.inl ⟨beq_iff_eq.2 (by omega), decide_eq_false (by omega), decide_eq_false (by omega), decide_eq_true (by omega), decide_eq_true (by omega), beq_eq_false_iff_ne.2 (by omega)⟩
            · by_cases h0 : 0 < j
              · have : cn ≠ 0 := fun h => hns.2 ⟨h0, h⟩
                exact Or.inr (Or.inl ⟨beq_eq_false_iff_ne.2 (by omega), rfl, rfl, decide_eq_true (by omega), decide_eq_true h0, beq_eq_false_iff_ne.2 (by omega)⟩)
              · exact Or.inr (Or.inr ⟨beq_eq_false_iff_ne.2 (by omega), rfl, rfl, decide_eq_false (by omega), decide_eq_false h0, rfl⟩)
          have hal' : a < l.length := by omega
          obtain ⟨hV, hlt64⟩ := or_walk (c := cn) hR.out.lt (show j ≤ 9 by omega) (fun h => by have := (not_or.1 hstop).1; have : ¬ 1 < cn := fun h' => this ⟨h, h'⟩; omega)
          have HV64 := Lib.hid hlt64
          have hnext := acc_lt (c := cn % 128) hR.out.lt (by omega)
          have HNEXT := Lib.hid hnext
          have hstep2 : Hid (rdv j acc (l.drop a) = if cn < 128 then some (acc + cn % 128 * 128 ^ j, l.drop (a + 1)) else rdv (j + 1) (acc + cn % 128 * 128 ^ j) (l.drop (a + 1))) := by
            show _ = _
            rw [hstep.out, if_neg (fun h' => by rcases h' with h' | h'; exact h9 h'; exact hstop h')]
            by_cases h : cn < 128
            · rw [if_pos h, if_pos h, Nat.mod_eq_of_lt h]
            · rw [if_neg h, if_neg h]
          clear hstop hstep hlt64 hnext
          generalize acc + cn % 128 * 128 ^ j = acc2 at *
          have hj9 : j ≤ 9 := by omega
          by_cases h128 : cn < 128
          · have d7 : decide ((cn : Int) < 128) = true := decide_eq_true (by omega)
            have hz := zag_walk HV64.out
            obtain ⟨m, hm⟩ : ∃ m, m = zag acc2 := ⟨_, rfl⟩
            rw [← hm] at hz
            by_cases hbl : m < lo
            · have HOUT := fun n => Lib.hid (num_some hR.out (by rw [hstep2.out, if_pos h128]) hal' lo hi m hm n true (by simp [hbl]))
              clear hm hR hstep2 hbg hb
              rcases hs with ⟨e3, e4, e4n, e5, e5n, e6⟩ | ⟨e3, -, -, e5, e5n, e6⟩ | ⟨e3, -, -, e5, e5n, -⟩
              all_goals
                go_wp2_with fail
                go_quiet (fail)
                go_wp2_with fail
                go_quiet (fail)
                go_wp2_with fail
                go_ret
                exact (HOUT _).out
            · have HOUT := fun n => Lib.hid (num_some hR.out (by rw [hstep2.out, if_pos h128]) hal' lo hi m hm n (decide (hi < m)) (by simp [hbl]))
              have hbl' : decide (m < lo) = false := decide_eq_false hbl
              clear hm hR hstep2 hbg hb
              rcases hs with ⟨e3, e4, e4n, e5, e5n, e6⟩ | ⟨e3, -, -, e5, e5n, e6⟩ | ⟨e3, -, -, e5, e5n, -⟩
              all_goals
                go_wp2_with fail
                go_quiet (fail)
                go_wp2_with fail
                go_quiet (fail)
                go_wp2_with fail
                go_ret
                exact (HOUT _).out
          · have d7 : decide ((cn : Int) < 128) = false := decide_eq_false (by omega)
            have HOUT := fun n => Lib.hid (num_next hR.out (by rw [hstep2.out, if_neg h128]) hal' HNEXT.out hj9 n)
            clear hR hstep2 hbg hb
            rcases hs with ⟨e3, e4, e4n, e5, e5n, e6⟩ | ⟨e3, -, -, e5, e5n, e6⟩ | ⟨e3, -, -, e5, e5n, -⟩
            all_goals
              go_wp2_with fail
              go_quiet (fail)
              go_wp2_with fail
              go_quiet (fail)
              go_wp2_with fail
              go_roundw
              case rel => exact ⟨j + 1, acc2, a + 1, rfl, by go_num, HOUT _⟩
              case measure => simp [intOf]; omega

theorem rnum_any (lo hi : Int) (w : World) (g : Nat) (sp : Option Addr) (cap : Nat) (l : List UInt8) (at_ : Nat) (bad : Bool) (h : ReaderIs w g sp cap l at_ bad) :
    Calls Try.prog 47 #[.pointer (some ⟨g, 0, none⟩), .int .i64 lo, .int .i64 hi] w (RNumPost g sp cap l lo hi at_ bad w) := by
  cases bad with
  | true => exact rnum_bad lo hi w g sp cap l at_ h
  | false => exact rnum_good lo hi w g sp cap l at_ h
end Go.Proofs.Ytldpflijgbcbhaa

/- The reader of package frame: a text. -/
namespace Go.Proofs.Ytldpflijgbcbhaa
open Go.RowKit

def TextRel (l : List UInt8) (at_ : Nat) (bad : Bool) (s : ByteArray) (at' : Nat) (bad' : Bool) : Prop :=
  if bad = true then bad' = true else
    match rdText (l.drop at_) with
    | some (t, r) => bad' = false ∧ s = t ∧ l.drop at' = r
    | none => bad' = true
def RTextPost (g : Nat) (sp : Option Addr) (cap : Nat) (l : List UInt8) (at_ : Nat) (bad : Bool) (w : World) (e : Ending) (w' : World) : Prop :=
  ∃ (s : ByteArray) (at' : Nat) (bad' : Bool), e = .returned (.string s) ∧ Only (fun k => k = g) w w' ∧ ReaderIs w' g sp cap l at' bad' ∧ TextRel l at_ bad s at' bad'

/-- what the number that a text begins with tells -/
theorem text_bad {l : List UInt8} {at_ : Nat} {bad : Bool} {n : Int} {at1 : Nat} (h : NumRel l 0 24 at_ bad n at1 true) (s : ByteArray) (at' : Nat) : TextRel l at_ bad s at' true := by
  unfold NumRel at h
  unfold TextRel
  split
  · rfl
  · rename_i hb
    rw [if_neg hb] at h
    unfold rdText
    cases h1 : rdNum 0 24 (l.drop at_) with
    | none => simp
    | some p => rw [h1] at h; exact absurd h.1 (by simp)
theorem text_good {l : List UInt8} {at_ : Nat} {bad : Bool} {n : Int} {at1 : Nat} (h : NumRel l 0 24 at_ bad n at1 false) (_ : at1 ≤ l.length) :
    bad = false ∧ 0 < l.length ∧ ∃ N : Nat, n = (N : Int) ∧ N ≤ 24 ∧ rdNum 0 24 (l.drop at_) = some ((N : Int), l.drop at1) := by
  unfold NumRel at h
  cases bad with
  | true => simp at h
  | false =>
    simp only [Bool.false_eq_true, if_false] at h
    cases h1 : rdNum 0 24 (l.drop at_) with
    | none => rw [h1] at h; simp at h
    | some p =>
      obtain ⟨m, r⟩ := p
      rw [h1] at h
      obtain ⟨_, hn, hr⟩ := h
      obtain ⟨e1, e2, e3⟩ := num_bwd h1
      refine ⟨rfl, ?_, m.toNat, by omega, by omega, by rw [hr]; congr 2; omega⟩
      rcases Nat.eq_zero_or_pos l.length with h0 | h0
      · rw [List.length_eq_zero_iff.1 h0] at h1; simp [rdNum, rdv] at h1
      · exact h0
theorem text_long {l : List UInt8} {at_ at1 N : Nat} (ha : at1 ≤ l.length) (h : rdNum 0 24 (l.drop at_) = some ((N : Int), l.drop at1)) (hN : l.length < at1 + N) (s : ByteArray) (at' : Nat) : TextRel l at_ false s at' true := by
  unfold TextRel rdText
  rw [h]
  simp only [Bool.false_eq_true, if_false, Option.bind_some, Int.toNat_natCast]
  rw [if_pos (by rw [List.length_drop]; omega)]
  trivial
theorem text_done {l : List UInt8} {at_ at1 N : Nat} (h : rdNum 0 24 (l.drop at_) = some ((N : Int), l.drop at1)) (hN : at1 + N ≤ l.length) : TextRel l at_ false ⟨((l.drop at1).take N).toArray⟩ (at1 + N) false := by
  unfold TextRel rdText
  rw [h]
  simp only [Bool.false_eq_true, if_false, Option.bind_some, Int.toNat_natCast]
  rw [if_neg (by rw [List.length_drop]; omega)]
  exact ⟨trivial, rfl, by rw [List.drop_drop]⟩

/-- a cut of the bytes as a text -/
theorem conv_cut {w : World} {b o cap at1 N : Nat} {l : List UInt8} (hN : at1 + N ≤ l.length) (hcap : l.length ≤ cap) (hc : ∀ (j : Nat) (x : UInt8), l[j]? = some x → w.cell? ⟨b, o + j, none⟩ = some (byteV x)) :
    (convert 23 9 (.slice (if cap = at1 then some ⟨b, o, none⟩ else some ⟨b, o + at1, none⟩) N (cap - at1))).run Try.prog w = .ok (.string ⟨((l.drop at1).take N).toArray⟩) w := by
  have hlen : N = ((l.drop at1).take N).length := by rw [List.length_take, List.length_drop]; omega
  by_cases h : cap = at1
  · rw [if_pos h]
    have hr := run_convert_bytes_back w 23 9 5 ⟨b, o, none⟩ (cap - at1) ((l.drop at1).take N) Try.underlying23 Try.underlying5 Try.underlying9 (fun j hj => by rw [List.length_take, List.length_drop] at hj; omega)
    rw [← hlen] at hr
    exact hr
  · rw [if_neg h]
    have hr := run_convert_bytes_back w 23 9 5 ⟨b, o + at1, none⟩ (cap - at1) ((l.drop at1).take N) Try.underlying23 Try.underlying5 Try.underlying9 (fun j hj => by
      rw [addr_add, Nat.add_assoc]
      have e : l[at1 + j]? = some (((l.drop at1).take N)[j]) := by
        rw [List.length_take, List.length_drop] at hj
        rw [List.getElem_take, List.getElem_drop, List.getElem?_eq_getElem (by omega)]
      exact hc _ _ e)
    rw [← hlen] at hr
    exact hr

set_option maxRecDepth 100000 in
set_option maxHeartbeats 4000000 in
theorem rtext_any (w : World) (g : Nat) (sp : Option Addr) (cap : Nat) (l : List UInt8) (at_ : Nat) (bad : Bool) (h : ReaderIs w g sp cap l at_ bad) :
    Calls Try.prog 46 #[.pointer (some ⟨g, 0, none⟩)] w (RTextPost g sp cap l at_ bad w) := by
  have hn := rnum_any 0 24 w g sp cap l at_ bad h
  clear h
  go_enter Try.func46, Try.ntmps46
  go_wp2_with fail
  refine hn.mono ?_
  rintro e w1 ⟨n, at1, bad1, rfl, ho1, hr1, hrel⟩
  have c0 := hr1.c0
  have c1 := hr1.c1
  have c2 := hr1.c2
  have f1 : w1.frozen? ⟨g, 1, none⟩ = false := free_of_heap hr1.self 1
  have f2 : w1.frozen? ⟨g, 2, none⟩ = false := free_of_heap hr1.self 2
  clear hn
  cases bad1 with
  | true =>
    have HOUT : ∀ n, Hid (RTextPost g sp cap l at_ bad w (.returned (.string ⟨#[]⟩)) ((w1.drewN n).setCell ⟨g, 2, none⟩ (.bool true))) := fun n =>
      ⟨⟨#[]⟩, at1, true, rfl, (show Only (fun k => k = g) w (w1.drewN n) from ⟨ho1.os, ho1.tape, ho1.output, ho1.size, ho1.block⟩).setCell (p := ⟨g, 2, none⟩) rfl _, (hr1.drewN n).set2 true, text_bad hrel _ _⟩
    clear ho1 hr1 hrel
    go_wp2_with fail
    go_quiet (fail)
    go_wp2_with fail
    go_ret
    exact (HOUT _).out
  | false =>
    obtain ⟨rfl, hl0, N, rfl, hN24, hrd⟩ := text_good hrel hr1.le
    have hle := hr1.le
    have hmax := hr1.max
    have hcap := hr1.cap
    obtain ⟨b, o, rfl, hb, hbg, hcell⟩ := hr1.src hl0
    by_cases hlong : l.length < at1 + N
    · have d1 : decide ((l.length : Int) - (at1 : Int) < (N : Int)) = true := decide_eq_true (by omega)
      have HOUT : ∀ n, Hid (RTextPost g (some ⟨b, o, none⟩) cap l at_ false w (.returned (.string ⟨#[]⟩)) ((w1.drewN n).setCell ⟨g, 2, none⟩ (.bool true))) := fun n =>
        ⟨⟨#[]⟩, at1, true, rfl, (show Only (fun k => k = g) w (w1.drewN n) from ⟨ho1.os, ho1.tape, ho1.output, ho1.size, ho1.block⟩).setCell (p := ⟨g, 2, none⟩) rfl _, (hr1.drewN n).set2 true, text_long hle hrd hlong _ _⟩
      clear ho1 hr1 hrel hrd hcell hb hbg
      go_wp2_with fail
      go_quiet (fail)
      go_wp2_with fail
      go_ret
      exact (HOUT _).out
    · have d1 : decide ((l.length : Int) - (at1 : Int) < (N : Int)) = false := decide_eq_false (by omega)
      have ho1' := Lib.hid ho1
      have HR1 := Lib.hid hr1
      have HRD := Lib.hid hrd
      have HC := Lib.hid hcell
      clear ho1 hr1 hrel hrd hcell
      go_wp2_with fail
      go_quiet (fail)
      have HOUT : ∀ n m, Hid (RTextPost g (some ⟨b, o, none⟩) cap l at_ false w (.returned (.string ⟨((l.drop at1).take N).toArray⟩)) (((w1.drewN n).setCell ⟨g, 1, none⟩ (.int .i64 ((at1 : Int) + (N : Int)))).drewN m)) := fun n m => by
        have hr := ((HR1.out.drewN n).set1 (at1 + N) (by omega)).drewN m
        rw [show ((at1 + N : Nat) : Int) = (at1 : Int) + (N : Int) by omega] at hr
        have ho : Only (fun k => k = g) w ((w1.drewN n).setCell ⟨g, 1, none⟩ (.int .i64 ((at1 : Int) + (N : Int)))) := (show Only (fun k => k = g) w (w1.drewN n) from ⟨ho1'.out.os, ho1'.out.tape, ho1'.out.output, ho1'.out.size, ho1'.out.block⟩).setCell (p := ⟨g, 1, none⟩) rfl _
        exact ⟨_, at1 + N, false, rfl, ⟨ho.os, ho.tape, ho.output, ho.size, ho.block⟩, hr, text_done HRD.out (by omega)⟩
      have kc : ∀ n m : Nat, (convert 23 9 (.slice (if cap = at1 then some ⟨b, o, none⟩ else some ⟨b, o + at1, none⟩) N (cap - at1))).run Try.prog (((w1.drewN n).setCell ⟨g, 1, none⟩ (.int .i64 ((at1 : Int) + (N : Int)))).drewN m) = .ok (.string ⟨((l.drop at1).take N).toArray⟩) (((w1.drewN n).setCell ⟨g, 1, none⟩ (.int .i64 ((at1 : Int) + (N : Int)))).drewN m) := fun n m =>
        conv_cut (by omega) hcap (fun j x hj => (World.cell?_of_block (a := ⟨b, o + j, none⟩) (show (((w1.drewN n).setCell ⟨g, 1, none⟩ (.int .i64 ((at1 : Int) + (N : Int)))).drewN m).heap[b]? = w1.heap[b]? from Below.heap_setCell (w1.drewN n) ⟨g, 1, none⟩ _ b hbg)).trans (HC.out j x hj))
      generalize hA : (if cap = at1 then some (⟨b, o, none⟩ : Addr) else some ⟨b, o + at1, none⟩) = A at kc
      generalize ((l.drop at1).take N).toArray = T at kc HOUT
      go_wp2_with fail
      go_quiet (fail)
      go_wp2_with fail
      go_ret
      exact (HOUT _ _).out
end Go.Proofs.Ytldpflijgbcbhaa
