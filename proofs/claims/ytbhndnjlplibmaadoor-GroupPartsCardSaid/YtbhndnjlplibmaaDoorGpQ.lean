/- GroupParts: what is wrong with any holdings, and how much any top has of each: the program's answers are the document's. -/
import Derived.Test.YtbhndnjlplibmaaDoorGpP
import Derived.Test.YtbhndnjlplibmaaDoorTold
namespace Go.Proofs.YtbhndnjlplibmaaDoor.gp
open Go.RowKit

theorem IntsAt.laterN {w w' : World} {ao : Option Addr} {zs : List Int} (h : IntsAt w ao zs) (hb : Below w.heap.size w w') : IntsAt w' ao zs := by
  rcases h with h | ⟨b, off, e, hc⟩
  · exact Or.inl h
  · refine Or.inr ⟨b, off, e, fun i hi => (hb.cell (p := ⟨b, off + i, none⟩) ?_).trans (hc i hi)⟩
    have h0 := hc i hi
    rcases Nat.lt_or_ge b w.heap.size with h1 | h1
    · exact h1
    · simp [World.cell?, Array.getElem?_eq_none h1] at h0

set_option maxRecDepth 100000 in
set_option maxHeartbeats 2000000 in
theorem ints_same (t : List Int) (w : World) (a b : Option Addr) (ca cb : Nat) (ha : IntsAt w a t) (hb : IntsAt w b t) (hm : t.length ≤ 9223372036854775807) :
    Calls Tryd.prog 18 #[.slice a t.length ca, .slice b t.length cb] w fun e w' => e = .returned (.bool true) ∧ ∃ n, w' = w.drewN n := by
  have HA := Lib.hid ha
  have HB := Lib.hid hb
  have hne : ((t.length : Int) != (t.length : Int)) = false := by simp
  clear ha hb
  go_enter Tryd.func18, Tryd.ntmps18
  go_wp2_with fail
  go_loopw [5] (fun i wr => ∃ k n : Nat, k ≤ t.length ∧ i = .int .i64 (k : Int) ∧ wr = w.drewN n) (fun i _ => t.length - (intOf i).toNat)
  case atStart => exact ⟨0, 0, Nat.zero_le _, rfl, rfl⟩
  case round =>
    obtain ⟨k, n, hk, rfl, rfl⟩ := hrel
    by_cases hlt : k < t.length
    · obtain ⟨b1, o1, rfl, hc1⟩ := HA.out.resolve_left (fun e => by rw [e] at hlt; simp at hlt)
      obtain ⟨b2, o2, rfl, hc2⟩ := HB.out.resolve_left (fun e => by rw [e] at hlt; simp at hlt)
      have x0 := hc1 k hlt
      have y0 := hc2 k hlt
      generalize t.getD k 0 = z at *
      have hz : (z != z) = false := by simp
      have hi1 : (k : Int) < (t.length : Int) := by omega
      have hi0 : (0 : Int) ≤ (k : Int) := by omega
      clear hc1 hc2
      go_wp2_with fail
      go_quiet (fail)
      go_wp2_with fail
      go_roundw
      case rel => exact ⟨k + 1, _, by omega, by go_num, rfl⟩
      case measure => simp [intOf]; omega
    · go_wp2_with fail
      go_ret
      exact ⟨rfl, _, rfl⟩

def resL (f : Nat → Int) (n : Nat) : List Int := (List.range n).map f
theorem resL_len (f : Nat → Int) (n : Nat) : (resL f n).length = n := by simp [resL]
theorem resL_succ (f : Nat → Int) (n : Nat) : resL f (n + 1) = resL f n ++ [f n] := by simp [resL, List.range_succ]
theorem resL_get (f : Nat → Int) (n j : Nat) (h : j < n) : (resL f n).getD j 0 = f j := by simp [resL, h]

def pcode (hs : List Hold) (top : Int) : Int := if checkF hs ≠ 0 then checkF hs else if entB top = false then 1 else 0
def pres (hs : List Hold) (top : Int) : List Int := if pcode hs top ≠ 0 then [] else match ord hs 13 [] with | some outs => resL (partsF hs top outs) 12 | none => []
theorem pres_len (hs : List Hold) (top : Int) : (pres hs top).length ≤ 12 := by
  unfold pres
  split
  · simp
  · split
    · rw [resL_len]; exact Nat.le_refl _
    · simp

/-- both answers, in one form -/
def Ans (B : Nat) (w : World) (hs : List Hold) (top : Int) (er : Value) (e : Ending) (w' : World) : Prop :=
  Below B w w' ∧ ∃ ao cap, e = .returned (.tuple #[.slice ao (pres hs top).length cap, er]) ∧ IntsAt w' ao (pres hs top)
theorem ans_prog {w w' : World} {hs : List Hold} {top : Int} {e : Ending} (h : PartsPost w.heap.size w hs top e w') : Ans w.heap.size w hs top (errV (pcode hs top)) e w' := by
  obtain ⟨h, hb⟩ := h
  refine ⟨hb, ?_⟩
  by_cases hc : checkF hs ≠ 0
  · have e1 : pcode hs top = checkF hs := by rw [pcode, if_pos hc]
    have e2 : pres hs top = [] := by rw [pres, if_pos (by rw [e1]; exact hc)]
    rw [if_pos hc] at h
    rw [e1, e2]
    exact ⟨none, 0, h, Or.inl rfl⟩
  · by_cases ht : entB top = false
    · have e1 : pcode hs top = 1 := by rw [pcode, if_neg hc, if_pos ht]
      have e2 : pres hs top = [] := by rw [pres, if_pos (by rw [e1]; decide)]
      rw [if_neg hc, if_pos ht] at h
      rw [e1, e2]
      exact ⟨none, 0, h, Or.inl rfl⟩
    · have e1 : pcode hs top = 0 := by rw [pcode, if_neg hc, if_neg ht]
      rw [if_neg hc, if_neg ht] at h
      obtain ⟨g, outs, ho, he, hg, hlt, hf⟩ := h
      have e2 : pres hs top = resL (partsF hs top outs) 12 := by rw [pres, if_neg (by rw [e1]; decide), ho]
      rw [e1, e2, resL_len]
      refine ⟨some ⟨g, 0, none⟩, 12, he, Or.inr ⟨g, 0, rfl, fun i hi => ?_⟩⟩
      rw [resL_len] at hi
      rw [resL_get _ _ _ hi, Nat.zero_add]
      exact (hf i hi).1

set_option maxRecDepth 100000 in
set_option maxHeartbeats 4000000 in
theorem rparts_any (ao : Option Addr) (cap : Nat) (hs : List Hold) (top : Int) (w : World) (hh : HoldsAt w.heap.size w ao hs) (hm : hs.length ≤ 9223372036854775807) :
    Calls Tryd.prog 16 #[.slice ao hs.length cap, .int .i64 top] w (Ans w.heap.size w hs top (.int .i64 (pcode hs top))) := by
  have hck := holdings_any ao cap hs w hh hm
  have HH := Lib.hid hh
  obtain ⟨C, hC⟩ : ∃ C, C = checkF hs := ⟨_, rfl⟩
  rw [← hC] at hck
  clear hh
  by_cases hc : C = 0
  · have hq : ((C : Int) != 0) = false := by simp [hc]
    have hent := rentity_any top
    by_cases ht : entB top = false
    · have e1 : Hid (pcode hs top = 1) := by show _ = _; rw [pcode, if_neg (by rw [← hC]; simp [hc]), if_pos ht]
      have e2 : Hid (pres hs top = []) := by show _ = _; rw [pres, if_pos (by rw [e1.out]; decide)]
      rw [ht] at hent
      clear hc hC ht
      go_enter Tryd.func16, Tryd.ntmps16
      go_wp2_with fail
      refine hck.mono ?_
      rintro e w1 ⟨rfl, hb1⟩
      clear hck
      have HB1 := Lib.hid hb1
      clear hb1
      go_wp2_with fail
      refine (hent _).mono ?_
      rintro e w' ⟨rfl, rfl⟩
      clear hent
      go_wp2_with fail
      go_ret2
      exact ⟨HB1.out, none, 0, by rw [e1.out, e2.out]; rfl, by rw [e2.out]; exact Or.inl rfl⟩
    · have ht' : entB top = true := by simpa using ht
      rw [ht'] at hent
      obtain ⟨g1, g2, g3, outs, hord⟩ := checkF_zero (hs := hs) (by rw [← hC, hc])
      have e1 : Hid (pcode hs top = 0) := by show _ = _; rw [pcode, if_neg (by rw [← hC]; simp [hc]), if_neg ht]
      have e2 : Hid (pres hs top = resL (partsF hs top outs) 12) := by show _ = _; rw [pres, if_neg (by rw [e1.out]; decide), hord]
      have hpart := part_any ao cap hs top outs g1 (fun h hm => ⟨entB_true (g2 h hm).1, (g2 h hm).2.2⟩) hord g3
      have hidx : ∀ n : Nat, n < 12 → ∃ i : Nat, outs[i]? = some ((n : Int) + 1) := fun n hn => all_in hord (by omega) (by omega)
      have HPART := Lib.hid hpart
      have HIDX := Lib.hid hidx
      clear hc hC ht ht' g1 g2 g3 hord hpart hidx
      go_enter Tryd.func16, Tryd.ntmps16
      go_wp2_with fail
      refine hck.mono ?_
      rintro e w1 ⟨rfl, hb1⟩
      clear hck
      have S1 : Hid (RowSt w [] 3 1 (.slice none 0 0) 0 ((resL (partsF hs top outs) 0).map (Value.int .i64)) w1) := RowSt.start ⟨hb1, fun p hp => by cases hp⟩
      clear hb1
      go_wp2_with fail
      refine (hent _).mono ?_
      rintro e w' ⟨rfl, rfl⟩
      clear hent
      go_wp2_with fail
      go_loopw [8, 9] (fun v i wr => ∃ n : Nat, n ≤ 12 ∧ i = .int .i64 ((n : Int) + 1) ∧ Hid (RowSt w [] 3 1 v n ((resL (partsF hs top outs) n).map (Value.int .i64)) wr)) (fun _ i _ => 13 - (intOf i).toNat)
      case atStart => exact ⟨0, Nat.zero_le _, rfl, S1⟩
      case round =>
        clear S1
        obtain ⟨n, hn, rfl, hS⟩ := hrel
        by_cases hn12 : n < 12
        · have d12 : decide ((n : Int) + 1 ≤ 12) = true := decide_eq_true (by omega)
          obtain ⟨i, hi⟩ := HIDX.out n hn12
          have hcall := HPART.out (i + 1) i _ (by omega) hi wr (HH.out.later hS.out.fr.below hS.out.fr.below.size)
          have hsucc := Lib.hid (resL_succ (partsF hs top outs) n)
          rw [show ((n : Int) + 1 - 1).toNat = n by omega] at hcall
          generalize hf : partsF hs top outs n = F at *
          have HF := Lib.hid hf
          obtain ⟨i0, hi0, hz0, hz1, hz2⟩ := info_parts infoInt
          have HI0 := Lib.hid hi0
          have HZ0 := Lib.hid hz0
          have HZ1 := Lib.hid hz1
          have HZ2 := Lib.hid hz2
          have hsz : w.heap.size ≤ wr.heap.size + 1 := by have := hS.out.fr.below.size; omega
          clear hi hf hi0 hz0 hz1 hz2
          go_wp2_with fail
          refine hcall.mono ?_
          rintro e w' ⟨rfl, rfl⟩
          clear hcall
          go_wp2_with (refine wpList_append_own_at (o := ⟨some 31, _, _, _, _, _⟩) _ rfl (.tmp 28) (.tmp 30) 28 rfl w.heap.size 3 i0 (.int .i64 0) 1 8 Tryd.underlying28 HI0.out HZ0.out HZ1.out HZ2.out rfl (by decide) u8 n ((resL (partsF hs top outs) n).map (Value.int .i64)) rfl (hS.out.row.alloc _) ⟨wr.heap.size, 0, none⟩ 1 1 [.int .i64 F] rfl rfl ?c1 (by intro u hu; simp at hu; subst hu; rfl) (by unfold maxLen; omega) (by omega) (by simpa using hsz) ?_)
          case c1 =>
            intro j u hj
            match j, hj with
            | 0, hj =>
              simp only [List.getElem?_cons_zero, Option.some.injEq] at hj
              subst hj
              rw [addr_add, World.cell?_alloc_at _ _ _ _ rfl]
              simp
          intro v1 w1 hown1 hgrow1 _ hblk1
          have HS3 : Hid (RowSt w [] 3 1 v1 (n + 1) ((resL (partsF hs top outs) (n + 1)).map (Value.int .i64)) w1) :=
            hS.out.moved (ownsRow_cast hown1 rfl (by rw [hsucc.out]; simp)) (Moved.append hgrow1 hblk1)
          clear hown1 hgrow1 hblk1 hS hsz hsucc
          go_wp2_with fail
          go_roundw
          case rel => exact ⟨n + 1, by omega, by go_num, HS3⟩
          case measure => simp [intOf]; omega
        · obtain rfl : n = 12 := by omega
          have d12 : decide (((12 : Nat) : Int) + 1 ≤ 12) = false := rfl
          have hrow := hS.out.row
          rw [show (12 : Nat) = (resL (partsF hs top outs) 12).length from (resL_len _ _).symm] at hrow
          rw [resL_len (partsF hs top outs) 12] at hrow
          obtain ⟨ao1, c1, hv, hia, _⟩ := ownsRow_ints (zs := resL (partsF hs top outs) 12) (by rw [resL_len]; exact hS.out.row)
          rw [resL_len] at hv
          subst hv
          have HOUT : Hid (Ans w.heap.size w hs top (.int .i64 (pcode hs top)) (.returned (.tuple #[.slice ao1 12 c1, .int .i64 0])) wr) := by
            refine ⟨hS.out.fr.below, ao1, c1, ?_, ?_⟩
            · rw [e1.out, e2.out, resL_len]
            · rw [e2.out]; exact hia
          clear hS hrow hia
          go_wp2_with fail
          go_ret2
          exact HOUT.out
  · have hq : ((C : Int) != 0) = true := by simp [hc]
    have e1 : Hid (pcode hs top = C) := by show _ = _; rw [pcode, if_pos (by rw [← hC]; exact hc), hC]
    have e2 : Hid (pres hs top = []) := by show _ = _; rw [pres, if_pos (by rw [e1.out]; exact hc)]
    clear hc hC
    go_enter Tryd.func16, Tryd.ntmps16
    go_wp2_with fail
    refine hck.mono ?_
    rintro e w1 ⟨rfl, hb1⟩
    clear hck
    have HB1 := Lib.hid hb1
    clear hb1
    go_wp2_with fail
    go_ret2
    exact ⟨HB1.out, none, 0, by rw [e1.out, e2.out]; rfl, by rw [e2.out]; exact Or.inl rfl⟩

set_option maxRecDepth 100000 in
set_option maxHeartbeats 4000000 in
theorem walk (ao : Option Addr) (cap : Nat) (hs : List Hold) (top : Int) (w : World) (hg : Door w) (hh : HoldsAt w.heap.size w ao hs) (hcap : hs.length ≤ cap) (hm : cap ≤ 9223372036854775807) :
    Calls Tryd.prog 3 #[.slice ao hs.length cap, .int .i64 top] w fun e w' => e = .returned (.bool true) ∧ Below w.heap.size w w' := by
  have hpos := hg.pos
  obtain ⟨C, hC⟩ : ∃ C, C = checkF hs := ⟨_, rfl⟩
  obtain ⟨D, hD⟩ : ∃ D, D = pcode hs top := ⟨_, rfl⟩
  have hs1 := check_r C ao cap hs w hh hcap hm hC.symm
  have hok1 : ((C : Int) == C) = true := by simp
  have hok2 : ((D : Int) == D) = true := by simp
  have HK1 := Lib.hid hok1
  have HK2 := Lib.hid hok2
  have HG := Lib.hid hg
  have HH := Lib.hid hh
  have HC := Lib.hid hC
  have HD := Lib.hid hD
  clear hg hh hC hD hok1 hok2
  go_enter Tryd.func3, Tryd.ntmps3
  go_wp2_with fail
  refine hs1.mono ?_
  rintro e w1 ⟨rfl, hb1⟩
  have hs2 := holdings_any ao cap hs w1 (HH.out.later hb1 hb1.size) (by omega)
  rw [← HC.out] at hs2
  have B1 := Lib.hid hb1
  clear hs1 hb1
  go_wp2_with fail
  refine hs2.mono ?_
  rintro e w2 ⟨rfl, hb2⟩
  have B2 := Lib.hid (B1.out.trans (hb2.mono B1.out.size))
  have hs3 := error_any C C w2 (HG.out.below B2.out hpos)
  clear hs2 hb2 B1
  go_wp2_with fail
  refine hs3.mono ?_
  rintro e w3 ⟨rfl, hb3⟩
  rw [HK1.out]
  have B3 := Lib.hid (B2.out.trans (hb3.mono B2.out.size))
  have hs4 := rparts_any ao cap hs top w3 (HH.out.later B3.out B3.out.size) (by omega)
  rw [← HD.out] at hs4
  clear hs3 hb3 B2
  go_wp2_with fail
  refine hs4.mono ?_
  intro e w4 hq
  obtain ⟨hb4, ao4, c4, rfl, hi4⟩ := hq
  have B4 := Lib.hid (B3.out.trans (hb4.mono B3.out.size))
  have hs5 := parts_any ao cap hs top w4 (HH.out.later B4.out B4.out.size) hcap hm
  have HI4 := Lib.hid hi4
  clear hs4 hb4 hi4 B3
  go_wp2_with fail
  refine hs5.mono ?_
  intro e w5 hq
  obtain ⟨hb5, ao5, c5, rfl, hi5⟩ := ans_prog hq
  rw [← HD.out]
  have B5 := Lib.hid (B4.out.trans (hb5.mono B4.out.size))
  have hs6 := error_any D D w5 (HG.out.below B5.out hpos)
  have HI45 := Lib.hid (IntsAt.laterN HI4.out hb5)
  have HI5 := Lib.hid hi5
  clear hs5 hq hb5 hi5 B4 HI4
  go_wp2_with fail
  refine hs6.mono ?_
  rintro e w6 ⟨rfl, hb6⟩
  rw [HK2.out]
  have B6 := Lib.hid (B5.out.trans (hb6.mono B5.out.size))
  have hs7 := ints_same (pres hs top) w6 ao5 ao4 c5 c4 (IntsAt.laterN HI5.out hb6) (IntsAt.laterN HI45.out hb6) (by have := pres_len hs top; omega)
  clear hs6 hb6 B5 HI45 HI5
  go_wp2_with fail
  refine hs7.mono ?_
  rintro e w7 ⟨rfl, n, rfl⟩
  have B7 := Lib.hid (below_drewN B6.out n)
  clear hs7 B6
  go_wp2_with fail
  go_ret
  exact ⟨rfl, B7.out⟩
end Go.Proofs.YtbhndnjlplibmaaDoor.gp
