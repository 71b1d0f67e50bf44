/- dayref2.Ledger at any entries. -/
import Derived.Test.YtbhndnjlplibmaaDoorPu2
import Derived.Test.YtbhndnjlplibmaaDoorEn2
namespace Go.Proofs.YtbhndnjlplibmaaDoor.lg
open Go.RowKit

theorem amountR_any (n : Int) (w : World) : Calls Tryd.prog 53 #[.int .i64 n] w fun e w' => e = .returned (.bool (mayA n)) ∧ w = w' := by
  by_cases h1 : -1000000000000000 ≤ n
  · by_cases h2 : n ≤ 1000000000000000
    · have hb : Hid (mayA n = true) := by show _ = _; simp [mayA, h1, h2]
      go_enter Tryd.func53, Tryd.ntmps53
      go_wp2
      go_ret
      exact ⟨ret_bool hb.out.symm, rfl⟩
    · have hb : Hid (mayA n = false) := by show _ = _; simp [mayA, h2]
      go_enter Tryd.func53, Tryd.ntmps53
      go_wp2
      go_ret
      exact ⟨ret_bool hb.out.symm, rfl⟩
  · have hb : Hid (mayA n = false) := by show _ = _; simp [mayA, h1]
    go_enter Tryd.func53, Tryd.ntmps53
    go_wp2
    go_ret
    exact ⟨ret_bool hb.out.symm, rfl⟩
theorem putB_len (l : List BalM) (x : BalM) : (putB l x).length ≤ l.length + 1 := by
  unfold putB
  split
  · split
    · simp; omega
    · simp
  · simp
def pickL (just : Bool) (m n : Int) : EntryM → Bool := if just = true then pickTrial m n else pickBal n
def LedPost (B : Nat) (w : World) (pick : EntryM → Bool) (t : List EntryM) (e : Ending) (w' : World) : Prop :=
  Below B w w' ∧ ((200 < t.length ∧ e = .returned (.tuple #[.slice none 0 0, .int .i64 4])) ∨
    (t.length ≤ 200 ∧ badAll t = true ∧ e = .returned (.tuple #[.slice none 0 0, .int .i64 1])) ∨
    (t.length ≤ 200 ∧ badAll t = false ∧ 200 < ((someB pick t).foldl putB []).length ∧ e = .returned (.tuple #[.slice none 0 0, .int .i64 4])) ∨
    (t.length ≤ 200 ∧ badAll t = false ∧ ((someB pick t).foldl putB []).length ≤ 200 ∧ ∃ ao cap, BalsAt w' ao (fullB ((someB pick t).foldl putB [])) ∧ e = .returned (.tuple #[.slice ao (fullB ((someB pick t).foldl putB [])).length cap, .int .i64 0])))

set_option maxRecDepth 100000 in
set_option maxHeartbeats 16000000 in
theorem led_any (just : Bool) (m n : Int) (ao : Option Addr) (ca : Nat) (t : List EntryM) (w : World) (ha : EntsAt w ao t) (hm : t.length ≤ 9223372036854775807) (hlm : ∀ e ∈ t, e.lines.length ≤ 9223372036854775807) (hcn : (someB (pickL just m n) t).length ≤ 2000000) :
    Calls Tryd.prog 28 #[.slice ao t.length ca, .int .i64 m, .int .i64 n, .bool just] w (LedPost w.heap.size w (pickL just m n) t) := by
  by_cases hlen : 200 < t.length
  · have hd : decide ((200 : Int) < (t.length : Int)) = true := decide_eq_true (by omega)
    go_enter Tryd.func28, Tryd.ntmps28
    go_wp2
    go_ret2
    exact ⟨Below.refl _ _, Or.inl ⟨hlen, rfl⟩⟩
  · have hd : decide ((200 : Int) < (t.length : Int)) = false := decide_eq_false (by omega)
    have hlen2 : t.length ≤ 200 := by omega
    have HA := Lib.hid ha
    have HLM := Lib.hid hlm
    obtain ⟨R, hR⟩ : ∃ R, (someB (pickL just m n) t).foldl putB [] = R := ⟨_, rfl⟩
    obtain ⟨bd, hbd⟩ : ∃ bd, badAll t = bd := ⟨_, rfl⟩
    have HR := Lib.hid hR
    have HBD := Lib.hid hbd
    have HCN : Hid (([] : List BalM).length + (someB (pickL just m n) t).length ≤ 2000000) := by show _ ≤ _; rw [List.length_nil]; omega
    have HC0 : Hid (BalsC w none 0 []) := ⟨Or.inl rfl, Nat.le_refl _, Or.inl ⟨rfl, rfl⟩⟩
    clear hR hbd ha hlm hlen hcn
    go_enter Tryd.func28, Tryd.ntmps28
    go_wp2_with fail
    go_loopw [10, 11] (fun v i wr => ∃ (k : Nat) (oo : Option Addr) (oc : Nat) (O : List BalM), k ≤ t.length ∧ i = .int .i64 (k : Int) ∧ v = .slice oo O.length oc ∧ Hid ((someB (pickL just m n) (t.drop k)).foldl putB O = R) ∧ Hid (badAll (t.drop k) = bd) ∧ Hid (Below w.heap.size w wr) ∧ Hid (BalsC wr oo oc O) ∧ Hid (O.length + (someB (pickL just m n) (t.drop k)).length ≤ 2000000)) (fun _ i _ => t.length - (intOf i).toNat)
    case atStart => exact ⟨0, none, 0, [], Nat.zero_le _, rfl, rfl, HR, HBD, Below.refl _ _, HC0, HCN⟩
    case round =>
      clear HC0 HCN
      obtain ⟨k, oo, oc, O, hk, rfl, rfl, HT, HD, HBW, HBC, HCN⟩ := hrel
      by_cases hlt : k < t.length
      · obtain ⟨x, hx⟩ := getElem?_ex hlt
        have hlx := HLM.out x (List.mem_of_getElem? hx)
        have HX := Lib.hid hx
        obtain ⟨b9, off, rfl, hb9, hcc⟩ := HA.out.resolve_left (fun e => by rw [e] at hlt; simp at hlt)
        obtain ⟨lao, lc, z0, z1, z2, z3, hln⟩ := hcc k x hx
        have HLN := Lib.hid hln
        have HZ := Lib.hid (⟨hb9, z1, z2, z3⟩ : b9 < w.heap.size ∧ w.cell? ⟨b9, off + k * 4 + 1, none⟩ = some (.int .i64 x.ent) ∧ w.cell? ⟨b9, off + k * 4 + 2, none⟩ = some (.int .i64 x.per) ∧ w.cell? ⟨b9, off + k * 4 + 3, none⟩ = some (.slice lao x.lines.length lc))
        have hi1 : (k : Int) < (t.length : Int) := by omega
        have hi0 : (0 : Int) ≤ (k : Int) := by omega
        have hfold := HT.out
        have hbad := HD.out
        have hcnt := HCN.out
        rw [someB_drop hx] at hfold hcnt
        rw [badAll_drop hx] at hbad
        have HFD := Lib.hid hfold
        have HBB := Lib.hid hbad
        have HCC := Lib.hid hcnt
        clear hfold hbad hcnt hcc HT HD HCN hx z0 z1 z2 z3 hln hb9
        go_wp2_with fail
        go_loopw [10, 12] (fun v i wr => ∃ (j : Nat) (oo : Option Addr) (oc : Nat) (O : List BalM), j ≤ x.lines.length ∧ i = .int .i64 (j : Int) ∧ v = .slice oo O.length oc ∧ Hid ((restB (pickL just m n) x (x.lines.drop j) ++ someB (pickL just m n) (t.drop (k + 1))).foldl putB O = R) ∧ Hid ((badL (x.lines.drop j) || badAll (t.drop (k + 1))) = bd) ∧ Hid (Below w.heap.size w wr) ∧ Hid (BalsC wr oo oc O) ∧ Hid (O.length + (restB (pickL just m n) x (x.lines.drop j) ++ someB (pickL just m n) (t.drop (k + 1))).length ≤ 2000000)) (fun _ i _ => x.lines.length - (intOf i).toNat)
        case atStart => exact ⟨0, oo, oc, O, Nat.zero_le _, rfl, rfl, HFD, HBB, HBW, HBC, HCC⟩
        case round =>
          clear HFD HBB HBW HBC HCC
          obtain ⟨j, oo, oc, O, hj, rfl, rfl, HT, HBB, HBW, HBC, HCN⟩ := hrel
          have x1 := (HBW.out.cell (p := ⟨b9, off + k * 4 + 1, none⟩) HZ.out.1).trans HZ.out.2.1
          have x2 := (HBW.out.cell (p := ⟨b9, off + k * 4 + 2, none⟩) HZ.out.1).trans HZ.out.2.2.1
          have x3 := (HBW.out.cell (p := ⟨b9, off + k * 4 + 3, none⟩) HZ.out.1).trans HZ.out.2.2.2
          by_cases hjt : j < x.lines.length
          · obtain ⟨y, hy⟩ := getElem?_ex hjt
            obtain ⟨b7, of7, rfl, hb7, hcl⟩ := (HLN.out.below HBW.out).resolve_left (fun e => by rw [e] at hjt; simp at hjt)
            obtain ⟨y0, y1, y2⟩ := hcl j y hy
            have hj1 : (j : Int) < (x.lines.length : Int) := by omega
            have hj0 : (0 : Int) ≤ (j : Int) := by omega
            have hf2 := HT.out
            have hc2 := HCN.out
            have hol : O.length ≤ 2000000 := by have := HCN.out; omega
            rw [restB_drop hy, List.append_assoc] at hf2 hc2
            have hb2 := HBB.out
            rw [badL_drop hy] at hb2
            obtain ⟨V, hV⟩ : ∃ V, V = wr.alloc (.cells #[.string y.acc, .string y.cur, .int .i64 y.amt] 87) := ⟨_, rfl⟩
            obtain ⟨B10, hB10⟩ : ∃ B10, B10 = wr.heap.size := ⟨_, rfl⟩
            have hbv : Below wr.heap.size wr V := by rw [hV]; exact (Below.refl _ _).alloc (Nat.le_refl _) _
            have HBV : Hid (Below w.heap.size w V) := HBW.out.trans (hbv.mono HBW.out.size)
            have hV10 : V.heap[B10]? = some (.cells #[.string y.acc, .string y.cur, .int .i64 y.amt] 87 (0, 0)) := by rw [hV, hB10]; exact heap_new_at rfl _
            have q0 : V.cell? ⟨B10, 0, none⟩ = some (.string y.acc) := cell_of_heap hV10 0
            have q1 : V.cell? ⟨B10, 1, none⟩ = some (.string y.cur) := cell_of_heap hV10 1
            have q2 : V.cell? ⟨B10, 2, none⟩ = some (.int .i64 y.amt) := cell_of_heap hV10 2
            have p1 := (HBV.out.cell (p := ⟨b9, off + k * 4 + 1, none⟩) HZ.out.1).trans HZ.out.2.1
            have p2 := (HBV.out.cell (p := ⟨b9, off + k * 4 + 2, none⟩) HZ.out.1).trans HZ.out.2.2.1
            have p3 := (HBV.out.cell (p := ⟨b9, off + k * 4 + 3, none⟩) HZ.out.1).trans HZ.out.2.2.2
            have KEEP : ∀ w9, Below V.drew.heap.size V.drew w9 → w9.cell? ⟨b9, off + k * 4 + 1, none⟩ = some (.int .i64 x.ent) ∧ w9.cell? ⟨B10, 0, none⟩ = some (.string y.acc) ∧ w9.cell? ⟨B10, 1, none⟩ = some (.string y.cur) ∧ w9.cell? ⟨B10, 2, none⟩ = some (.int .i64 y.amt) := fun w9 h9 =>
              ⟨(h9.cell (p := ⟨b9, off + k * 4 + 1, none⟩) (Nat.lt_of_lt_of_le HZ.out.1 HBV.out.size)).trans p1, (h9.cell (p := ⟨B10, 0, none⟩) (lt_of_heap hV10)).trans q0, (h9.cell (p := ⟨B10, 1, none⟩) (lt_of_heap hV10)).trans q1, (h9.cell (p := ⟨B10, 2, none⟩) (lt_of_heap hV10)).trans q2⟩
            have HKEEP := Lib.hid KEEP
            have hmy := fun w' => amountR_any y.amt w'
            have HBO := Lib.hid (HBC.out.below hbv)
            have HV := Lib.hid hV
            clear hV hV10 hbv KEEP HT HCN HBB HBC HBW hcl hy hb7
            cases hmb : mayA y.amt with
            | false =>
              have HR1 : Hid (bd = true) := by show _ = _; rw [hmb] at hb2; exact hb2.symm
              rw [hmb] at hmy
              clear hmb hb2 hf2 hc2
              go_wp2_with fail
              rw [← HV.out, ← hB10]
              clear hB10
              go_wp2_with fail
              refine (hmy _).mono ?_
              rintro e w' ⟨rfl, rfl⟩
              clear hmy
              go_wp2_with fail
              go_ret2
              exact ⟨HBV.out, Or.inr (Or.inl ⟨hlen2, by rw [HBD.out]; exact HR1.out, rfl⟩)⟩
            | true =>
              have HB3 : Hid ((badL (x.lines.drop (j + 1)) || badAll (t.drop (k + 1))) = bd) := by show _ = _; rw [hmb] at hb2; exact hb2
              rw [hmb] at hmy
              clear hmb hb2
              cases just with
              | false =>
                by_cases hp : x.per ≤ n
                · have hpx : pickL false m n x = true := decide_eq_true hp
                  have hdp : decide (x.per ≤ n) = true := decide_eq_true hp
                  have HF3 : Hid ((restB (pickL false m n) x (x.lines.drop (j + 1)) ++ someB (pickL false m n) (t.drop (k + 1))).foldl putB (putB O (lineB x y)) = R) := by show _ = _; rw [hpx, if_pos rfl] at hf2; exact hf2
                  have HCN3 : Hid ((putB O (lineB x y)).length + (restB (pickL false m n) x (x.lines.drop (j + 1)) ++ someB (pickL false m n) (t.drop (k + 1))).length ≤ 2000000) := by
                    show _ ≤ _
                    rw [hpx, if_pos rfl] at hc2
                    have := putB_len O (lineB x y)
                    simp only [List.length_append, List.length_cons, List.length_nil] at hc2 ⊢
                    omega
                  have hput := put_any oo oc O (lineB x y) V.drew (HBO.out.below (Below.refl _ _).drew) (by omega)
                  unfold balV at hput
                  dsimp only [lineB] at hput
                  clear hf2 hc2 hpx hp
                  go_wp2_with fail
                  rw [← HV.out, ← hB10]
                  clear hB10
                  go_wp2_with fail
                  refine (hmy _).mono ?_
                  rintro e w' ⟨rfl, rfl⟩
                  clear hmy
                  go_wp2_with fail
                  go_region_held3 (fun w' => w'.cell? ⟨b9, off + k * 4 + 1, none⟩ = some (.int .i64 x.ent) ∧ w'.cell? ⟨B10, 0, none⟩ = some (.string y.acc) ∧ w'.cell? ⟨B10, 1, none⟩ = some (.string y.cur) ∧ w'.cell? ⟨B10, 2, none⟩ = some (.int .i64 y.amt))
                    (first | exact HKEEP.out _ hbp | exact ⟨p1, q0, q1, q2⟩ | go_keep)
                    (first
                      | (go_at_call 58; refine hput.mono ?_; rintro e w9 ⟨hbp, ro, rc, rfl, hrc⟩))
                  have HB9 : Hid (Below w.heap.size w w9) := HBV.out.drew.trans (hbp.mono (show w.heap.size ≤ V.drew.heap.size from HBV.out.size))
                  have HRC := Lib.hid hrc
                  clear hput HKEEP hbp p1 p2 p3 q0 q1 q2 hrc
                  go_wp2_with fail
                  go_roundw
                  case rel => exact ⟨j + 1, ro, rc, _, by omega, by go_num, rfl, HF3, HB3, HB9, HRC, HCN3⟩
                  case measure => simp [intOf]; omega
                · have hpx : pickL false m n x = false := decide_eq_false hp
                  have hdp : decide (x.per ≤ n) = false := decide_eq_false hp
                  have HF3 : Hid ((restB (pickL false m n) x (x.lines.drop (j + 1)) ++ someB (pickL false m n) (t.drop (k + 1))).foldl putB O = R) := by show _ = _; rw [hpx, if_neg (by simp)] at hf2; exact hf2
                  have HCN3 : Hid (O.length + (restB (pickL false m n) x (x.lines.drop (j + 1)) ++ someB (pickL false m n) (t.drop (k + 1))).length ≤ 2000000) := by show _ ≤ _; rw [hpx, if_neg (by simp)] at hc2; exact hc2
                  clear hf2 hc2 hpx hp
                  go_wp2_with fail
                  rw [← HV.out, ← hB10]
                  clear hB10
                  go_wp2_with fail
                  refine (hmy _).mono ?_
                  rintro e w' ⟨rfl, rfl⟩
                  clear hmy
                  go_wp2_with fail
                  go_roundw
                  case rel => exact ⟨j + 1, oo, oc, O, by omega, by go_num, rfl, HF3, HB3, HBV, HBO, HCN3⟩
                  case measure => simp [intOf]; omega
              | true =>
                by_cases hp : x.per = n
                · have hdp : (x.per == n) = true := by rw [hp]; simp
                  by_cases hq : x.ent = m
                  · have hdq : (x.ent == m) = true := by rw [hq]; simp
                    have hpx : pickL true m n x = true := by show pickTrial m n x = true; unfold pickTrial; rw [decide_eq_true hp, decide_eq_true hq]; rfl
                    have HF3 : Hid ((restB (pickL true m n) x (x.lines.drop (j + 1)) ++ someB (pickL true m n) (t.drop (k + 1))).foldl putB (putB O (lineB x y)) = R) := by show _ = _; rw [hpx, if_pos rfl] at hf2; exact hf2
                    have HCN3 : Hid ((putB O (lineB x y)).length + (restB (pickL true m n) x (x.lines.drop (j + 1)) ++ someB (pickL true m n) (t.drop (k + 1))).length ≤ 2000000) := by
                      show _ ≤ _
                      rw [hpx, if_pos rfl] at hc2
                      have := putB_len O (lineB x y)
                      simp only [List.length_append, List.length_cons, List.length_nil] at hc2 ⊢
                      omega
                    have hput := put_any oo oc O (lineB x y) V.drew (HBO.out.below (Below.refl _ _).drew) (by omega)
                    unfold balV at hput
                    dsimp only [lineB] at hput
                    clear hf2 hc2 hpx hp hq
                    go_wp2_with fail
                    rw [← HV.out, ← hB10]
                    clear hB10
                    go_wp2_with fail
                    refine (hmy _).mono ?_
                    rintro e w' ⟨rfl, rfl⟩
                    clear hmy
                    go_wp2_with fail
                    go_region_held3 (fun w' => w'.cell? ⟨b9, off + k * 4 + 1, none⟩ = some (.int .i64 x.ent) ∧ w'.cell? ⟨B10, 0, none⟩ = some (.string y.acc) ∧ w'.cell? ⟨B10, 1, none⟩ = some (.string y.cur) ∧ w'.cell? ⟨B10, 2, none⟩ = some (.int .i64 y.amt))
                      (first | exact HKEEP.out _ hbp | exact ⟨p1, q0, q1, q2⟩ | go_keep)
                      (first
                        | (go_at_call 58; refine hput.mono ?_; rintro e w9 ⟨hbp, ro, rc, rfl, hrc⟩))
                    have HB9 : Hid (Below w.heap.size w w9) := HBV.out.drew.trans (hbp.mono (show w.heap.size ≤ V.drew.heap.size from HBV.out.size))
                    have HRC := Lib.hid hrc
                    clear hput HKEEP hbp p1 p2 p3 q0 q1 q2 hrc
                    go_wp2_with fail
                    go_roundw
                    case rel => exact ⟨j + 1, ro, rc, _, by omega, by go_num, rfl, HF3, HB3, HB9, HRC, HCN3⟩
                    case measure => simp [intOf]; omega
                  · have hdq : (x.ent == m) = false := by simpa using hq
                    have hpx : pickL true m n x = false := by show pickTrial m n x = false; unfold pickTrial; rw [decide_eq_false hq, Bool.false_and]
                    have HF3 : Hid ((restB (pickL true m n) x (x.lines.drop (j + 1)) ++ someB (pickL true m n) (t.drop (k + 1))).foldl putB O = R) := by show _ = _; rw [hpx, if_neg (by simp)] at hf2; exact hf2
                    have HCN3 : Hid (O.length + (restB (pickL true m n) x (x.lines.drop (j + 1)) ++ someB (pickL true m n) (t.drop (k + 1))).length ≤ 2000000) := by show _ ≤ _; rw [hpx, if_neg (by simp)] at hc2; exact hc2
                    clear hf2 hc2 hpx hp hq
                    go_wp2_with fail
                    rw [← HV.out, ← hB10]
                    clear hB10
                    go_wp2_with fail
                    refine (hmy _).mono ?_
                    rintro e w' ⟨rfl, rfl⟩
                    clear hmy
                    go_wp2_with fail
                    go_roundw
                    case rel => exact ⟨j + 1, oo, oc, O, by omega, by go_num, rfl, HF3, HB3, HBV, HBO, HCN3⟩
                    case measure => simp [intOf]; omega
                · have hdp : (x.per == n) = false := by simpa using hp
                  have hpx : pickL true m n x = false := by show pickTrial m n x = false; unfold pickTrial; rw [decide_eq_false hp, Bool.and_false]
                  have HF3 : Hid ((restB (pickL true m n) x (x.lines.drop (j + 1)) ++ someB (pickL true m n) (t.drop (k + 1))).foldl putB O = R) := by show _ = _; rw [hpx, if_neg (by simp)] at hf2; exact hf2
                  have HCN3 : Hid (O.length + (restB (pickL true m n) x (x.lines.drop (j + 1)) ++ someB (pickL true m n) (t.drop (k + 1))).length ≤ 2000000) := by show _ ≤ _; rw [hpx, if_neg (by simp)] at hc2; exact hc2
                  clear hf2 hc2 hpx hp
                  go_wp2_with fail
                  rw [← HV.out, ← hB10]
                  clear hB10
                  go_wp2_with fail
                  refine (hmy _).mono ?_
                  rintro e w' ⟨rfl, rfl⟩
                  clear hmy
                  go_wp2_with fail
                  go_roundw
                  case rel => exact ⟨j + 1, oo, oc, O, by omega, by go_num, rfl, HF3, HB3, HBV, HBO, HCN3⟩
                  case measure => simp [intOf]; omega
          · obtain rfl : j = x.lines.length := by omega
            have h1 := HBB.out
            have h2 := HT.out
            have h3 := HCN.out
            have e : restB (pickL just m n) x [] = [] := by unfold restB; split <;> rfl
            rw [List.drop_of_length_le (Nat.le_refl _)] at h1 h2 h3
            rw [e, List.nil_append] at h2 h3
            have HBB2 : Hid (badAll (t.drop (k + 1)) = bd) := h1
            have HT2 : Hid ((someB (pickL just m n) (t.drop (k + 1))).foldl putB O = R) := h2
            have HCN2 : Hid (O.length + (someB (pickL just m n) (t.drop (k + 1))).length ≤ 2000000) := h3
            clear h1 h2 h3 e HT HBB HCN
            go_wp2_with fail
            go_roundw
            case rel => exact ⟨k + 1, oo, oc, O, by omega, by go_num, rfl, HT2, HBB2, HBW, HBC, HCN2⟩
            case measure => simp [intOf]; omega
      · obtain rfl : k = t.length := by omega
        have hfold := HT.out
        have h1 := HD.out
        rw [List.drop_of_length_le (Nat.le_refl _)] at hfold h1
        have HF : Hid (badAll t = false) := by show _ = _; rw [HBD.out, ← h1]; rfl
        obtain rfl : O = R := hfold
        have hol : O.length ≤ 2000000 := by have := HCN.out; omega
        clear h1 HT HD HBD HCN
        by_cases h200 : 200 < O.length
        · have hd2 : decide ((200 : Int) < (O.length : Int)) = true := decide_eq_true (by omega)
          go_wp2_with fail
          go_ret2
          exact ⟨HBW.out, Or.inr (Or.inr (Or.inl ⟨hlen2, HF.out, by rw [HR.out]; exact h200, rfl⟩))⟩
        · have hd2 : decide ((200 : Int) < (O.length : Int)) = false := decide_eq_false (by omega)
          have hfull := full_any oo oc O wr HBC.out.lies hol
          go_wp2_with fail
          refine hfull.mono ?_
          rintro e w5 ⟨hb5, ro, rc, rfl, hrb⟩
          have HB5 := Lib.hid (HBW.out.trans (hb5.mono HBW.out.size))
          have HRB := Lib.hid hrb
          clear hfull hb5 hrb
          go_wp2_with fail
          go_ret2
          exact ⟨HB5.out, Or.inr (Or.inr (Or.inr ⟨hlen2, HF.out, by rw [HR.out]; omega, ro, rc, by rw [HR.out]; exact HRB.out, by rw [HR.out]; rfl⟩))⟩
end Go.Proofs.YtbhndnjlplibmaaDoor.lg
