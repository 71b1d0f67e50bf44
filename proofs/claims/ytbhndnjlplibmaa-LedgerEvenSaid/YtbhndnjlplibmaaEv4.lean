/- dayref1.Chart, Ref, Entry: what an entry without a fault is. -/
import Derived.Test.YtbhndnjlplibmaaEv3
import Derived.Test.YtbhndnjlplibmaaEv1
namespace Go.Proofs.Ytbhndnjlplibmaa.lg
open Go.RowKit

set_option maxHeartbeats 2000000 in
theorem chart_any (ao : Option Addr) (ca : Nat) (t : List AccM) (w : World) (ha : AccsAt w ao t) (hm : t.length ≤ 9223372036854775807) (hca : t.length ≤ ca) (hnm : ∀ a ∈ t, a.code.size ≤ 9223372036854775807 ∧ a.name.size ≤ 9223372036854775807) :
    Calls Try.prog 35 #[.slice ao t.length ca] w (SomeInt (fun _ => True) w) := by
  by_cases h60 : (60 : Int) < (t.length : Int)
  · have hd : decide ((60 : Int) < (t.length : Int)) = true := decide_eq_true h60
    go_enter Try.func35, Try.ntmps35
    go_wp2_with fail
    go_ret
    exact ⟨_, trivial, rfl, Below.refl _ _⟩
  · have hd : decide ((60 : Int) < (t.length : Int)) = false := decide_eq_false h60
    have hacc := fun (i : Nat) (hi : i < t.length) (W : World) (hW : Below w.heap.size w W) => account_any ao ca t i W (ha.below hW) hm hi hca hnm
    have HACC := Lib.hid hacc
    clear hacc ha hnm
    go_enter Try.func35, Try.ntmps35
    go_wp2_with fail
    clear hd h60
    go_loopw [3] (fun i wr => ∃ k : Nat, k ≤ t.length ∧ i = .int .i64 (k : Int) ∧ Hid (Below w.heap.size w wr)) (fun i _ => t.length - (intOf i).toNat)
    case atStart => exact ⟨0, Nat.zero_le _, rfl, Below.refl _ _⟩
    case round =>
      obtain ⟨k, hk, rfl, HB⟩ := hrel
      have hk0 : (0 : Int) ≤ (k : Int) := by omega
      by_cases hlt : k < t.length
      · have hkI : (k : Int) < (t.length : Int) := by omega
        have hcall := HACC.out k hlt wr HB.out
        go_wp2_with fail
        refine hcall.mono ?_
        rintro e w1 ⟨n, _, rfl, hb1⟩
        have HB1 := Lib.hid (HB.out.trans (hb1.mono HB.out.size))
        clear hcall hb1
        cases hn : (n != 0) with
        | true =>
          go_wp2_with fail
          go_ret
          exact ⟨_, trivial, rfl, HB1.out⟩
        | false =>
          go_wp2_with fail
          go_roundw
          case rel => exact ⟨k + 1, by omega, by go_num, HB1⟩
          case measure => simp [intOf]; omega
      · obtain rfl : k = t.length := by omega
        go_wp2_with fail
        go_ret
        exact ⟨_, trivial, rfl, HB.out⟩
set_option maxHeartbeats 2000000 in
theorem rrefw_any (s : ByteArray) (w : World) : Calls Try.prog 36 #[.string s] w (SomeBool w) := by
  cases he : s.toList.isEmpty with
  | true =>
    have he2 : s.toList = [] := List.isEmpty_iff.1 he
    go_enter Try.func36, Try.ntmps36
    go_wp2_with fail
    go_ret
    exact ⟨_, rfl, rfl⟩
  | false =>
    have h0 : 0 < s.size := by
      rcases Nat.eq_zero_or_pos s.size with h | h
      · have : s.toList = [] := by rw [ByteArray.toList_eq]; exact List.length_eq_zero_iff.1 (by simpa using h)
        rw [this] at he; cases he
      · exact h
    by_cases h12 : (12 : Int) < (s.size : Int)
    · have hd : decide ((12 : Int) < (s.size : Int)) = true := decide_eq_true h12
      go_enter Try.func36, Try.ntmps36
      go_wp2_with fail
      go_ret
      exact ⟨_, rfl, rfl⟩
    · have hd : decide ((12 : Int) < (s.size : Int)) = false := decide_eq_false h12
      cases hq : (((s[0]'h0).toNat : Int) == 45) with
      | true =>
        go_enter Try.func36, Try.ntmps36
        go_wp2_with fail
        go_ret
        exact ⟨_, rfl, rfl⟩
      | false =>
        go_enter Try.func36, Try.ntmps36
        go_wp2_with fail
        clear hq hd he
        go_loop [3] (fun i => ∃ k : Nat, k ≤ s.size ∧ i = .int .i64 (k : Int)) (fun i => s.size - (intOf i).toNat)
        case atStart => exact ⟨0, Nat.zero_le _, rfl⟩
        case round =>
          obtain ⟨k, hk, rfl⟩ := hrel
          have hk0 : (0 : Int) ≤ (k : Int) := by omega
          by_cases hlt : k < s.size
          · have hkI : (k : Int) < (s.size : Int) := by omega
            have hclass : ((s[k]'hlt).toNat = 45) ∨ ((s[k]'hlt).toNat < 48 ∧ (s[k]'hlt).toNat ≠ 45) ∨ (48 ≤ (s[k]'hlt).toNat ∧ (s[k]'hlt).toNat ≤ 57) ∨ (58 ≤ (s[k]'hlt).toNat ∧ (s[k]'hlt).toNat ≤ 96) ∨ (97 ≤ (s[k]'hlt).toNat ∧ (s[k]'hlt).toNat ≤ 122) ∨ (123 ≤ (s[k]'hlt).toNat) := by omega
            rcases hclass with hc | hc | hc | hc | hc | hc
            · have q0 : (((s[k]'hlt).toNat : Int) != 45) = false := by simp; omega
              have q1 : decide (((s[k]'hlt).toNat : Int) < 48) = true := by first | exact decide_eq_true (by omega) | exact decide_eq_false (by omega)
              have q2 : decide ((57 : Int) < ((s[k]'hlt).toNat : Int)) = false := by first | exact decide_eq_true (by omega) | exact decide_eq_false (by omega)
              have q5 : decide (((s[k]'hlt).toNat : Int) < 97) = true := by first | exact decide_eq_true (by omega) | exact decide_eq_false (by omega)
              have q6 : decide ((122 : Int) < ((s[k]'hlt).toNat : Int)) = false := by first | exact decide_eq_true (by omega) | exact decide_eq_false (by omega)
              clear hc
              go_wp2_with fail
              go_round
              case rel => exact ⟨k + 1, by omega, by go_num⟩
              case measure => simp [intOf]; omega
            · have q0 : (((s[k]'hlt).toNat : Int) != 45) = true := by simp; omega
              have q1 : decide (((s[k]'hlt).toNat : Int) < 48) = true := by first | exact decide_eq_true (by omega) | exact decide_eq_false (by omega)
              have q2 : decide ((57 : Int) < ((s[k]'hlt).toNat : Int)) = false := by first | exact decide_eq_true (by omega) | exact decide_eq_false (by omega)
              have q5 : decide (((s[k]'hlt).toNat : Int) < 97) = true := by first | exact decide_eq_true (by omega) | exact decide_eq_false (by omega)
              have q6 : decide ((122 : Int) < ((s[k]'hlt).toNat : Int)) = false := by first | exact decide_eq_true (by omega) | exact decide_eq_false (by omega)
              clear hc
              go_wp2_with fail
              go_ret
              exact ⟨_, rfl, rfl⟩
            · have q0 : (((s[k]'hlt).toNat : Int) != 45) = true := by simp; omega
              have q1 : decide (((s[k]'hlt).toNat : Int) < 48) = false := by first | exact decide_eq_true (by omega) | exact decide_eq_false (by omega)
              have q2 : decide ((57 : Int) < ((s[k]'hlt).toNat : Int)) = false := by first | exact decide_eq_true (by omega) | exact decide_eq_false (by omega)
              have q5 : decide (((s[k]'hlt).toNat : Int) < 97) = true := by first | exact decide_eq_true (by omega) | exact decide_eq_false (by omega)
              have q6 : decide ((122 : Int) < ((s[k]'hlt).toNat : Int)) = false := by first | exact decide_eq_true (by omega) | exact decide_eq_false (by omega)
              clear hc
              go_wp2_with fail
              go_round
              case rel => exact ⟨k + 1, by omega, by go_num⟩
              case measure => simp [intOf]; omega
            · have q0 : (((s[k]'hlt).toNat : Int) != 45) = true := by simp; omega
              have q1 : decide (((s[k]'hlt).toNat : Int) < 48) = false := by first | exact decide_eq_true (by omega) | exact decide_eq_false (by omega)
              have q2 : decide ((57 : Int) < ((s[k]'hlt).toNat : Int)) = true := by first | exact decide_eq_true (by omega) | exact decide_eq_false (by omega)
              have q5 : decide (((s[k]'hlt).toNat : Int) < 97) = true := by first | exact decide_eq_true (by omega) | exact decide_eq_false (by omega)
              have q6 : decide ((122 : Int) < ((s[k]'hlt).toNat : Int)) = false := by first | exact decide_eq_true (by omega) | exact decide_eq_false (by omega)
              clear hc
              go_wp2_with fail
              go_ret
              exact ⟨_, rfl, rfl⟩
            · have q0 : (((s[k]'hlt).toNat : Int) != 45) = true := by simp; omega
              have q1 : decide (((s[k]'hlt).toNat : Int) < 48) = false := by first | exact decide_eq_true (by omega) | exact decide_eq_false (by omega)
              have q2 : decide ((57 : Int) < ((s[k]'hlt).toNat : Int)) = true := by first | exact decide_eq_true (by omega) | exact decide_eq_false (by omega)
              have q5 : decide (((s[k]'hlt).toNat : Int) < 97) = false := by first | exact decide_eq_true (by omega) | exact decide_eq_false (by omega)
              have q6 : decide ((122 : Int) < ((s[k]'hlt).toNat : Int)) = false := by first | exact decide_eq_true (by omega) | exact decide_eq_false (by omega)
              clear hc
              go_wp2_with fail
              go_round
              case rel => exact ⟨k + 1, by omega, by go_num⟩
              case measure => simp [intOf]; omega
            · have q0 : (((s[k]'hlt).toNat : Int) != 45) = true := by simp; omega
              have q1 : decide (((s[k]'hlt).toNat : Int) < 48) = false := by first | exact decide_eq_true (by omega) | exact decide_eq_false (by omega)
              have q2 : decide ((57 : Int) < ((s[k]'hlt).toNat : Int)) = true := by first | exact decide_eq_true (by omega) | exact decide_eq_false (by omega)
              have q5 : decide (((s[k]'hlt).toNat : Int) < 97) = false := by first | exact decide_eq_true (by omega) | exact decide_eq_false (by omega)
              have q6 : decide ((122 : Int) < ((s[k]'hlt).toNat : Int)) = true := by first | exact decide_eq_true (by omega) | exact decide_eq_false (by omega)
              clear hc
              go_wp2_with fail
              go_ret
              exact ⟨_, rfl, rfl⟩
          · obtain rfl : k = s.size := by omega
            go_wp2_with fail
            go_ret
            exact ⟨_, rfl, rfl⟩
/-- what an entry without a fault is -/
structure Good (e : EntryM) : Prop where
  ent : 1 ≤ e.ent ∧ e.ent ≤ 12
  per : 1 ≤ e.per ∧ e.per ≤ 120
  few : e.lines.length ≤ 20
  amt : ∀ x ∈ e.lines, -1000000000000000 ≤ x.amt ∧ x.amt ≤ 1000000000000000
  even : ∀ cur, sumAt ((e.lines.map bare).map toB) ⟨0, ⟨#[]⟩, cur⟩ = 0
theorem even_of {l : List LineM} {O : List LineM} (hO : O.map toB = sumsB l) (hz : ∀ x ∈ O, x.amt = 0) (hl : l.length ≤ 20) (ha : ∀ x ∈ l, -1000000000000000 ≤ x.amt ∧ x.amt ≤ 1000000000000000) (cur : ByteArray) : sumAt ((l.map bare).map toB) ⟨0, ⟨#[]⟩, cur⟩ = 0 := by
  have z : ∀ p, -(1000000000000000 * ((0 : Nat) : Int)) ≤ sumAt [] p ∧ sumAt [] p ≤ 1000000000000000 * ((0 : Nat) : Int) := fun p => by rw [sumAt_nil]; simp
  obtain ⟨_, _, h3⟩ := fold_puts ((l.map bare).map toB) [] 0 List.Pairwise.nil z (fun x hx => by
    obtain ⟨y, hy, rfl⟩ := List.mem_map.1 hx
    obtain ⟨u, hu, rfl⟩ := List.mem_map.1 hy
    exact ha u hu) (by simp; omega)
  have h4 := h3 ⟨0, ⟨#[]⟩, cur⟩
  rw [sumAt_nil, Int.zero_add] at h4
  rw [← h4]
  show sumAt (sumsB l) _ = 0
  rw [← hO]
  have : ∀ (O : List LineM), (∀ x ∈ O, x.amt = 0) → ∀ p, sumAt (O.map toB) p = 0 := fun O => by
    induction O with
    | nil => intro _ p; rfl
    | cons x r ih =>
      intro h p
      rw [List.map_cons, sumAt_cons, ih (fun y hy => h y (List.mem_cons_of_mem _ hy))]
      have := h x (List.mem_cons_self ..)
      show (if plOf (toB x) = p then x.amt else 0) + 0 = 0
      rw [this]; split <;> rfl
  exact this O hz _
set_option maxRecDepth 100000 in
set_option maxHeartbeats 4000000 in
theorem entry_any (ao : Option Addr) (ca : Nat) (t : List AccM) (x : EntryM) (lo : Option Addr) (lc : Nat) (w : World) (ha : AccsAt w ao t) (hm : t.length ≤ 9223372036854775807) (hca : t.length ≤ ca) (hnm : ∀ a ∈ t, a.code.size ≤ 9223372036854775807 ∧ a.name.size ≤ 9223372036854775807)
    (hl : LinesAt w lo x.lines) (hn : x.lines.length ≤ 9223372036854775807) :
    Calls Try.prog 19 #[.slice ao t.length ca, .agg #[.string x.ref, .int .i64 x.ent, .int .i64 x.per, .slice lo x.lines.length lc]] w (SomeInt (fun n => n = 0 → Good x) w) := by
  obtain ⟨be, hbe⟩ : ∃ be, be = w.heap.size := ⟨_, rfl⟩
  obtain ⟨W, hW⟩ : ∃ W, W = w.alloc (.cells #[.string x.ref, .int .i64 x.ent, .int .i64 x.per, .slice lo x.lines.length lc] 50) := ⟨_, rfl⟩
  have hbW : Below w.heap.size w W := by rw [hW]; exact (Below.refl _ _).alloc (Nat.le_refl _) _
  have hbx : W.heap[be]? = some (.cells #[.string x.ref, .int .i64 x.ent, .int .i64 x.per, .slice lo x.lines.length lc] 50 (0, 0)) := by rw [hW, hbe]; exact heap_new_at rfl _
  have hch := chart_any ao ca t W (ha.below hbW) hm hca hnm
  have HW := Lib.hid hW
  have HBE := Lib.hid hbe
  have HBX := Lib.hid hbx
  have hbl : be < W.heap.size := lt_of_heap hbx
  have HB0 := Lib.hid hbW
  have HA := Lib.hid ha
  have HL := Lib.hid hl
  have hcells : ∀ wx, Below W.heap.size W wx → wx.cell? ⟨be, 0, none⟩ = some (.string x.ref) ∧ wx.cell? ⟨be, 1, none⟩ = some (.int .i64 x.ent) ∧ wx.cell? ⟨be, 2, none⟩ = some (.int .i64 x.per) ∧ wx.cell? ⟨be, 3, none⟩ = some (.slice lo x.lines.length lc) := fun wx h => by
    have := (h.block be hbl).trans hbx
    exact ⟨cell_of_heap this 0, cell_of_heap this 1, cell_of_heap this 2, cell_of_heap this 3⟩
  have HCE := Lib.hid hcells
  clear hW hbe hbW hbx ha hl hcells hnm hca
  go_enter Try.func19, Try.ntmps19
  go_wp2_with (rw [← HW.out, ← HBE.out])
  refine hch.mono ?_
  rintro e w1 ⟨n1, _, rfl, hb1⟩
  have HB1 := Lib.hid hb1
  have HBB1 : Hid (Below w.heap.size w w1) := HB0.out.trans (hb1.mono HB0.out.size)
  clear hch hb1 HW HBE
  obtain ⟨e0, e1, e2, e3⟩ := HCE.out w1 HB1.out
  cases hz1 : (n1 != 0) with
  | true =>
    have hne : n1 ≠ 0 := by simpa using hz1
    have HNE : Hid (n1 = 0 → Good x) := fun h => absurd h hne
    clear hne
    go_wp2_with fail
    go_ret
    exact ⟨_, HNE.out, rfl, HBB1.out⟩
  | false =>
    have hrf := rrefw_any x.ref w1
    go_wp2_with fail
    refine hrf.mono ?_
    rintro e w' ⟨rb, rfl, rfl⟩
    clear hrf
    cases rb with
    | false =>
      have HNE : Hid ((2 : Int) = 0 → Good x) := fun h => by cases h
      go_wp2_with fail
      go_ret
      exact ⟨_, HNE.out, rfl, HBB1.out⟩
    | true =>
      have hen := rentity_any x.ent w1
      have hpe := rperiod_any x.per w1
      have HNE1 : Hid ((1 : Int) = 0 → Good x) := fun h => by cases h
      cases hi1 : inEnt x.ent with
      | false =>
        rw [hi1] at hen
        go_wp2_with fail
        refine hen.mono ?_
        rintro e w' ⟨rfl, rfl⟩
        clear hen
        go_wp2_with fail
        refine hpe.mono ?_
        rintro e w' ⟨rfl, rfl⟩
        clear hpe
        go_wp2_with fail
        go_ret
        exact ⟨_, HNE1.out, rfl, HBB1.out⟩
      | true =>
        rw [hi1] at hen
        go_wp2_with fail
        refine hen.mono ?_
        rintro e w' ⟨rfl, rfl⟩
        clear hen
        cases hi2 : inPer x.per with
        | false =>
          rw [hi2] at hpe
          go_wp2_with fail
          refine hpe.mono ?_
          rintro e w' ⟨rfl, rfl⟩
          clear hpe
          go_wp2_with fail
          go_ret
          exact ⟨_, HNE1.out, rfl, HBB1.out⟩
        | true =>
          rw [hi2] at hpe
          have HE1 := Lib.hid (inEnt_iff.1 hi1)
          have HE2 := Lib.hid (inPer_iff.1 hi2)
          clear hi1 hi2
          go_wp2_with fail
          refine hpe.mono ?_
          rintro e w' ⟨rfl, rfl⟩
          clear hpe
          by_cases h2 : (x.lines.length : Int) < 2
          · have hd2 : decide ((x.lines.length : Int) < 2) = true := decide_eq_true h2
            have HNE3 : Hid ((3 : Int) = 0 → Good x) := fun h => by cases h
            go_wp2_with fail
            go_ret
            exact ⟨_, HNE3.out, rfl, HBB1.out⟩
          have hd2 : decide ((x.lines.length : Int) < 2) = false := decide_eq_false h2
          by_cases h20 : (20 : Int) < (x.lines.length : Int)
          · have hd20 : decide ((20 : Int) < (x.lines.length : Int)) = true := decide_eq_true h20
            have HNE4 : Hid ((4 : Int) = 0 → Good x) := fun h => by cases h
            go_wp2_with fail
            go_ret
            exact ⟨_, HNE4.out, rfl, HBB1.out⟩
          have hd20 : decide ((20 : Int) < (x.lines.length : Int)) = false := decide_eq_false h20
          have hl20 : x.lines.length ≤ 20 := by omega
          go_wp2_with fail
          clear hd2 hd20 h2 h20 e0 e1 e2 e3
          have hnew : ∀ c, Hid (c ≠ 0 → (c = (0 : Int) → Good x)) := fun c h e => absurd e h
          go_loopw [9] (fun i wr => ∃ k : Nat, k ≤ x.lines.length ∧ i = .int .i64 (k : Int) ∧ Hid (∀ y ∈ x.lines.take k, -1000000000000000 ≤ y.amt ∧ y.amt ≤ 1000000000000000) ∧ Hid (Below W.heap.size W wr)) (fun i _ => x.lines.length - (intOf i).toNat)
          case atStart => exact ⟨0, Nat.zero_le _, rfl, (fun y hy => by simp at hy), HB1.out⟩
          case round =>
            obtain ⟨k, hk, rfl, HY, HBW⟩ := hrel
            have HBB : Hid (Below w.heap.size w wr) := HB0.out.trans (HBW.out.mono HB0.out.size)
            obtain ⟨e0, e1, e2, e3⟩ := HCE.out wr HBW.out
            have hk0 : (0 : Int) ≤ (k : Int) := by omega
            by_cases hlt : k < x.lines.length
            · have hkI : (k : Int) < (x.lines.length : Int) := by omega
              have hkd : decide ((k : Int) < (x.lines.length : Int)) = true := decide_eq_true hkI
              obtain ⟨y, hy⟩ := getElem?_ex hlt
              have hHL : LinesAt wr lo x.lines := HL.out.below HBB.out
              obtain ⟨b9, off, rfl, hb9, hcc⟩ := hHL.resolve_left (fun e => by rw [e] at hlt; simp at hlt)
              obtain ⟨x0, x1, x2⟩ := hcc k y hy
              obtain ⟨g, hg⟩ : ∃ g, g = wr.heap.size := ⟨_, rfl⟩
              obtain ⟨V, hV⟩ : ∃ V, V = wr.alloc (.cells #[.string y.acc, .string y.cur, .int .i64 y.amt] 81) := ⟨_, rfl⟩
              have hbV : Below wr.heap.size wr V := by rw [hV]; exact (Below.refl _ _).alloc (Nat.le_refl _) _
              have hgb : V.heap[g]? = some (.cells #[.string y.acc, .string y.cur, .int .i64 y.amt] 81 (0, 0)) := by rw [hV, hg]; exact heap_new_at rfl _
              have z0 : V.cell? ⟨g, 0, none⟩ = some (.string y.acc) := cell_of_heap hgb 0
              have z1 : V.cell? ⟨g, 1, none⟩ = some (.string y.cur) := cell_of_heap hgb 1
              have z2 : V.cell? ⟨g, 2, none⟩ = some (.int .i64 y.amt) := cell_of_heap hgb 2
              have HBV : Hid (Below W.heap.size W V) := HBW.out.trans (hbV.mono HBW.out.size)
              have HBBV : Hid (Below w.heap.size w V) := HBB.out.trans (hbV.mono HBB.out.size)
              have hlf := leaf_any ao ca t y.acc V (HA.out.below HBBV.out) hm
              have hcu := rcur_any y.cur V
              have ham := ramount_any y.amt V
              have HNEXT : Hid (mayA y.amt = true → ∀ z ∈ x.lines.take (k + 1), -1000000000000000 ≤ z.amt ∧ z.amt ≤ 1000000000000000) := fun hm' z hz => by
                obtain ⟨hk', rfl⟩ := List.getElem?_eq_some_iff.1 hy
                rw [List.take_succ_eq_append_getElem hk'] at hz
                rcases List.mem_append.1 hz with hz | hz
                · exact HY.out z hz
                · rw [List.mem_singleton.1 hz]; exact mayA_iff.1 hm'
              have HV := Lib.hid hV
              have HG := Lib.hid hg
              clear hcc hHL hy hg hV hbV hgb HY hb9
              go_wp2_with fail
              rw [← HV.out, ← HG.out]
              clear x0 x1 x2 e0 e1 e2 e3
              go_wp2_with fail
              refine hlf.mono ?_
              rintro e w' ⟨n2, _, rfl, rfl⟩
              clear hlf HV HG
              cases hz2 : (n2 != 0) with
              | true =>
                have hne : n2 ≠ 0 := by simpa using hz2
                have HNE : Hid (n2 = 0 → Good x) := (hnew n2).out hne
                clear hne hnew
                go_wp2_with fail
                go_ret
                exact ⟨_, HNE.out, rfl, HBBV.out⟩
              | false =>
                go_wp2_with fail
                refine hcu.mono ?_
                rintro e w' ⟨rc, rfl, rfl⟩
                clear hcu
                cases rc with
                | false =>
                  have HNE : Hid ((2 : Int) = 0 → Good x) := fun h => by cases h
                  clear hnew
                  go_wp2_with fail
                  go_ret
                  exact ⟨_, HNE.out, rfl, HBBV.out⟩
                | true =>
                  go_wp2_with fail
                  refine ham.mono ?_
                  rintro e w' ⟨rfl, rfl⟩
                  clear ham
                  cases hma : mayA y.amt with
                  | false =>
                    clear hnew
                    go_wp2_with fail
                    go_ret
                    exact ⟨_, HNE1.out, rfl, HBBV.out⟩
                  | true =>
                    have HN2 := Lib.hid (HNEXT.out hma)
                    clear HNEXT
                    cases hz0 : (y.amt == 0) with
                    | true =>
                      clear hnew
                      go_wp2_with fail
                      go_ret
                      exact ⟨_, HNE1.out, rfl, HBBV.out⟩
                    | false =>
                      clear hnew
                      go_wp2_with fail
                      go_roundw
                      case rel => exact ⟨k + 1, by omega, by go_num, HN2, HBV⟩
                      case measure => simp [intOf]; omega
            · obtain rfl : k = x.lines.length := by omega
              have hkd : decide ((x.lines.length : Int) < (x.lines.length : Int)) = false := decide_eq_false (by omega)
              have hrs := rsums_any lo lc x wr (HL.out.below HBB.out) (by omega)
              have HAM : Hid (∀ y ∈ x.lines, -1000000000000000 ≤ y.amt ∧ y.amt ≤ 1000000000000000) := fun y hy => HY.out y (by rw [List.take_length]; exact hy)
              clear HY
              go_wp2_with fail
              refine hrs.mono ?_
              rintro e w3 ⟨hb3, v, O, rfl, ho1, ho2⟩
              obtain ⟨sa, sc, rfl, hsl⟩ := lines_of_row ho1 rfl
              have HBB3 : Hid (Below w.heap.size w w3) := HBB.out.trans (hb3.mono HBB.out.size)
              have HO := Lib.hid ho2
              have HSL := Lib.hid hsl
              have hOl : O.length ≤ 1000 := by have h1 := fold_lenL (l := x.lines.map bare) ho2; rw [List.length_map] at h1; omega
              clear hrs hb3 ho1 ho2 hsl e0 e1 e2 e3
              go_wp2_with fail
              go_loop [12] (fun i => ∃ k : Nat, k ≤ O.length ∧ i = .int .i64 (k : Int) ∧ Hid (∀ y ∈ O.take k, y.amt = 0)) (fun i => O.length - (intOf i).toNat)
              case atStart => exact ⟨0, Nat.zero_le _, rfl, fun y hy => by simp at hy⟩
              case round =>
                obtain ⟨j, hj, rfl, HZ⟩ := hrel
                have hj0 : (0 : Int) ≤ (j : Int) := by omega
                by_cases hjl : j < O.length
                · have hjI : (j : Int) < (O.length : Int) := by omega
                  have hjd : decide ((j : Int) < (O.length : Int)) = true := decide_eq_true hjI
                  obtain ⟨y, hy⟩ := getElem?_ex hjl
                  obtain ⟨b9, off, rfl, hb9, hcc⟩ := HSL.out.resolve_left (fun e => by rw [e] at hjl; simp at hjl)
                  obtain ⟨x0, x1, x2⟩ := hcc j y hy
                  have HNEXT : Hid (y.amt = 0 → ∀ z ∈ O.take (j + 1), z.amt = 0) := fun hm' z hz => by
                    obtain ⟨hk', rfl⟩ := List.getElem?_eq_some_iff.1 hy
                    rw [List.take_succ_eq_append_getElem hk'] at hz
                    rcases List.mem_append.1 hz with hz | hz
                    · exact HZ.out z hz
                    · rw [List.mem_singleton.1 hz]; exact hm'
                  clear hcc hy HZ
                  cases hz0 : (y.amt != 0) with
                  | true =>
                    have HNE : Hid ((11 : Int) = 0 → Good x) := fun h => by cases h
                    clear hnew
                    go_wp2_with fail
                    go_ret
                    exact ⟨_, HNE.out, rfl, HBB3.out⟩
                  | false =>
                    have HN2 := Lib.hid (HNEXT.out (by simpa using hz0))
                    clear HNEXT hnew
                    go_wp2_with fail
                    go_round
                    case rel => exact ⟨j + 1, by omega, by go_num, HN2⟩
                    case measure => simp [intOf]; omega
                · obtain rfl : j = O.length := by omega
                  have hjd : decide ((O.length : Int) < (O.length : Int)) = false := decide_eq_false (by omega)
                  have HNE : Hid (Good x) := ⟨HE1.out, HE2.out, hl20, HAM.out, fun cur => even_of HO.out (fun y hy => HZ.out y (by rw [List.take_length]; exact hy)) hl20 HAM.out cur⟩
                  clear hnew HZ
                  go_wp2_with fail
                  go_ret
                  exact ⟨_, fun _ => HNE.out, rfl, HBB3.out⟩
end Go.Proofs.Ytbhndnjlplibmaa.lg
