/- dayref3.Holdings: what is wrong with any holdings. -/
import Derived.Test.YtbhndnjlplibmaaDoorGroup6
import Derived.Test.YtbhndnjlplibmaaDoorGpL
import Derived.Test.YtbhndnjlplibmaaDoorGen
import Derived.BigQuiet
import Derived.Deep.QuietTactic
import Derived.WalkSmall
namespace Go.Proofs.YtbhndnjlplibmaaDoor.gp
open Go.RowKit

theorem rentity_any (n : Int) (w : World) : Calls Tryd.prog 48 #[.int .i64 n] w fun e w' => e = .returned (.bool (entB n)) ∧ w = w' := by
  have hb : Hid (entB n = (decide (1 ≤ n) && decide (n ≤ 12))) := rfl
  generalize entB n = b at hb
  by_cases h0 : 1 ≤ n
  · have hb' : Hid (b = decide (n ≤ 12)) := by show _ = _; rw [hb.out]; simp [h0]
    go_enter Tryd.func48, Tryd.ntmps48
    go_wp2_with fail
    go_ret
    exact ⟨ret_bool (by rw [hb'.out]), rfl⟩
  · have h0d : decide (1 ≤ n) = false := decide_eq_false h0
    have hb' : Hid (b = false) := by show _ = _; rw [hb.out]; simp [h0]
    go_enter Tryd.func48, Tryd.ntmps48
    go_wp2_with fail
    go_ret
    exact ⟨ret_bool (by rw [hb'.out]), rfl⟩

def HPost (B : Nat) (w : World) (r : Int) (e : Ending) (w' : World) : Prop := e = .returned (.int .i64 r) ∧ Below B w w'
def hBox (xe xo xp : Int) : Obj := .cells #[.int .i64 xe, .int .i64 xo, .int .i64 xp] 99 (0, 0)

/-- the sum of the parts of one, from the first k -/
theorem hadSum_take {hs : List Hold} (hp : ∀ h ∈ hs, 1 ≤ h.p ∧ h.p ≤ 1000) (hl : hs.length ≤ 20) (o : Int) (k : Nat) : 0 ≤ hadSum (hs.take k) o ∧ hadSum (hs.take k) o ≤ 20000 := by
  have h := hadSum_nn (hs := hs.take k) (fun x hx => hp x (List.mem_of_mem_take hx)) o
  have h2 : (hs.take k).length ≤ 20 := by rw [List.length_take]; omega
  omega
theorem any_take_succ {hs : List Hold} {p : Hold → Bool} {m : Nat} {y : Hold} (h : hs[m]? = some y) (h0 : (hs.take m).any p = false) (hy : p y = false) : (hs.take (m + 1)).any p = false := by
  obtain ⟨hlt, he⟩ := List.getElem?_eq_some_iff.1 h
  rw [List.take_succ_eq_append_getElem hlt, List.any_append, h0, he]
  simp [hy]
theorem any_take_true {hs : List Hold} {p : Hold → Bool} {m k : Nat} {y : Hold} (h : hs[m]? = some y) (hk : m < k) (hy : p y = true) : (hs.take k).any p = true := by
  obtain ⟨hlt, he⟩ := List.getElem?_eq_some_iff.1 h
  rw [List.any_eq_true]
  exact ⟨y, List.mem_take_iff_getElem.2 ⟨m, by omega, he⟩, hy⟩

/-- a list of its own, that has something -/
theorem seen_at {w wr : World} {v : Value} {seen : List Int} (h : RowSt w [] 3 1 v seen.length (seen.map (Value.int .i64)) wr) (h0 : 0 < seen.length) :
    ∃ g c, v = .slice (some ⟨g, 0, none⟩) seen.length c ∧ g < wr.heap.size ∧ seen.length ≤ c ∧ ∀ j, j < seen.length → wr.cell? ⟨g, j, none⟩ = some (.int .i64 (seen.getD j 0)) := by
  obtain ⟨g, c, rfl, _, hlt, hc⟩ := ownsRow_some h.row h0
  refine ⟨g, c, rfl, hlt, hc, fun j hj => ?_⟩
  have h1 := h.row.cellAt j (by omega)
  rw [h1, List.getElem?_map, List.getElem?_eq_getElem hj]
  simp [hj]
theorem memB_take_succ {seen : List Int} {j : Nat} (hj : j < seen.length) (o : Int) : memB (seen.take (j + 1)) o = (memB (seen.take j) o || (seen.getD j 0 == o)) := by
  unfold memB
  rw [List.take_succ_eq_append_getElem hj, Bool.eq_iff_iff]
  simp only [List.contains_eq_mem, List.mem_append, List.mem_singleton, Bool.or_eq_true, decide_eq_true_eq, beq_iff_eq]
  have e : seen.getD j 0 = seen[j] := by simp [hj]
  rw [e]
  exact or_congr Iff.rfl eq_comm
theorem memB_iff {seen : List Int} {o : Int} : memB seen o = true ↔ o ∈ seen := by simp [memB]
theorem memB_not {seen : List Int} {o : Int} (h : memB seen o = false) : o ∉ seen := fun hm => by rw [memB_iff.2 hm] at h; cases h
theorem seen_start {w wr : World} (hb : Below w.heap.size w wr) (e : Int) : RowSt w [] 3 1 (.slice (some ⟨wr.heap.size, 0, none⟩) 1 1) [e].length ([e].map (Value.int .i64)) (wr.alloc (.cells #[.int .i64 e] 3)) :=
  ⟨⟨hb.alloc hb.size _, fun p hp => by cases hp⟩, ⟨rfl, Or.inr ⟨wr.heap.size, 1, #[.int .i64 e], rfl, hb.size, heap_new_at rfl _, Nat.le_refl _, by decide, rfl, rfl⟩⟩, fun k hk p hp => by cases hp⟩

set_option maxRecDepth 100000 in
set_option maxHeartbeats 8000000 in
theorem holdings_few (r : Int) (ao : Option Addr) (cap : Nat) (hs : List Hold) (w : World) (hh : HoldsAt w.heap.size w ao hs) (hl : ¬ 20 < hs.length) (hr : Hid (checkF hs = r)) :
    Calls Tryd.prog 15 #[.slice ao hs.length cap] w (HPost w.heap.size w r) := by
  have HH := Lib.hid hh
  have hr1 : Hid ((if chkFrom hs hs 0 ≠ 0 then chkFrom hs hs 0 else if chk2From hs hs 0 ≠ 0 then chk2From hs hs 0 else if ord hs 13 [] = none then 5 else 0) = r) := by
    have a := hr.out; rw [checkF, if_neg hl] at a; exact a
  have hd : decide ((20 : Int) < (hs.length : Int)) = false := decide_eq_false (by omega)
  have hlen : hs.length ≤ 20 := by omega
  have HL := Lib.hid hl
  clear hh hl
  go_enter Tryd.func15, Tryd.ntmps15
  go_wp2_with fail
  go_loopw [3] (fun i wr => ∃ k : Nat, k ≤ hs.length ∧ i = .int .i64 (k : Int) ∧ Hid (chkFrom hs hs 0 = chkFrom hs (hs.drop k) k) ∧ Hid (Below w.heap.size w wr)) (fun i _ => hs.length - (intOf i).toNat)
  case atStart => exact ⟨0, Nat.zero_le _, rfl, rfl, Below.refl _ _⟩
  case round =>
    obtain ⟨k, hk, rfl, hi, hbel⟩ := hrel
    by_cases hlt : k < hs.length
    · obtain ⟨x, hx⟩ := getElem?_ex hlt
      obtain ⟨b, off, rfl, hb, hcc⟩ := HH.out.resolve_left (fun e => by rw [e] at hlt; simp at hlt)
      have HC := Lib.hid hcc
      clear hcc
      obtain ⟨c0, c1, c2⟩ := HC.out k x hx
      replace c0 := (hbel.out.cell (p := ⟨b, _, none⟩) hb).trans c0
      replace c1 := (hbel.out.cell (p := ⟨b, _, none⟩) hb).trans c1
      replace c2 := (hbel.out.cell (p := ⟨b, _, none⟩) hb).trans c2
      have hd2 := Lib.hid (chkFrom_drop hs k x hx)
      clear hx
      obtain ⟨xe, xo, xp⟩ := x
      dsimp only at c0 c1 c2
      have hltI : (k : Int) < (hs.length : Int) := by omega
      have hk0 : (0 : Int) ≤ (k : Int) := by omega
      have HB2 : Hid (Below w.heap.size w (wr.alloc (.cells #[.int .i64 xe, .int .i64 xo, .int .i64 xp] 99))) := hbel.out.alloc hbel.out.size _
      by_cases hbad : entB xe = false ∨ entB xo = false ∨ xp < 1 ∨ 1000 < xp
      · have hr1' := chk_stop (chkOne_bad (h := ⟨xe, xo, xp⟩) hbad) (by decide) hi.out hd2.out hr1.out
        subst hr1'
        clear hr1 hd2 hi hr
        have hcase : (entB xe = false) ∨ (entB xe = true ∧ entB xo = false) ∨ (entB xe = true ∧ entB xo = true ∧ decide (xp < 1) = true) ∨ (entB xe = true ∧ entB xo = true ∧ decide (xp < 1) = false ∧ decide (1000 < xp) = true) := by
          cases h1 : entB xe <;> cases h2 : entB xo <;> simp [h1, h2] at hbad ⊢ <;> omega
        clear hbad
        rcases hcase with h1 | ⟨h1, h2⟩ | ⟨h1, h2, h3⟩ | ⟨h1, h2, h3, h4⟩
        all_goals
          go_wp2_with (go_at_call 48; refine (rentity_any _ _).mono ?_; rintro e w' ⟨rfl, rfl⟩)
          go_ret
          exact ⟨rfl, HB2.out⟩
      · obtain ⟨g1, g2, g3, g4⟩ : entB xe = true ∧ entB xo = true ∧ decide (xp < 1) = false ∧ decide (1000 < xp) = false := by
          cases h1 : entB xe <;> cases h2 : entB xo <;> simp [h1, h2] at hbad ⊢ <;> omega
        by_cases heq : xe = xo
        · have hr1' := chk_stop (chkOne_clash (h := ⟨xe, xo, xp⟩) hbad (Or.inl heq)) (by decide) hi.out hd2.out hr1.out
          subst hr1'
          have hq : (xe == xo) = true := beq_iff_eq.2 heq
          clear hr1 hd2 hi hbad heq hr
          go_wp2_with (go_at_call 48; refine (rentity_any _ _).mono ?_; rintro e w' ⟨rfl, rfl⟩)
          go_ret
          exact ⟨rfl, HB2.out⟩
        · have hq : (xe == xo) = false := beq_eq_false_iff_ne.2 heq
          obtain ⟨q, hqq⟩ : ∃ q, q = wr.heap.size := ⟨_, rfl⟩
          have hqB : w.heap.size ≤ q := by rw [hqq]; exact hbel.out.size
          have fr0 : Fr w [(q, hBox xe xo xp)] (wr.alloc (.cells #[.int .i64 xe, .int .i64 xo, .int .i64 xp] 99)) := (show Fr w [] wr from ⟨hbel.out, fun p hp => by cases hp⟩).newAt hqq.symm _
          have F0 := Lib.hid fr0
          have HQ := Lib.hid hqq
          have HBAD := Lib.hid hbad
          have HEQ := Lib.hid heq
          clear fr0 hqq hbad heq HB2 hbel
          go_wp2_with (go_at_call 48; refine (rentity_any _ _).mono ?_; rintro e w' ⟨rfl, rfl⟩)
          rw [← HQ.out]
          clear c0 c1 c2
          go_loopw [7] (fun j wr2 => ∃ m : Nat, m ≤ k ∧ j = .int .i64 (m : Int) ∧ Hid (((hs.take m).any fun y => y.e == xe && y.o == xo) = false) ∧ Hid (Fr w [(q, hBox xe xo xp)] wr2)) (fun j _ => k - (intOf j).toNat)
          case atStart => exact ⟨0, Nat.zero_le _, rfl, rfl, F0⟩
          case round =>
            clear F0
            obtain ⟨m, hm, rfl, hany, hF⟩ := hrel
            by_cases hmk : m < k
            · obtain ⟨y, hy⟩ := getElem?_ex (show m < hs.length by omega)
              obtain ⟨c0, c1, c2⟩ := HC.out m y hy
              replace c0 := (hF.out.old hb (off + m * 3)).trans c0
              replace c1 := (hF.out.old hb (off + m * 3 + 1)).trans c1
              have e0 : wr.cell? ⟨q, 0, none⟩ = some (.int .i64 xe) := cell_of_heap hF.out.hd 0
              have e1 : wr.cell? ⟨q, 1, none⟩ = some (.int .i64 xo) := cell_of_heap hF.out.hd 1
              have hmI : (m : Int) < (k : Int) := by omega
              have hmL : (m : Int) < (hs.length : Int) := by omega
              have hm0 : (0 : Int) ≤ (m : Int) := by omega
              have HY := Lib.hid hy
              have HFn : ∀ n, Hid (Fr w [(q, hBox xe xo xp)] (wr.drewN n)) := fun n => hF.out.later (below_drewN (Below.refl _ _) n)
              clear c2 hF hy
              by_cases he : y.e = xe
              · by_cases ho : y.o = xo
                · have hr1' := chk_stop (chkOne_clash (h := ⟨xe, xo, xp⟩) HBAD.out (Or.inr (any_take_true HY.out hmk (by simp [he, ho])))) (by decide) hi.out hd2.out hr1.out
                  subst hr1'
                  have q1 : (y.e == xe) = true := beq_iff_eq.2 he
                  have q2 : (y.o == xo) = true := beq_iff_eq.2 ho
                  clear hr1 hd2 hi hr he ho hany
                  go_wp2_with fail
                  go_quiet (fail)
                  go_wp2_with fail
                  go_ret
                  exact ⟨rfl, (HFn _).out.below⟩
                · have q1 : (y.e == xe) = true := beq_iff_eq.2 he
                  have q2 : (y.o == xo) = false := beq_eq_false_iff_ne.2 ho
                  have HN := Lib.hid (any_take_succ (p := fun y => y.e == xe && y.o == xo) HY.out hany.out (by simp [q2]))
                  clear he ho hany
                  go_wp2_with fail
                  go_quiet (fail)
                  go_wp2_with fail
                  go_roundw
                  case rel => exact ⟨m + 1, by omega, by go_num, HN, HFn _⟩
                  case measure => simp [intOf]; omega
              · have q1 : (y.e == xe) = false := beq_eq_false_iff_ne.2 he
                have HN := Lib.hid (any_take_succ (p := fun y => y.e == xe && y.o == xo) HY.out hany.out (by simp [q1]))
                clear he hany
                go_wp2_with fail
                go_quiet (fail)
                go_wp2_with fail
                go_roundw
                case rel => exact ⟨m + 1, by omega, by go_num, HN, HFn _⟩
                case measure => simp [intOf]; omega
            · obtain rfl : m = k := by omega
              have hnext := Lib.hid (chk_next (chkOne_good (h := ⟨xe, xo, xp⟩) HBAD.out (fun h => by rcases h with h | h; exact HEQ.out h; exact absurd h (by rw [hany.out]; decide))) hi.out hd2.out)
              have HB3 := Lib.hid hF.out.below
              clear hd2 hi hany hF
              go_wp2_with fail
              go_roundw
              case rel => exact ⟨m + 1, by omega, by go_num, hnext, HB3⟩
              case measure => simp [intOf]; omega
    · have hke : hs.drop k = [] := List.drop_eq_nil_of_le (by omega)
      have hk2 : k = hs.length := by omega
      have H0 : Hid (chkFrom hs hs 0 = 0) := by have c := hi.out; rw [hke] at c; exact c
      have hgood : ∀ h ∈ hs, entB h.e = true ∧ entB h.o = true ∧ 1 ≤ h.p ∧ h.p ≤ 1000 := chkFrom_zero H0.out
      have HP : Hid (∀ h ∈ hs, 1 ≤ h.p ∧ h.p ≤ 1000) := fun x hx => (hgood x hx).2.2
      have HE : Hid (∀ h ∈ hs, (1 ≤ h.e ∧ h.e ≤ 12) ∧ (1 ≤ h.o ∧ h.o ≤ 12)) := fun x hx => ⟨entB_true (hgood x hx).1, entB_true (hgood x hx).2.1⟩
      have hltI : decide ((k : Int) < (hs.length : Int)) = false := decide_eq_false (by omega)
      have hltN : decide (k < hs.length) = false := decide_eq_false (by omega)
      clear hke hgood hi hr1 hk2
      go_wp2_with fail
      clear hltI hltN
      go_loopw [8] (fun e wr => ∃ n : Nat, n ≤ 12 ∧ e = .int .i64 ((n : Int) + 1) ∧ Hid (∀ j : Nat, j < n → hadSum hs ((j : Int) + 1) ≤ 1000) ∧ Hid (Below w.heap.size w wr)) (fun e _ => 13 - (intOf e).toNat)
      case atStart => exact ⟨0, Nat.zero_le _, rfl, fun j hj => absurd hj (by omega), hbel⟩
      case round =>
        clear hbel
        obtain ⟨n, hn, rfl, hsum, hbel⟩ := hrel
        by_cases hn12 : n < 12
        · have d12 : decide ((n : Int) + 1 ≤ 12) = true := decide_eq_true (by omega)
          go_wp2_with fail
          go_loop [9, 10] (fun s i => ∃ m : Nat, m ≤ hs.length ∧ i = .int .i64 (m : Int) ∧ s = .int .i64 (hadSum (hs.take m) ((n : Int) + 1))) (fun _ i => hs.length - (intOf i).toNat)
          case atStart => exact ⟨0, Nat.zero_le _, rfl, rfl⟩
          case round =>
            obtain ⟨m, hm, rfl, rfl⟩ := hrel
            obtain ⟨s1, s2⟩ := hadSum_take HP.out hlen ((n : Int) + 1) m
            by_cases hml : m < hs.length
            · obtain ⟨y, hy⟩ := getElem?_ex hml
              obtain ⟨b, off, rfl, hb, hcc⟩ := HH.out.resolve_left (fun e => by rw [e] at hml; simp at hml)
              obtain ⟨c0, c1, c2⟩ := hcc m y hy
              replace c1 := (hbel.out.cell (p := ⟨b, _, none⟩) hb).trans c1
              replace c2 := (hbel.out.cell (p := ⟨b, _, none⟩) hb).trans c2
              have hstep := Lib.hid (hadSum_step hs m y hy ((n : Int) + 1))
              have hyp := HP.out y (List.mem_of_getElem? hy)
              obtain ⟨p1, p2⟩ := hyp
              have hmI : (m : Int) < (hs.length : Int) := by omega
              have hm0 : (0 : Int) ≤ (m : Int) := by omega
              clear c0 hcc hy
              generalize hadSum (hs.take m) ((n : Int) + 1) = S at *
              by_cases ho : y.o = (n : Int) + 1
              · have q1 : (y.o == (n : Int) + 1) = true := beq_iff_eq.2 ho
                have hnx : Hid (hadSum (hs.take (m + 1)) ((n : Int) + 1) = S + y.p) := by show _ = _; rw [hstep.out, if_pos ho]
                clear ho hstep
                go_wp2_with fail
                go_round
                case rel => exact ⟨m + 1, by omega, by go_num, by rw [hnx.out]⟩
                case measure => simp [intOf]; omega
              · have q1 : (y.o == (n : Int) + 1) = false := beq_eq_false_iff_ne.2 ho
                have hnx : Hid (hadSum (hs.take (m + 1)) ((n : Int) + 1) = S) := by show _ = _; rw [hstep.out, if_neg ho]; omega
                clear ho hstep
                go_wp2_with fail
                go_round
                case rel => exact ⟨m + 1, by omega, by go_num, by rw [hnx.out]⟩
                case measure => simp [intOf]; omega
            · have hmd : decide ((m : Int) < (hs.length : Int)) = false := decide_eq_false (by omega)
              have hmn : decide (m < hs.length) = false := decide_eq_false (by omega)
              have htk : Hid (hadSum (hs.take m) ((n : Int) + 1) = hadSum hs ((n : Int) + 1)) := by show _ = _; rw [List.take_of_length_le (by omega)]
              generalize hadSum (hs.take m) ((n : Int) + 1) = S at *
              by_cases hbig : 1000 < S
              · have hd5 : decide ((1000 : Int) < S) = true := decide_eq_true hbig
                have hr5 := check_sum (hs := hs) HL.out H0.out (e := (n : Int) + 1) (by rw [← htk.out]; exact hbig)
                have hrr := hr.out
                rw [hr5] at hrr
                subst hrr
                clear hbig hr htk hr5
                go_wp2_with fail
                go_ret
                exact ⟨rfl, hbel.out⟩
              · have hd5 : decide ((1000 : Int) < S) = false := decide_eq_false hbig
                have hsum2 : Hid (∀ j : Nat, j < n + 1 → hadSum hs ((j : Int) + 1) ≤ 1000) := fun j hj => by
                  by_cases hjn : j = n
                  · subst hjn; rw [← htk.out]; omega
                  · exact hsum.out j (by omega)
                clear hbig htk
                go_wp2_with fail
                go_roundw
                case rel => exact ⟨n + 1, by omega, by go_num, hsum2, hbel⟩
                case measure => simp [intOf]; omega
        · have d12 : decide ((n : Int) + 1 ≤ 12) = false := decide_eq_false (by omega)
          have HSUM : Hid (∀ j : Nat, j < 12 → hadSum hs ((j : Int) + 1) ≤ 1000) := fun j hj => hsum.out j (by omega)
          clear hsum
          go_wp2_with fail
          clear d12
          go_loopw [11] (fun e wr => ∃ n : Nat, n ≤ 12 ∧ e = .int .i64 ((n : Int) + 1) ∧ Hid (∀ j : Nat, j < n → ¬ cyc hs ((j : Int) + 1)) ∧ Hid (Below w.heap.size w wr)) (fun e _ => 13 - (intOf e).toNat)
          case atStart => exact ⟨0, Nat.zero_le _, rfl, fun j hj => absurd hj (by omega), hbel⟩
          case round =>
            clear hbel
            obtain ⟨n, hn, rfl, hcy, hbel⟩ := hrel
            by_cases hn12 : n < 12
            · have d12 : decide ((n : Int) + 1 ≤ 12) = true := decide_eq_true (by omega)
              have S0 := Lib.hid (seen_start hbel.out ((n : Int) + 1))
              have I0 := Lib.hid (SeenIs.start (hs := hs) (e := (n : Int) + 1) (by omega) (by omega))
              go_wp2_with fail
              clear d12
              go_loopw [12, 13] (fun v k wr => ∃ (seen : List Int) (j : Nat), k = .int .i64 (j : Int) ∧ j ≤ seen.length ∧ seen.length ≤ 12 ∧ Hid (SeenIs hs ((n : Int) + 1) seen j 0) ∧ Hid (RowSt w [] 3 1 v seen.length (seen.map (Value.int .i64)) wr)) (fun _ k _ => 13 - (intOf k).toNat)
              case atStart => exact ⟨[(n : Int) + 1], 0, rfl, by simp, by simp, I0, S0⟩
              case round =>
                clear I0 S0 hbel
                obtain ⟨seen, j, rfl, hj, hs12, hI, hS⟩ := hrel
                by_cases hjl : j < seen.length
                · obtain ⟨g, c, rfl, hg, hc, hcell⟩ := seen_at hS.out (by omega)
                  have hjI : (j : Int) < (seen.length : Int) := by omega
                  clear hcell hg hc
                  go_wp2_with fail
                  clear hjI
                  go_loopw [12, 14] (fun v i wr => ∃ (sn : List Int) (m : Nat), i = .int .i64 (m : Int) ∧ m ≤ hs.length ∧ j < sn.length ∧ sn.length ≤ 12 ∧ Hid (SeenIs hs ((n : Int) + 1) sn j m) ∧ Hid (RowSt w [] 3 1 v sn.length (sn.map (Value.int .i64)) wr)) (fun _ i _ => hs.length - (intOf i).toNat)
                  case atStart => exact ⟨seen, 0, rfl, Nat.zero_le _, hjl, hs12, hI, hS⟩
                  case round =>
                    clear hI hS hjl hs12 hj
                    obtain ⟨sn, m, rfl, hm, hjl, hs12, hI, hS⟩ := hrel
                    obtain ⟨g, c, rfl, hg, hc, hcell⟩ := seen_at hS.out (by omega)
                    by_cases hml : m < hs.length
                    · obtain ⟨y, hy⟩ := getElem?_ex hml
                      obtain ⟨b, off, rfl, hb, hcc⟩ := HH.out.resolve_left (fun e => by rw [e] at hml; simp at hml)
                      obtain ⟨c0, c1, c2⟩ := hcc m y hy
                      have hbl : Below w.heap.size w wr := hS.out.fr.below
                      have HW1 := Lib.hid c1
                      replace c0 := (hbl.cell (p := ⟨b, _, none⟩) hb).trans c0
                      replace c1 := (hbl.cell (p := ⟨b, _, none⟩) hb).trans c1
                      have hyo := (HE.out y (List.mem_of_getElem? hy)).2
                      have cj := hcell j hjl
                      have hx : sn[j]? = some (sn.getD j 0) := by simp [hjl]
                      have HX := Lib.hid hx
                      have HY := Lib.hid hy
                      have HCELL := Lib.hid hcell
                      have hjI : (j : Int) < (sn.length : Int) := by omega
                      have hj0 : (0 : Int) ≤ (j : Int) := by omega
                      have hmI : (m : Int) < (hs.length : Int) := by omega
                      have hm0 : (0 : Int) ≤ (m : Int) := by omega
                      have HSn : ∀ nq, Hid (RowSt w [] 3 1 (.slice (some ⟨g, 0, none⟩) sn.length c) sn.length (sn.map (Value.int .i64)) (wr.drewN nq)) := fun nq => hS.out.later (below_drewN (Below.refl _ _) nq)
                      clear c2 hbl hcc hcell hx hy hS
                      generalize sn.getD j 0 = s at *
                      by_cases he : y.e = s
                      · have q1 : (y.e == s) = true := beq_iff_eq.2 he
                        have q1n : (y.e != s) = false := by rw [bne, q1]; rfl
                        have HEQ := Lib.hid he
                        by_cases ho : y.o = (n : Int) + 1
                        · have q2 : (y.o == (n : Int) + 1) = true := beq_iff_eq.2 ho
                          have hr5 := check_cyc (hs := hs) HL.out H0.out HSUM.out (e := (n : Int) + 1) (by omega) (by omega) (hI.out.found HX.out HY.out he ho)
                          have hrr := hr.out
                          rw [hr5] at hrr
                          subst hrr
                          clear hr he ho hr5 hI
                          go_wp2_with fail
                          go_quiet (fail)
                          go_wp2_with fail
                          go_ret
                          exact ⟨rfl, (HSn _).out.fr.below⟩
                        · have q2 : (y.o == (n : Int) + 1) = false := beq_eq_false_iff_ne.2 ho
                          have HO := Lib.hid ho
                          clear he ho
                          go_wp2_with fail
                          go_quiet (fail)
                          have S1 := HSn nq
                          go_wp2_with fail
                          clear q1 q1n q2 cj c0 c1 HSn
                          go_loopw [15, 16] (fun z i wr2 => ∃ l : Nat, l ≤ sn.length ∧ i = .int .i64 (l : Int) ∧ z = .bool (memB (sn.take l) y.o) ∧ Hid (RowSt w [] 3 1 (.slice (some ⟨g, 0, none⟩) sn.length c) sn.length (sn.map (Value.int .i64)) wr2)) (fun _ i _ => sn.length - (intOf i).toNat)
                          case atStart => exact ⟨0, Nat.zero_le _, rfl, rfl, S1⟩
                          case round =>
                            clear S1 HCELL hg
                            obtain ⟨l, hl, rfl, rfl, hS2⟩ := hrel
                            by_cases hll : l < sn.length
                            · obtain ⟨g', c', hv, _, _, hcell⟩ := seen_at hS2.out (by omega)
                              injection hv with hv1 _ hv2
                              injection hv1 with hv1
                              injection hv1 with hv1 _ _
                              subst hv1 hv2
                              have cl := hcell l hll
                              have c1 : wr.cell? ⟨b, off + m * 3 + 1, none⟩ = some (.int .i64 y.o) := (hS2.out.fr.old hb _).trans HW1.out
                              have hlI : (l : Int) < (sn.length : Int) := by omega
                              have hl0 : (0 : Int) ≤ (l : Int) := by omega
                              have HSn : ∀ nq, Hid (RowSt w [] 3 1 (.slice (some ⟨g, 0, none⟩) sn.length c) sn.length (sn.map (Value.int .i64)) (wr.drewN nq)) := fun nq => hS2.out.later (below_drewN (Below.refl _ _) nq)
                              have HMB := Lib.hid (memB_take_succ hll y.o)
                              clear hcell hS2
                              generalize sn.getD l 0 = sl at *
                              cases hmb : memB (sn.take l) y.o with
                              | true =>
                                have HN : Hid (memB (sn.take (l + 1)) y.o = true) := by show _ = _; rw [HMB.out, hmb]; rfl
                                clear hmb HMB
                                go_wp2_with fail
                                go_quiet (fail)
                                go_wp2_with fail
                                go_roundw
                                case rel => exact ⟨l + 1, by omega, by go_num, by rw [HN.out], HSn _⟩
                                case measure => simp [intOf]; omega
                              | false =>
                                by_cases hso : sl = y.o
                                · have q1 : (sl == y.o) = true := beq_iff_eq.2 hso
                                  have HN : Hid (memB (sn.take (l + 1)) y.o = true) := by show _ = _; rw [HMB.out, q1]; simp
                                  clear hmb HMB hso
                                  go_wp2_with fail
                                  go_quiet (fail)
                                  go_wp2_with fail
                                  go_roundw
                                  case rel => exact ⟨l + 1, by omega, by go_num, by rw [HN.out], HSn _⟩
                                  case measure => simp [intOf]; omega
                                · have q1 : (sl == y.o) = false := beq_eq_false_iff_ne.2 hso
                                  have HN : Hid (memB (sn.take (l + 1)) y.o = false) := by show _ = _; rw [HMB.out, hmb, q1]; rfl
                                  clear hmb HMB hso
                                  go_wp2_with fail
                                  go_quiet (fail)
                                  go_wp2_with fail
                                  go_roundw
                                  case rel => exact ⟨l + 1, by omega, by go_num, by rw [HN.out], HSn _⟩
                                  case measure => simp [intOf]; omega
                            · have hlI : decide ((l : Int) < (sn.length : Int)) = false := decide_eq_false (by omega)
                              have hln : decide (l < sn.length) = false := decide_eq_false (by omega)
                              have htk : sn.take l = sn := List.take_of_length_le (by omega)
                              rw [htk]
                              clear htk
                              cases hmb : memB sn y.o with
                              | true =>
                                have HN := Lib.hid (hI.out.old HX.out HY.out HO.out (memB_iff.1 hmb))
                                clear hmb hI
                                go_wp2_with fail
                                go_roundw
                                case rel => exact ⟨sn, m + 1, by go_num, by omega, hjl, hs12, HN, hS2⟩
                                case measure => simp [intOf]; omega
                              | false =>
                                have HN := Lib.hid (hI.out.new HX.out HY.out HEQ.out HO.out (memB_not hmb) hyo)
                                have hN12 := HN.out.len
                                have c1 : wr.cell? ⟨b, off + m * 3 + 1, none⟩ = some (.int .i64 y.o) := (hS2.out.fr.old hb _).trans HW1.out
                                obtain ⟨i0, hi0, hz0, hz1, hz2⟩ := info_parts infoInt
                                have HI0 := Lib.hid hi0
                                have HZ0 := Lib.hid hz0
                                have HZ1 := Lib.hid hz1
                                have HZ2 := Lib.hid hz2
                                have hsz : w.heap.size ≤ wr.heap.size + 1 := by have := hS2.out.fr.below.size; omega
                                clear hmb hI hi0 hz0 hz1 hz2
                                go_wp2_with (refine wpList_append_own_at (o := ⟨some 169, _, _, _, _, _⟩) _ rfl (.tmp 162) (.tmp 168) 28 rfl w.heap.size 3 i0 (.int .i64 0) 1 8 Tryd.underlying28 HI0.out HZ0.out HZ1.out HZ2.out rfl (by decide) (.slice (some ⟨g, 0, none⟩) sn.length c) sn.length (sn.map (Value.int .i64)) rfl (hS2.out.row.alloc _) ⟨wr.heap.size, 0, none⟩ 1 1 [.int .i64 y.o] rfl rfl ?c1 (by intro u hu; simp at hu; subst hu; rfl) (by unfold maxLen; omega) (by omega) (by simpa using hsz) ?_)
                                case c1 =>
                                  intro j u hj
                                  match j, hj with
                                  | 0, hj =>
                                    simp only [List.getElem?_cons_zero, Option.some.injEq] at hj
                                    subst hj
                                    rw [addr_add, World.cell?_alloc_at _ _ _ _ rfl]
                                    simp
                                intro v1 w1 hown1 hgrow1 _ hblk1
                                have HS3 : Hid (RowSt w [] 3 1 v1 (sn ++ [y.o]).length ((sn ++ [y.o]).map (Value.int .i64)) w1) :=
                                  hS2.out.moved (ownsRow_cast hown1 (by simp) (by simp)) (Moved.append hgrow1 hblk1)
                                clear hown1 hgrow1 hblk1 hS2 c1 hsz
                                go_wp2_with fail
                                go_roundw
                                case rel => exact ⟨sn ++ [y.o], m + 1, by go_num, by omega, by rw [List.length_append]; omega, hN12, HN, HS3⟩
                                case measure => simp [intOf]; omega
                      · have q1 : (y.e == s) = false := beq_eq_false_iff_ne.2 he
                        have q1n : (y.e != s) = true := by rw [bne, q1]; rfl
                        have HN := Lib.hid (hI.out.skip HX.out HY.out he)
                        clear he hI
                        go_wp2_with fail
                        go_quiet (fail)
                        go_wp2_with fail
                        go_roundw
                        case rel => exact ⟨sn, m + 1, by go_num, by omega, hjl, hs12, HN, HSn _⟩
                        case measure => simp [intOf]; omega
                    · have hmI : decide ((m : Int) < (hs.length : Int)) = false := decide_eq_false (by omega)
                      have hmn : decide (m < hs.length) = false := decide_eq_false (by omega)
                      have hml2 : m = hs.length := by omega
                      have HN : Hid (SeenIs hs ((n : Int) + 1) sn (j + 1) 0) := by have h := hI.out; rw [hml2] at h; exact h.next
                      clear hml2 hI hcell
                      go_wp2_with fail
                      go_roundw
                      case rel => exact ⟨sn, j + 1, by go_num, by omega, hs12, HN, hS⟩
                      case measure => simp [intOf]; omega
                · have hjI : decide ((j : Int) < (seen.length : Int)) = false := decide_eq_false (by omega)
                  have hjn : decide (j < seen.length) = false := decide_eq_false (by omega)
                  obtain ⟨ao1, n1, c1, rfl⟩ := ownsRow_form hS.out.row
                  have hn1 : n1 = seen.length := by
                    rcases hS.out.row.2 with ⟨h, h0⟩ | ⟨g, cap, cur, h, _⟩
                    · injection h with _ h _; omega
                    · injection h with _ h _
                  subst hn1
                  have HCY : Hid (∀ i : Nat, i < n + 1 → ¬ cyc hs ((i : Int) + 1)) := fun i hi => by
                    by_cases hin : i = n
                    · subst hin; exact hI.out.end_ (by omega)
                    · exact hcy.out i (by omega)
                  have HB := Lib.hid hS.out.fr.below
                  clear hI hS hcy
                  go_wp2_with fail
                  go_roundw
                  case rel => exact ⟨n + 1, by omega, by go_num, HCY, HB⟩
                  case measure => simp [intOf]; omega
            · obtain rfl : n = 12 := by omega
              have d12 : decide (((12 : Nat) : Int) + 1 ≤ 12) = false := rfl
              have hr0 := check_fine (hs := hs) HL.out H0.out HSUM.out hcy.out
              have hrr := hr.out
              rw [hr0] at hrr
              subst hrr
              clear hr hr0 hcy
              go_wp2_with fail
              go_ret
              exact ⟨rfl, hbel.out⟩
end Go.Proofs.YtbhndnjlplibmaaDoor.gp
