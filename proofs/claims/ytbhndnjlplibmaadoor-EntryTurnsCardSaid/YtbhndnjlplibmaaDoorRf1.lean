/- dayref1.Period, Amount, Ref: the reference's own. -/
import Derived.Test.YtbhndnjlplibmaaDoorIt3
namespace Go.Proofs.YtbhndnjlplibmaaDoor.mt
open Go.RowKit

theorem rper_any (n : Int) (w : World) : Calls Tryd.prog 52 #[.int .i64 n] w fun e w' => e = .returned (.bool (perB n)) ∧ w = w' := by
  by_cases h1 : 1 ≤ n
  · by_cases h2 : n ≤ 120
    · have hb : Hid (perB n = true) := by show _ = _; simp [perB, h1, h2]
      go_enter Tryd.func52, Tryd.ntmps52
      go_wp2
      go_ret
      exact ⟨ret_bool hb.out.symm, rfl⟩
    · have hb : Hid (perB n = false) := by show _ = _; simp [perB, h2]
      go_enter Tryd.func52, Tryd.ntmps52
      go_wp2
      go_ret
      exact ⟨ret_bool hb.out.symm, rfl⟩
  · have hb : Hid (perB n = false) := by show _ = _; simp [perB, h1]
    go_enter Tryd.func52, Tryd.ntmps52
    go_wp2
    go_ret
    exact ⟨ret_bool hb.out.symm, rfl⟩
theorem ramt_any (n : Int) (w : World) : Calls Tryd.prog 53 #[.int .i64 n] w fun e w' => e = .returned (.bool (amtB n)) ∧ w = w' := by
  by_cases h1 : -1000000000000000 ≤ n
  · by_cases h2 : n ≤ 1000000000000000
    · have hb : Hid (amtB n = true) := by show _ = _; simp [amtB, h1, h2]
      go_enter Tryd.func53, Tryd.ntmps53
      go_wp2
      go_ret
      exact ⟨ret_bool hb.out.symm, rfl⟩
    · have hb : Hid (amtB n = false) := by show _ = _; simp [amtB, h2]
      go_enter Tryd.func53, Tryd.ntmps53
      go_wp2
      go_ret
      exact ⟨ret_bool hb.out.symm, rfl⟩
  · have hb : Hid (amtB n = false) := by show _ = _; simp [amtB, h1]
    go_enter Tryd.func53, Tryd.ntmps53
    go_wp2
    go_ret
    exact ⟨ret_bool hb.out.symm, rfl⟩

/-- a byte in the tests' terms: whether it may stand, and the five tests -/
theorem byte_kinds (c : UInt8) : (refC c = true ∧ ((c.toNat : Int) != 45) = false) ∨ (refC c = true ∧ ((c.toNat : Int) != 45) = true ∧ decide ((c.toNat : Int) < 48) = false ∧ decide ((57 : Int) < (c.toNat : Int)) = false) ∨
    (refC c = true ∧ ((c.toNat : Int) != 45) = true ∧ decide ((c.toNat : Int) < 48) = false ∧ decide ((57 : Int) < (c.toNat : Int)) = true ∧ decide ((c.toNat : Int) < 97) = false ∧ decide ((122 : Int) < (c.toNat : Int)) = false) ∨
    (refC c = false ∧ ((c.toNat : Int) != 45) = true ∧ decide ((c.toNat : Int) < 48) = true ∧ decide ((c.toNat : Int) < 97) = true) ∨
    (refC c = false ∧ ((c.toNat : Int) != 45) = true ∧ decide ((c.toNat : Int) < 48) = false ∧ decide ((57 : Int) < (c.toNat : Int)) = true ∧ decide ((c.toNat : Int) < 97) = true) ∨
    (refC c = false ∧ ((c.toNat : Int) != 45) = true ∧ decide ((c.toNat : Int) < 48) = false ∧ decide ((57 : Int) < (c.toNat : Int)) = true ∧ decide ((c.toNat : Int) < 97) = false ∧ decide ((122 : Int) < (c.toNat : Int)) = true) := by
  have e45 : c = 45 ↔ c.toNat = 45 := ⟨fun h => by rw [h]; rfl, fun h => UInt8.toNat_inj.1 h⟩
  have hc : refC c = true ↔ (c.toNat = 45 ∨ (48 ≤ c.toNat ∧ c.toNat ≤ 57)) ∨ (97 ≤ c.toNat ∧ c.toNat ≤ 122) := by
    unfold refC
    simp only [Bool.or_eq_true, Bool.and_eq_true, decide_eq_true_eq, beq_iff_eq, e45, UInt8.le_iff_toNat_le]
    exact Iff.rfl
  have hn : refC c = false ↔ ¬ ((c.toNat = 45 ∨ (48 ≤ c.toNat ∧ c.toNat ≤ 57)) ∨ (97 ≤ c.toNat ∧ c.toNat ≤ 122)) := by rw [← hc]; simp
  rw [hc, hn]
  simp only [bne_iff_ne, bne_eq_false_iff_eq, decide_eq_true_eq, decide_eq_false_iff_not]
  omega
theorem refB_iff {s : ByteArray} {c : UInt8} {r : List UInt8} (h : s.data.toList = c :: r) : refB s = (decide ((c :: r).length ≤ 12) && !(c == 45) && (c :: r).all refC) := by unfold refB; rw [h]; rfl
theorem all_take_succ (p : UInt8 → Bool) (l : List UInt8) {k : Nat} (h : k < l.length) (h1 : (l.take k).all p = true) (h2 : p l[k] = true) : (l.take (k + 1)).all p = true := by
  rw [List.take_succ_eq_append_getElem h, List.all_append, h1]; simp [h2]

set_option maxHeartbeats 1000000 in
theorem rref_any (s : ByteArray) (w : World) : Calls Tryd.prog 35 #[.string s] w fun e w' => e = .returned (.bool (refB s)) ∧ w = w' := by
  have hsz := Lib.size_eq s
  have htl := Lib.toList_data s
  cases hl : s.data.toList with
  | nil =>
    have hb := Lib.hid (ref_none hl)
    have he : s.toList.isEmpty = true := by rw [htl, hl]; rfl
    have he2 : s.toList = [] := by rw [htl, hl]
    clear hl htl hsz
    generalize refB s = R at *
    go_enter Tryd.func35, Tryd.ntmps35
    go_wp2_with fail
    go_ret
    exact ⟨ret_bool hb.out.symm, rfl⟩
  | cons c r =>
    have he : s.toList.isEmpty = false := by rw [htl, hl]; rfl
    have h0 : 0 < s.size := by rw [hsz, hl]; simp
    by_cases hlen : s.size ≤ 12
    · have hd : decide ((12 : Int) < (s.size : Int)) = false := decide_eq_false (by omega)
      have hx : (s[0]'h0) = c := by
        have e : s.data.toList[0]? = some c := by rw [hl]; rfl
        have e2 : s.data[0]? = some c := by simpa using e
        obtain ⟨_, e3⟩ := Array.getElem?_eq_some_iff.1 e2
        exact e3
      by_cases hc : c = 45
      · have hb := Lib.hid (ref_dash (s := s) (r := r) (by rw [hl, hc]))
        have hq : (((s[0]'h0).toNat : Int) == 45) = true := by rw [hx, hc]; rfl
        clear hx hc htl hsz hl
        generalize refB s = R at *
        go_enter Tryd.func35, Tryd.ntmps35
        go_wp2_with fail
        go_ret
        exact ⟨ret_bool hb.out.symm, rfl⟩
      · have hq : (((s[0]'h0).toNat : Int) == 45) = false := by
          rw [hx, beq_eq_false_iff_ne]
          intro e
          exact hc (UInt8.toNat_inj.1 (by show c.toNat = 45; omega))
        have hR : Hid (refB s = s.data.toList.all refC) := by
          show _ = _
          rw [refB_iff hl, hl]
          have h1 : (c :: r).length ≤ 12 := by rw [← hl, ← hsz]; exact hlen
          rw [decide_eq_true h1, beq_eq_false_iff_ne.2 hc, Bool.not_false, Bool.true_and, Bool.true_and]
        have HSZ := Lib.hid hsz
        clear hx hc htl hsz hl
        go_enter Tryd.func35, Tryd.ntmps35
        go_wp2_with fail
        clear hq hd he
        go_loop [3] (fun i => ∃ k : Nat, k ≤ s.size ∧ i = .int .i64 (k : Int) ∧ Hid ((s.data.toList.take k).all refC = true)) (fun i => s.size - (intOf i).toNat)
        case atStart => exact ⟨0, Nat.zero_le _, rfl, rfl⟩
        case round =>
          obtain ⟨k, hk, rfl, hi⟩ := hrel
          by_cases hlt : k < s.size
          · have hkI : (k : Int) < (s.size : Int) := by omega
            have hk0 : (0 : Int) ≤ (k : Int) := by omega
            have hgx : s.data.toList[k]'(by rw [← HSZ.out]; exact hlt) = s[k]'hlt := by simp; rfl
            have hall : Hid (refC (s[k]'hlt) = true → (s.data.toList.take (k + 1)).all refC = true) := fun h =>
              all_take_succ refC s.data.toList (by rw [← HSZ.out]; exact hlt) hi.out (by rw [hgx]; exact h)
            have hbad : Hid (refC (s[k]'hlt) = false → refB s = false) := fun h => by
              rw [hR.out, List.all_eq_false]
              exact ⟨s[k]'hlt, by rw [← hgx]; exact List.getElem_mem _, by rw [h]; simp⟩
            have hk6 := byte_kinds (s[k]'hlt)
            clear hgx hi hR
            rcases hk6 with ⟨g, q1⟩ | ⟨g, q1, q2, q3⟩ | ⟨g, q1, q2, q3, q4, q5⟩ | ⟨g, q1, q2, q4⟩ | ⟨g, q1, q2, q3, q4⟩ | ⟨g, q1, q2, q3, q4, q5⟩
            iterate 3
              have HN := Lib.hid (hall.out g)
              clear hall hbad g
              go_wp2_with fail
              go_round
              case rel => exact ⟨k + 1, by omega, by go_num, HN⟩
              case measure => simp [intOf]; omega
            all_goals
              have HN := Lib.hid (hbad.out g)
              clear hall hbad g
              go_wp2_with fail
              go_ret
              exact ⟨ret_bool HN.out.symm, rfl⟩
          · obtain rfl : k = s.size := by omega
            have HN : Hid (refB s = true) := by
              show _ = _
              rw [hR.out]
              have := hi.out
              rw [List.take_of_length_le (by rw [← HSZ.out]; exact Nat.le_refl _)] at this
              exact this
            clear hi hR hlt
            go_wp2_with fail
            go_ret
            exact ⟨ret_bool HN.out.symm, rfl⟩
    · have hd : decide ((12 : Int) < (s.size : Int)) = true := decide_eq_true (by omega)
      have hb := Lib.hid (ref_long (s := s) (by omega))
      clear hl htl hsz
      generalize refB s = R at *
      go_enter Tryd.func35, Tryd.ntmps35
      go_wp2_with fail
      go_ret
      exact ⟨ret_bool hb.out.symm, rfl⟩
end Go.Proofs.YtbhndnjlplibmaaDoor.mt
