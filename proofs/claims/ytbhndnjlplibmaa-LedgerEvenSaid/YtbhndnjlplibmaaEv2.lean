/- Accounts in memory; dayref1's chart: its functions answer something. -/
import Derived.Test.YtbhndnjlplibmaaOrd
import Derived.WalkLawsBesides
import Derived.Laws.Cover1
import Derived.BigQuiet
import Derived.Deep.QuietTactic
import Derived.WalkSpells
namespace Go.Proofs.Ytbhndnjlplibmaa.lg
open Go.RowKit

structure AccM where
  code : ByteArray
  name : ByteArray
  kind : Int
  parent : ByteArray
  money : Bool
def AccsAt (w : World) (ao : Option Addr) (t : List AccM) : Prop :=
  t = [] ∨ ∃ b off, ao = some ⟨b, off, none⟩ ∧ b < w.heap.size ∧ ∀ (i : Nat) (x : AccM), t[i]? = some x →
    w.cell? ⟨b, off + i * 5, none⟩ = some (.string x.code) ∧ w.cell? ⟨b, off + i * 5 + 1, none⟩ = some (.string x.name) ∧ w.cell? ⟨b, off + i * 5 + 2, none⟩ = some (.int .i64 x.kind) ∧ w.cell? ⟨b, off + i * 5 + 3, none⟩ = some (.string x.parent) ∧ w.cell? ⟨b, off + i * 5 + 4, none⟩ = some (.bool x.money)
theorem AccsAt.below {w w' : World} {ao : Option Addr} {t : List AccM} (h : AccsAt w ao t) (hb : Below w.heap.size w w') : AccsAt w' ao t := by
  rcases h with h | ⟨b, off, e, hlt, hc⟩
  · exact Or.inl h
  · refine Or.inr ⟨b, off, e, Nat.lt_of_lt_of_le hlt hb.size, fun i y hy => ?_⟩
    obtain ⟨h1, h2, h3, h4, h5⟩ := hc i y hy
    exact ⟨(hb.cell (p := ⟨b, off + i * 5, none⟩) hlt).trans h1, (hb.cell (p := ⟨b, off + i * 5 + 1, none⟩) hlt).trans h2, (hb.cell (p := ⟨b, off + i * 5 + 2, none⟩) hlt).trans h3, (hb.cell (p := ⟨b, off + i * 5 + 3, none⟩) hlt).trans h4, (hb.cell (p := ⟨b, off + i * 5 + 4, none⟩) hlt).trans h5⟩
/-- some bool, in the same memory -/
def SomeBool (w : World) (e : Ending) (w' : World) : Prop := ∃ b, e = .returned (.bool b) ∧ w = w'
/-- some number -/
def SomeInt (p : Int → Prop) (w : World) (e : Ending) (w' : World) : Prop := ∃ n, p n ∧ e = .returned (.int .i64 n) ∧ Below w.heap.size w w'
def SameInt (p : Int → Prop) (w : World) (e : Ending) (w' : World) : Prop := ∃ n, p n ∧ e = .returned (.int .i64 n) ∧ w = w'
theorem fits_str {s : ByteArray} {n : Int} : s.size ≤ maxLen → True := fun _ => trivial
set_option maxHeartbeats 1000000 in
theorem digits_any (s : ByteArray) (m : Int) (w : World) (hs : s.size ≤ 9223372036854775807) : Calls Try.prog 84 #[.string s, .int .i64 m] w (SomeBool w) := by
  by_cases he : s.toList = []
  · have he2 : s.toList.isEmpty = true := by rw [he]; rfl
    go_enter Try.func84, Try.ntmps84
    go_wp2_with fail
    go_ret
    exact ⟨_, rfl, rfl⟩
  · have he2 : s.toList.isEmpty = false := by cases hl : s.toList with | nil => exact absurd hl he | cons _ _ => rfl
    clear he
    by_cases hm : m < (s.size : Int)
    · have hd : decide (m < (s.size : Int)) = true := decide_eq_true hm
      go_enter Try.func84, Try.ntmps84
      go_wp2_with fail
      go_ret
      exact ⟨_, rfl, rfl⟩
    · have hd : decide (m < (s.size : Int)) = false := decide_eq_false hm
      go_enter Try.func84, Try.ntmps84
      go_wp2_with fail
      clear hd hm he2
      go_loop [5] (fun i => ∃ k : Nat, k ≤ s.size ∧ i = .int .i64 (k : Int)) (fun i => s.size - (intOf i).toNat)
      case atStart => exact ⟨0, Nat.zero_le _, rfl⟩
      case round =>
        obtain ⟨k, hk, rfl⟩ := hrel
        have hk0 : (0 : Int) ≤ (k : Int) := by omega
        by_cases hlt : k < s.size
        · have hkI : (k : Int) < (s.size : Int) := by omega
          by_cases h1 : ((s[k]'hlt).toNat : Int) < 48
          · have q1 : decide (((s[k]'hlt).toNat : Int) < 48) = true := decide_eq_true h1
            go_wp2_with fail
            go_ret
            exact ⟨_, rfl, rfl⟩
          · have q1 : decide (((s[k]'hlt).toNat : Int) < 48) = false := decide_eq_false h1
            by_cases h2 : (57 : Int) < ((s[k]'hlt).toNat : Int)
            · have q2 : decide ((57 : Int) < ((s[k]'hlt).toNat : Int)) = true := decide_eq_true h2
              go_wp2_with fail
              go_ret
              exact ⟨_, rfl, rfl⟩
            · have q2 : decide ((57 : Int) < ((s[k]'hlt).toNat : Int)) = false := decide_eq_false h2
              go_wp2_with fail
              go_round
              case rel => exact ⟨k + 1, by omega, by go_num⟩
              case measure => simp [intOf]; omega
        · obtain rfl : k = s.size := by omega
          go_wp2_with fail
          go_ret
          exact ⟨_, rfl, rfl⟩
set_option maxHeartbeats 1000000 in
theorem at_any (ao : Option Addr) (ca : Nat) (t : List AccM) (s : ByteArray) (w : World) (ha : AccsAt w ao t) (hm : t.length ≤ 9223372036854775807) : Calls Try.prog 65 #[.slice ao t.length ca, .string s] w (SameInt (fun n => -1 ≤ n ∧ n < t.length) w) := by
  have HA := Lib.hid ha
  clear ha
  go_enter Try.func65, Try.ntmps65
  go_wp2_with fail
  go_loop [5] (fun i => ∃ k : Nat, k ≤ t.length ∧ i = .int .i64 (k : Int)) (fun i => t.length - (intOf i).toNat)
  case atStart => exact ⟨0, Nat.zero_le _, rfl⟩
  case round =>
    obtain ⟨k, hk, rfl⟩ := hrel
    have hk0 : (0 : Int) ≤ (k : Int) := by omega
    by_cases hlt : k < t.length
    · have hkI : (k : Int) < (t.length : Int) := by omega
      obtain ⟨x, hx⟩ := getElem?_ex hlt
      obtain ⟨b, off, rfl, hb, hcc⟩ := HA.out.resolve_left (fun e => by rw [e] at hlt; simp at hlt)
      obtain ⟨x0, _, _, _, _⟩ := hcc k x hx
      clear hcc hx
      have HZ : Hid ((-1 : Int) ≤ (k : Int) ∧ (k : Int) < (t.length : Int)) := ⟨by omega, by omega⟩
      cases hc : (x.code.toList == s.toList) with
      | true =>
        go_wp2_with fail
        go_ret
        exact ⟨_, HZ.out, rfl, rfl⟩
      | false =>
        go_wp2_with fail
        go_round
        case rel => exact ⟨k + 1, by omega, by go_num⟩
        case measure => simp [intOf]; omega
    · obtain rfl : k = t.length := by omega
      have HZ : Hid ((-1 : Int) ≤ -1 ∧ (-1 : Int) < (t.length : Int)) := ⟨by omega, by omega⟩
      go_wp2_with fail
      go_ret
      exact ⟨_, HZ.out, rfl, rfl⟩
def inEnt (n : Int) : Bool := decide (1 ≤ n) && decide (n ≤ 12)
def inPer (n : Int) : Bool := decide (1 ≤ n) && decide (n ≤ 120)
theorem inEnt_iff {n : Int} : inEnt n = true ↔ 1 ≤ n ∧ n ≤ 12 := by simp [inEnt]
theorem inPer_iff {n : Int} : inPer n = true ↔ 1 ≤ n ∧ n ≤ 120 := by simp [inPer]
theorem rentity_any (n : Int) (w : World) : Calls Try.prog 37 #[.int .i64 n] w fun e w' => e = .returned (.bool (inEnt n)) ∧ w = w' := by
  by_cases h1 : 1 ≤ n
  · by_cases h2 : n ≤ 12
    · have hb : Hid (inEnt n = true) := by show _ = _; simp [inEnt, h1, h2]
      go_enter Try.func37, Try.ntmps37
      go_wp2
      go_ret
      exact ⟨ret_bool hb.out.symm, rfl⟩
    · have hb : Hid (inEnt n = false) := by show _ = _; simp [inEnt, h2]
      go_enter Try.func37, Try.ntmps37
      go_wp2
      go_ret
      exact ⟨ret_bool hb.out.symm, rfl⟩
  · have hb : Hid (inEnt n = false) := by show _ = _; simp [inEnt, h1]
    go_enter Try.func37, Try.ntmps37
    go_wp2
    go_ret
    exact ⟨ret_bool hb.out.symm, rfl⟩
theorem rperiod_any (n : Int) (w : World) : Calls Try.prog 38 #[.int .i64 n] w fun e w' => e = .returned (.bool (inPer n)) ∧ w = w' := by
  by_cases h1 : 1 ≤ n
  · by_cases h2 : n ≤ 120
    · have hb : Hid (inPer n = true) := by show _ = _; simp [inPer, h1, h2]
      go_enter Try.func38, Try.ntmps38
      go_wp2
      go_ret
      exact ⟨ret_bool hb.out.symm, rfl⟩
    · have hb : Hid (inPer n = false) := by show _ = _; simp [inPer, h2]
      go_enter Try.func38, Try.ntmps38
      go_wp2
      go_ret
      exact ⟨ret_bool hb.out.symm, rfl⟩
  · have hb : Hid (inPer n = false) := by show _ = _; simp [inPer, h1]
    go_enter Try.func38, Try.ntmps38
    go_wp2
    go_ret
    exact ⟨ret_bool hb.out.symm, rfl⟩
set_option maxHeartbeats 1000000 in
theorem rcur_any (s : ByteArray) (w : World) : Calls Try.prog 40 #[.string s] w (SomeBool w) := by
  by_cases h3 : s.size = 3
  · have hd : ((s.size : Int) != 3) = false := by simp; omega
    go_enter Try.func40, Try.ntmps40
    go_wp2_with fail
    clear hd
    go_loop [3] (fun i => ∃ k : Nat, k ≤ 3 ∧ i = .int .i64 (k : Int)) (fun i => 3 - (intOf i).toNat)
    case atStart => exact ⟨0, Nat.zero_le _, rfl⟩
    case round =>
      obtain ⟨k, hk, rfl⟩ := hrel
      have hk0 : (0 : Int) ≤ (k : Int) := by omega
      by_cases hlt3 : k < 3
      · have hlt : k < s.size := by omega
        have hkI : (k : Int) < (s.size : Int) := by omega
        have hk3 : (k : Int) < 3 := by omega
        clear h3
        by_cases h1 : ((s[k]'hlt).toNat : Int) < 65
        · have q1 : decide (((s[k]'hlt).toNat : Int) < 65) = true := decide_eq_true h1
          go_wp2_with fail
          go_ret
          exact ⟨_, rfl, rfl⟩
        · have q1 : decide (((s[k]'hlt).toNat : Int) < 65) = false := decide_eq_false h1
          by_cases h2 : (90 : Int) < ((s[k]'hlt).toNat : Int)
          · have q2 : decide ((90 : Int) < ((s[k]'hlt).toNat : Int)) = true := decide_eq_true h2
            go_wp2_with fail
            go_ret
            exact ⟨_, rfl, rfl⟩
          · have q2 : decide ((90 : Int) < ((s[k]'hlt).toNat : Int)) = false := decide_eq_false h2
            go_wp2_with fail
            go_round
            case rel => exact ⟨k + 1, by omega, by go_num⟩
            case measure => simp [intOf]; omega
      · obtain rfl : k = 3 := by omega
        clear h3
        go_wp2_with fail
        go_ret
        exact ⟨_, rfl, rfl⟩
  · have hd : ((s.size : Int) != 3) = true := by simp; omega
    clear h3
    go_enter Try.func40, Try.ntmps40
    go_wp2_with fail
    go_ret
    exact ⟨_, rfl, rfl⟩
set_option maxHeartbeats 1000000 in
theorem leaf_any (ao : Option Addr) (ca : Nat) (t : List AccM) (s : ByteArray) (w : World) (ha : AccsAt w ao t) (hm : t.length ≤ 9223372036854775807) : Calls Try.prog 39 #[.slice ao t.length ca, .string s] w (SameInt (fun _ => True) w) := by
  have hat := at_any ao ca t s w ha hm
  have HA := Lib.hid ha
  clear ha
  go_enter Try.func39, Try.ntmps39
  go_wp2_with fail
  refine hat.mono ?_
  rintro e w' ⟨n, ⟨h1, h2⟩, rfl, rfl⟩
  clear hat
  by_cases hn : n < 0
  · have hd : decide (n < 0) = true := decide_eq_true hn
    go_wp2_with fail
    go_ret
    exact ⟨_, trivial, rfl, rfl⟩
  · have hd : decide (n < 0) = false := decide_eq_false hn
    go_wp2_with fail
    clear hd hn h1 h2
    go_loop [6] (fun i => ∃ k : Nat, k ≤ t.length ∧ i = .int .i64 (k : Int)) (fun i => t.length - (intOf i).toNat)
    case atStart => exact ⟨0, Nat.zero_le _, rfl⟩
    case round =>
      obtain ⟨k, hk, rfl⟩ := hrel
      have hk0 : (0 : Int) ≤ (k : Int) := by omega
      by_cases hlt : k < t.length
      · have hkI : (k : Int) < (t.length : Int) := by omega
        obtain ⟨x, hx⟩ := getElem?_ex hlt
        obtain ⟨b, off, rfl, hb, hcc⟩ := HA.out.resolve_left (fun e => by rw [e] at hlt; simp at hlt)
        obtain ⟨_, _, _, x3, _⟩ := hcc k x hx
        clear hcc hx
        cases hc : (x.parent.toList == s.toList) with
        | true =>
          go_wp2_with fail
          go_ret
          exact ⟨_, trivial, rfl, rfl⟩
        | false =>
          go_wp2_with fail
          go_round
          case rel => exact ⟨k + 1, by omega, by go_num⟩
          case measure => simp [intOf]; omega
      · obtain rfl : k = t.length := by omega
        go_wp2_with fail
        go_ret
        exact ⟨_, trivial, rfl, rfl⟩
end Go.Proofs.Ytbhndnjlplibmaa.lg
