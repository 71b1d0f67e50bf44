/- nat.norm, nat.make, low64. -/
import Derived.Test.YtbhndnjlplibmaaDoorBg3
import Derived.Deep.OwnRows
namespace Go.Proofs.YtbhndnjlplibmaaDoor.big
open Go.RowKit

/-- words as a block -/
def wordsA (L : List Nat) : Array Value := (L.map fun x : Nat => Value.int .u64 (x : Int)).toArray
def wObj (L : List Nat) : Obj := .cells (wordsA L) 207 (0, 0)
theorem wordsA_at (L : List Nat) {i : Nat} (h : i < L.length) : (wordsA L)[i]? = some (.int .u64 ((L.getD i 0 : Nat) : Int)) := by
  simp [wordsA, h]
theorem wordsA_set (L : List Nat) (i x : Nat) : (wordsA L).setIfInBounds i (.int .u64 (x : Int)) = wordsA (L.set i x) := by
  simp [wordsA, List.map_set]
theorem made_words (n : Nat) : madeCells #[Value.int .u64 0] n = wordsA (List.replicate n 0) := by
  apply Array.ext
  · simp [size_madeCells, wordsA]
  · intro i h1 h2
    simp [madeCells, wordsA, Nat.mod_one]
theorem infoWd : (Tryd.prog.info? 207).map (fun i => (i.zero, i.size, i.bytes)) = some (some (.int .u64 0), 1, 8) := by kernel_rfl
theorem make_words (n c : Nat) (hn : n ≤ c) (hc : c ≤ 4398046511104) (w : World) : (Instr.makeSlice 167 (.int .i64 (n : Int)) (.int .i64 (c : Int))).run Tryd.prog w = .ok (.slice (some ⟨w.heap.size, 0, none⟩) n c) (w.alloc (wObj (List.replicate c 0))) := by
  obtain ⟨i, hi, hzz⟩ := Option.map_eq_some_iff.1 infoWd
  simp only [Prod.mk.injEq] at hzz
  obtain ⟨hz, hs, hb⟩ := hzz
  have h := run_make (P := Tryd.prog) w 167 207 i (.int .u64 0) Tryd.underlying167 hi hz .i64 .i64 (n : Int) (c : Int) (by omega) (by omega) (by rw [hb]; omega) (by omega)
  rw [hs] at h
  simp only [Int.toNat_natCast, Nat.mul_one] at h
  rw [h, show (Value.int IntKind.u64 0).cells = #[Value.int .u64 0] from rfl, made_words]
  rfl

/-- the length without the leading noughts -/
def tl (x : Nat → Nat) : Nat → Nat
  | 0 => 0
  | k + 1 => if x k = 0 then tl x k else k + 1
theorem tl_le (x : Nat → Nat) : ∀ k, tl x k ≤ k
  | 0 => Nat.le_refl _
  | k + 1 => by have := tl_le x k; rw [tl]; split <;> omega

theorem norm_any (b n cap : Nat) (x : Nat → Nat) (w : World) (hc : ∀ i, i < n → w.cell? ⟨b, i, none⟩ = some (.int .u64 ((x i : Nat) : Int))) (hn : n ≤ 6) (hcap : n ≤ cap) :
    Calls Tryd.prog 143 #[.slice (some ⟨b, 0, none⟩) n cap] w fun e w' => e = .returned (.slice (some ⟨b, 0, none⟩) (tl x n) cap) ∧ w' = w := by
  have HC := Lib.hid hc
  clear hc
  go_enter Tryd.func143, Tryd.ntmps143
  go_wp2_with fail
  go_loop [3] (fun i => ∃ k : Nat, k ≤ n ∧ i = .int .i64 (k : Int) ∧ Hid (tl x n = tl x k)) (fun i => (intOf i).toNat)
  case atStart => exact ⟨n, Nat.le_refl _, rfl, rfl⟩
  case round =>
    obtain ⟨k, hk, rfl, ht⟩ := hrel
    by_cases h0 : k = 0
    · subst h0
      have hE : Hid (tl x n = 0) := ht
      clear ht
      go_wp2_with fail
      go_ret
      exact ⟨by rw [hE.out]; rfl, rfl⟩
    · obtain ⟨m, hm⟩ : ∃ m, k = m + 1 := ⟨k - 1, by omega⟩
      have c0 := HC.out m (by omega)
      have d0 : decide ((0 : Int) < (k : Int)) = true := decide_eq_true (by omega)
      have d0n : decide (0 < k) = true := decide_eq_true (by omega)
      have hw1 : IntKind.i64.wrap ((k : Int) - 1) = (m : Int) := by rw [show (k : Int) - 1 = (m : Int) by omega]; exact IntWalk.i64_in _ (by omega)
      have hw2 : (k : Int) - 1 = (m : Int) := by omega
      have j0 : (0 : Int) ≤ (m : Int) := by omega
      have j1 : (m : Int) < (n : Int) := by omega
      have hk1 : 1 ≤ k := by omega
      have hst : tl x k = if x m = 0 then tl x m else k := by rw [hm]; rfl
      clear hm h0
      by_cases hz : x m = 0
      · have q : (((x m : Nat) : Int) == 0) = true := by rw [hz]; rfl
        have hn2 : Hid (tl x n = tl x m) := by show _ = _; rw [ht.out, hst, if_pos hz]
        clear ht hst hz
        generalize x m = xm at *
        go_wp2_with fail
        go_round
        case rel => exact ⟨m, by omega, by go_num, hn2⟩
        case measure => simp [intOf]; omega
      · have q : (((x m : Nat) : Int) == 0) = false := beq_eq_false_iff_ne.2 (by omega)
        have hn2 : Hid (tl x n = k) := by show _ = _; rw [ht.out, hst, if_neg hz]
        have hkc : (k : Int) ≤ (cap : Int) := by omega
        clear ht hst hz
        generalize x m = xm at *
        go_wp2_with fail
        go_ret
        exact ⟨by rw [hn2.out]; rfl, rfl⟩

theorem make_in (zo : Option Addr) (n cap k : Nat) (hk : k ≤ cap) (w : World) :
    Calls Tryd.prog 140 #[.slice zo n cap, .int .i64 (k : Int)] w fun e w' => e = .returned (.slice zo k cap) ∧ w' = w := by
  have hd : decide ((k : Int) ≤ (cap : Int)) = true := decide_eq_true (by omega)
  have h0 : (0 : Int) ≤ (k : Int) := by omega
  have h1 : (k : Int) ≤ (cap : Int) := by omega
  go_enter Tryd.func140, Tryd.ntmps140
  go_wp2_with fail
  go_ret
  exact ⟨rfl, rfl⟩
theorem make_one (zo : Option Addr) (n : Nat) (w : World) :
    Calls Tryd.prog 140 #[.slice zo n 0, .int .i64 1] w fun e w' => e = .returned (.slice (some ⟨w.heap.size, 0, none⟩) 1 1) ∧ w' = w.alloc (wObj [0]) := by
  have hmk : ∀ W : World, (Instr.makeSlice 167 (.int .i64 1) (.int .i64 1)).run Tryd.prog W = .ok (.slice (some ⟨W.heap.size, 0, none⟩) 1 1) (W.alloc (wObj [0])) := fun W => make_words 1 1 (by omega) (by omega) W
  go_enter Tryd.func140, Tryd.ntmps140
  go_wp2_with fail
  go_ret
  exact ⟨rfl, rfl⟩
theorem make_two (zo : Option Addr) (n : Nat) (w : World) :
    Calls Tryd.prog 140 #[.slice zo n 1, .int .i64 2] w fun e w' => e = .returned (.slice (some ⟨w.heap.size, 0, none⟩) 2 6) ∧ w' = w.alloc (wObj [0, 0, 0, 0, 0, 0]) := by
  have hmk : ∀ W : World, (Instr.makeSlice 167 (.int .i64 2) (.int .i64 6)).run Tryd.prog W = .ok (.slice (some ⟨W.heap.size, 0, none⟩) 2 6) (W.alloc (wObj [0, 0, 0, 0, 0, 0])) := fun W => make_words 2 6 (by omega) (by omega) W
  go_enter Tryd.func140, Tryd.ntmps140
  go_wp2_with fail
  go_ret
  exact ⟨rfl, rfl⟩
theorem low_none (w : World) : Calls Tryd.prog 148 #[.slice none 0 0] w fun e w' => e = .returned (.int .u64 0) ∧ w' = w := by
  go_enter Tryd.func148, Tryd.ntmps148
  go_wp2_with fail
  go_ret
  exact ⟨rfl, rfl⟩
theorem low_zero (ao : Option Addr) (cap : Nat) (w : World) : Calls Tryd.prog 148 #[.slice ao 0 cap] w fun e w' => e = .returned (.int .u64 0) ∧ w' = w := by
  go_enter Tryd.func148, Tryd.ntmps148
  go_wp2_with fail
  go_ret
  exact ⟨rfl, rfl⟩
theorem low_one (b n cap x : Nat) (w : World) (hn : 1 ≤ n) (hx : w.cell? ⟨b, 0, none⟩ = some (.int .u64 (x : Int))) : Calls Tryd.prog 148 #[.slice (some ⟨b, 0, none⟩) n cap] w fun e w' => e = .returned (.int .u64 (x : Int)) ∧ w' = w := by
  have hd : ((n : Int) == 0) = false := beq_eq_false_iff_ne.2 (by omega)
  have h0 : (0 : Int) < (n : Int) := by omega
  go_enter Tryd.func148, Tryd.ntmps148
  go_wp2_with fail
  go_ret
  exact ⟨rfl, rfl⟩
end Go.Proofs.YtbhndnjlplibmaaDoor.big
