/- bytesOf: what it answers at any number. -/
import Derived.Test.YtldpflijgbcbhaaDoorStays
namespace Go.Proofs.YtldpflijgbcbhaaDoor
open Go.RowKit

def clamp65 (n : Int) : Nat := if n < 0 then 0 else if 65 < n then 65 else n.toNat
/-- the first k of the bytes of a number that was clamped to m -/
def bytesTo (m k : Nat) : List UInt8 := (List.range k).map fun i => UInt8.ofNat (i + m)
def bytesOfL (n : Int) : List UInt8 := bytesTo (clamp65 n) (clamp65 n)

theorem bytesTo_succ (m k : Nat) : (bytesTo m (k + 1)).map byteV = (bytesTo m k).map byteV ++ [byteV (UInt8.ofNat (k + m))] := by
  simp [bytesTo, List.range_succ]
theorem bytesTo_len (m k : Nat) : (bytesTo m k).length = k := by simp [bytesTo]
theorem clamp65_le (n : Int) : clamp65 n ≤ 65 := by unfold clamp65; split; omega; split; omega; omega
theorem byteV_small {i : Nat} (h : i < 256) : byteV (UInt8.ofNat i) = .int .u8 (i : Int) := by
  unfold byteV
  rw [UInt8.toNat_ofNat', Nat.mod_eq_of_lt h]

theorem ownsRow_cast' {w : World} {base : Nat} {e : TypeId} {sz : Nat} {v : Value} {n n' : Nat} {xs xs' : List Value} (h : w.ownsRow base e sz v n xs) (hn : n = n') (hx : xs = xs') : w.ownsRow base e sz v n' xs' := by subst hn hx; exact h
def BytesOfPost (B : Nat) (w : World) (l : List UInt8) (e : Ending) (w' : World) : Prop :=
  ∃ v, e = .returned v ∧ w'.ownsRow B 5 1 v l.length (l.map byteV) ∧ Below B w w'
theorem Moved.below_nil {w w' : World} {v : Value} (h : Moved w w' (.slice none 0 0) v) : Below w.heap.size w w' := h.only.below (Nat.le_refl _) (fun k hk => by simp [Value.ownBlock] at hk)

set_option maxRecDepth 100000 in
set_option maxHeartbeats 2000000 in
/-- the loop, from k on -/
theorem bytesOf_any (n : Int) (w : World) :
    Calls Tryd.prog 26 #[.int .i64 n] w (BytesOfPost w.heap.size w (bytesOfL n)) := by
  obtain ⟨m, hm⟩ : ∃ m, m = clamp65 n := ⟨_, rfl⟩
  have hm65 : m ≤ 65 := by rw [hm]; exact clamp65_le n
  have hl : Hid (bytesOfL n = bytesTo m m) := by show _ = _; rw [bytesOfL, hm]
  obtain ⟨i0, hi, hz0, hz1, hz2⟩ := info_parts infoU8
  have HI := Lib.hid hi
  have HZ0 := Lib.hid hz0
  have HZ1 := Lib.hid hz1
  have HZ2 := Lib.hid hz2
  clear hi hz0 hz1 hz2
  have hcase : (n < 0 ∧ m = 0) ∨ (0 ≤ n ∧ 65 < n ∧ m = 65) ∨ (0 ≤ n ∧ n ≤ 65 ∧ n = (m : Int)) := by
    unfold clamp65 at hm
    by_cases h1 : n < 0
    · rw [if_pos h1] at hm; exact Or.inl ⟨h1, hm⟩
    · by_cases h2 : 65 < n
      · rw [if_neg h1, if_pos h2] at hm; exact Or.inr (Or.inl ⟨by omega, h2, hm⟩)
      · rw [if_neg h1, if_neg h2] at hm; exact Or.inr (Or.inr ⟨by omega, by omega, by omega⟩)
  clear hm
  obtain ⟨L, hL⟩ : ∃ L, L = bytesOfL n := ⟨_, rfl⟩
  rw [← hL] at hl
  have HL := Lib.hid hL
  clear hL
  rcases hcase with ⟨h1, rfl⟩ | ⟨h1, h2, rfl⟩ | ⟨h1, h2, rfl⟩
  all_goals
    go_enter Tryd.func26, Tryd.ntmps26
    go_wp2_with fail
  · go_loopw [3, 4] (fun b i wr => b = .slice none 0 0 ∧ i = .int .i64 0 ∧ wr = w) (fun _ _ _ => 0)
    case atStart => exact ⟨rfl, rfl, rfl⟩
    case round =>
      obtain ⟨rfl, rfl, rfl⟩ := hrel
      go_wp2_with fail
      go_ret
      exact ⟨_, rfl, by rw [← HL.out, hl.out]; exact World.ownsRow_nil _ _ _ _, Below.refl _ _⟩
  · go_loopw [3, 4] (fun b i wr => ∃ k : Nat, k ≤ 65 ∧ i = .int .i64 (k : Int) ∧ Hid (wr.ownsRow w.heap.size 5 1 b k ((bytesTo 65 k).map byteV)) ∧ Hid (Moved w wr (.slice none 0 0) b)) (fun _ i _ => 65 - (intOf i).toNat)
    case atStart => exact ⟨0, Nat.zero_le _, rfl, World.ownsRow_nil _ _ _ _, Moved.refl _ _⟩
    case round =>
      obtain ⟨k, hk, rfl, hrow, hmv⟩ := hrel
      have hB : w.heap.size ≤ wr.heap.size := hmv.out.only.size
      by_cases hlt : k < 65
      · have hB1 : w.heap.size ≤ wr.heap.size + 1 := by omega
        have hmod : ((k : Int) + 65) % 256 = (k : Int) + 65 := by omega
        go_wp2_with (first
          | (at_builtin; refine wpList_append_own_at _ rfl _ _ 22 rfl w.heap.size 5 i0 (.int .u8 0) 1 1 Tryd.underlying22 HI.out HZ0.out HZ1.out HZ2.out rfl (by decide) u3 k ((bytesTo 65 k).map byteV) rfl (hrow.out.alloc _) ⟨wr.heap.size, 0, none⟩ 1 1 [.int .u8 ((k : Int) + 65)] rfl rfl ?c1 (by intro u hu; simp at hu; subst hu; rfl) (by unfold maxLen; omega) (by omega) (by simpa using hB1) ?_))
        case c1 =>
          intro j u hj
          match j, hj with
          | 0, hj =>
            simp only [List.getElem?_cons_zero, Option.some.injEq] at hj
            subst hj
            rw [addr_add, World.cell?_alloc_at _ _ _ _ rfl]
            simp
        intro v1 w1 hown1 hg1 _ hat1
        have HM1 := Lib.hid (hmv.out.trans (Moved.append hg1 hat1))
        have HO1 : Hid (w1.ownsRow w.heap.size 5 1 v1 (k + 1) ((bytesTo 65 (k + 1)).map byteV)) := by
          rw [bytesTo_succ, byteV_small (by omega)]
          exact ownsRow_cast' hown1 rfl (by simp)
        clear hown1 hg1 hat1
        go_wp2_with fail
        go_roundw
        case rel => exact ⟨k + 1, by omega, by go_num, HO1, HM1⟩
        case measure => simp [intOf]; omega
      · obtain rfl : k = 65 := by omega
        obtain ⟨ao, n1, c1, rfl⟩ : ∃ ao n1 c1, u3 = .slice ao n1 c1 := by
          rcases hrow.out.2 with ⟨hv, _⟩ | ⟨g, cap, cur, hv, _⟩
          · exact ⟨_, _, _, hv⟩
          · exact ⟨_, _, _, hv⟩
        have HOUT : Hid (BytesOfPost w.heap.size w L (.returned (.slice ao n1 c1)) wr) := ⟨_, rfl, by rw [hl.out, bytesTo_len]; exact hrow.out, hmv.out.below_nil⟩
        clear hrow hmv
        go_wp2_with fail
        go_ret
        have hout := HOUT.out
        rw [HL.out] at hout
        exact hout
  · go_loopw [3, 4] (fun b i wr => ∃ k : Nat, k ≤ m ∧ i = .int .i64 (k : Int) ∧ Hid (wr.ownsRow w.heap.size 5 1 b k ((bytesTo m k).map byteV)) ∧ Hid (Moved w wr (.slice none 0 0) b)) (fun _ i _ => m - (intOf i).toNat)
    case atStart => exact ⟨0, Nat.zero_le _, rfl, World.ownsRow_nil _ _ _ _, Moved.refl _ _⟩
    case round =>
      obtain ⟨k, hk, rfl, hrow, hmv⟩ := hrel
      have hB : w.heap.size ≤ wr.heap.size := hmv.out.only.size
      by_cases hlt : k < m
      · have hB1 : w.heap.size ≤ wr.heap.size + 1 := by omega
        have hmod : ((k : Int) + (m : Int)) % 256 = (k : Int) + (m : Int) := by omega
        go_wp2_with (first
          | (at_builtin; refine wpList_append_own_at _ rfl _ _ 22 rfl w.heap.size 5 i0 (.int .u8 0) 1 1 Tryd.underlying22 HI.out HZ0.out HZ1.out HZ2.out rfl (by decide) u3 k ((bytesTo m k).map byteV) rfl (hrow.out.alloc _) ⟨wr.heap.size, 0, none⟩ 1 1 [.int .u8 ((k : Int) + (m : Int))] rfl rfl ?c1 (by intro u hu; simp at hu; subst hu; rfl) (by unfold maxLen; omega) (by omega) (by simpa using hB1) ?_))
        case c1 =>
          intro j u hj
          match j, hj with
          | 0, hj =>
            simp only [List.getElem?_cons_zero, Option.some.injEq] at hj
            subst hj
            rw [addr_add, World.cell?_alloc_at _ _ _ _ rfl]
            simp
        intro v1 w1 hown1 hg1 _ hat1
        have HM1 := Lib.hid (hmv.out.trans (Moved.append hg1 hat1))
        have HO1 : Hid (w1.ownsRow w.heap.size 5 1 v1 (k + 1) ((bytesTo m (k + 1)).map byteV)) := by
          rw [bytesTo_succ, byteV_small (by omega)]
          exact ownsRow_cast' hown1 rfl (by simp)
        clear hown1 hg1 hat1
        go_wp2_with fail
        go_roundw
        case rel => exact ⟨k + 1, by omega, by go_num, HO1, HM1⟩
        case measure => simp [intOf]; omega
      · obtain rfl : k = m := by omega
        obtain ⟨ao, n1, c1, rfl⟩ : ∃ ao n1 c1, u3 = .slice ao n1 c1 := by
          rcases hrow.out.2 with ⟨hv, _⟩ | ⟨g, cap, cur, hv, _⟩
          · exact ⟨_, _, _, hv⟩
          · exact ⟨_, _, _, hv⟩
        have HOUT : Hid (BytesOfPost w.heap.size w L (.returned (.slice ao n1 c1)) wr) := ⟨_, rfl, by rw [hl.out, bytesTo_len]; exact hrow.out, hmv.out.below_nil⟩
        clear hrow hmv
        go_wp2_with fail
        go_ret
        have hout := HOUT.out
        rw [HL.out] at hout
        exact hout
end Go.Proofs.YtldpflijgbcbhaaDoor
