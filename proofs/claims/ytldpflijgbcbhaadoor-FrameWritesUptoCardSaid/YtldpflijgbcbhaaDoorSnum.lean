/- dayref2.Num, dayref2.Text: the bytes of a number, of a text, behind bytes. -/
import Derived.Test.YtldpflijgbcbhaaDoorStays
namespace Go.Proofs.YtldpflijgbcbhaaDoor
open Go.RowKit

set_option maxRecDepth 100000 in
set_option maxHeartbeats 1000000 in
theorem snum_any (BASE : Nat) (v : Value) (l : List UInt8) (n : Int) (w : World) (h : w.ownsRow BASE 5 1 v l.length (l.map byteV)) (hB : BASE ≤ w.heap.size) (hl : l.length ≤ 1000000000) (h1 : -9223372036854775808 ≤ n) (h2 : n ≤ 9223372036854775807) :
    Calls Tryd.prog 63 #[v, .int .i64 n] w (NumPost BASE w v (l ++ numB n)) := by
  have H := Lib.hid h
  obtain ⟨i0, hi, hz0, hz1, hz2⟩ := info_parts infoU8
  have HI := Lib.hid hi
  have HZ0 := Lib.hid hz0
  have HZ1 := Lib.hid hz1
  have HZ2 := Lib.hid hz2
  clear hi hz0 hz1 hz2 h
  have hz64 := zig_lt h1 h2
  have hN : Hid (numB n = varint (zig n)) := rfl
  have hzn : 0 ≤ n → (zig n : Int) = 2 * n := fun h => by unfold zig; rw [if_pos h]; omega
  have hzm : n < 0 → (zig n : Int) = -2 * n - 1 := fun h => by unfold zig; rw [if_neg (by omega)]; omega
  generalize zig n = X at hz64 hN hzn hzm
  obtain ⟨L, hL⟩ : ∃ L, L = numB n := ⟨_, rfl⟩
  rw [← hL] at hN ⊢
  have HL := Lib.hid hL
  clear hL
  have hstart : (n < 0 ∧ -(n + 1) * 2 + 1 = (X : Int)) ∨ (0 ≤ n ∧ n * 2 = (X : Int)) := by
    rcases Int.lt_or_le n 0 with h | h
    · have := hzm h; exact Or.inl ⟨h, by omega⟩
    · have := hzn h; exact Or.inr ⟨h, by omega⟩
  clear hzn hzm
  rcases hstart with ⟨hneg, he0⟩ | ⟨hneg, he0⟩
  all_goals
    have HE0 := Lib.hid he0
    clear he0
    go_enter Tryd.func63, Tryd.ntmps63
    go_wp2_with fail
    rw [HE0.out]
    clear HE0
    go_loopw [0, 5] (fun b x wr => ∃ (l' : List UInt8) (y : Nat), x = .int .u64 (y : Int) ∧ y < 18446744073709551616 ∧ Hid (l ++ L = l' ++ varint y) ∧ wr.ownsRow BASE 5 1 b l'.length (l'.map byteV) ∧ Moved w wr v b)
      (fun _ x _ => (intOf x).toNat)
    case atStart => exact ⟨l, X, rfl, hz64, by show _ = _; rw [hN.out], H.out, Moved.refl _ _⟩
    case round =>
      obtain ⟨l', y, rfl, hy, he, hown, hmv⟩ := hrel
      have hlen : l'.length ≤ 1000000010 := by
        have h3 := congrArg List.length he.out
        rw [List.length_append, List.length_append] at h3
        have h4 : L.length ≤ 10 := by rw [hN.out]; exact varint_len10 hz64
        omega
      have hBr : BASE ≤ wr.heap.size := Nat.le_trans hB hmv.only.size
      have HOWN := Lib.hid hown
      have HMV := Lib.hid hmv
      have HY := Lib.hid hy
      have HZ := Lib.hid hz64
      clear hown hmv hy hz64 h1 h2
      by_cases hbig : 128 ≤ y
      · have hor := or128 y
        have hcase : 128 ≤ (y : Int) := by omega
        have hB1 : BASE ≤ wr.heap.size + 1 := by omega
        go_wp2_with (first
          | (at_builtin; refine wpList_append_own_at _ rfl (.tmp 19) (.tmp 24) 22 rfl BASE 5 i0 (.int .u8 0) 1 1 Tryd.underlying22 HI.out HZ0.out HZ1.out HZ2.out rfl (by decide) u0 l'.length (l'.map byteV) rfl (HOWN.out.alloc _) ⟨wr.heap.size, 0, none⟩ 1 1 [.int .u8 ((y % 128 + 128 : Nat) : Int)] rfl rfl ?c1 (by intro u hu; simp at hu; subst hu; rfl) (by unfold maxLen; omega) (by omega) (by simpa using hB1) ?_))
        case c1 =>
          intro j u hj
          match j, hj with
          | 0, hj =>
            simp only [List.getElem?_cons_zero, Option.some.injEq] at hj
            subst hj
            rw [addr_add, World.cell?_alloc_at _ _ _ _ rfl]
            simp
        intro v1 w1 hown1 hgrow1 _ hblk1
        have hmv1 := HMV.out.trans (Moved.append hgrow1 hblk1)
        have hown2 := row_snoc (b := UInt8.ofNat (y % 128 + 128)) hown1 (by rw [byteV, ofNat_toNat (by omega)]; first | done | (simp; done))
        have he1 : Hid (l ++ L = (l' ++ [UInt8.ofNat (y % 128 + 128)]) ++ varint (y / 128)) := by
          show _ = _
          rw [he.out, varint_big hbig]; simp
        have hy1 : y / 128 < 18446744073709551616 := by have := HY.out; omega
        have HR : Hid (∃ (l'' : List UInt8) (z : Nat), Value.int .u64 ((y / 128 : Nat) : Int) = .int .u64 (z : Int) ∧ z < 18446744073709551616 ∧ Hid (l ++ L = l'' ++ varint z) ∧ w1.ownsRow BASE 5 1 v1 l''.length (l''.map byteV) ∧ Moved w w1 v v1) := ⟨_, _, rfl, hy1, he1, hown2, hmv1⟩
        clear hown1 hgrow1 hblk1 hmv1 hown2 he1 hy1
        have hw7 : IntKind.u64.wrap ((y : Int) / 128) = ((y / 128 : Nat) : Int) := by
          have := HY.out
          show ((y : Int) / 128) % 18446744073709551616 = _
          omega
        have HW7 := Lib.hid hw7
        clear hw7
        go_wp2_with fail
        rw [HW7.out]
        go_roundw
        case rel => exact HR.out
        case measure => simp [intOf]; omega
      · have hcase : (y : Int) < 128 := by omega
        have hmod : (y : Int) % 256 = (y : Int) := by omega
        have hB1 : BASE ≤ wr.heap.size + 1 := by omega
        go_wp2_with (first
          | (at_builtin; refine wpList_append_own_at _ rfl (.tmp 28) (.tmp 31) 22 rfl BASE 5 i0 (.int .u8 0) 1 1 Tryd.underlying22 HI.out HZ0.out HZ1.out HZ2.out rfl (by decide) u0 l'.length (l'.map byteV) rfl (HOWN.out.alloc _) ⟨wr.heap.size, 0, none⟩ 1 1 [.int .u8 (y : Int)] rfl rfl ?c2 (by intro u hu; simp at hu; subst hu; rfl) (by unfold maxLen; omega) (by omega) (by simpa using hB1) ?_))
        case c2 =>
          intro j u hj
          match j, hj with
          | 0, hj =>
            simp only [List.getElem?_cons_zero, Option.some.injEq] at hj
            subst hj
            rw [addr_add, World.cell?_alloc_at _ _ _ _ rfl]
            first | rfl | (rw [hmod]; rfl)
        intro v1 w1 hown1 hgrow1 _ hblk1
        have hmv1 := HMV.out.trans (Moved.append hgrow1 hblk1)
        have hown2 := row_snoc (b := UInt8.ofNat y) hown1 (by rw [byteV, ofNat_toNat (by omega)])
        have he1 : Hid (l ++ L = l' ++ [UInt8.ofNat y]) := by
          show _ = _
          rw [he.out, varint_small (by omega)]
        have HOUT : Hid (NumPost BASE w v (l ++ L) (.returned v1) w1) := by
          refine ⟨v1, rfl, ?_, hmv1⟩
          rw [he1.out]; exact hown2
        clear hown1 hgrow1 hblk1 hmv1 hown2 he1
        obtain ⟨ao, n1, c1, rfl⟩ : ∃ ao n1 c1, v1 = .slice ao n1 c1 := by
          obtain ⟨v', hv, hrow, _⟩ := HOUT.out
          injection hv with hv
          subst hv
          rcases hrow.2 with ⟨hv, _⟩ | ⟨g, cap, cur, hv, _⟩
          · exact ⟨_, _, _, hv⟩
          · exact ⟨_, _, _, hv⟩
        go_wp2_with fail
        go_ret
        exact HOUT.out
end Go.Proofs.YtldpflijgbcbhaaDoor
