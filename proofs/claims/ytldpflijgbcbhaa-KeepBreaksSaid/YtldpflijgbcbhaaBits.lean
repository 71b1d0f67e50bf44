/- Numbers bit by bit, as the program's frame takes them. -/
import Derived.Test.YtldpflijgbcbhaaCodec
namespace Go.Proofs.Ytldpflijgbcbhaa
open Go.RowKit

theorem wrap_u64 (n : Int) : IntKind.u64.wrap n = n % 18446744073709551616 := by
  simp [IntKind.wrap, IntKind.signed, IntKind.bits]
theorem wrap_u8 (n : Int) : IntKind.u8.wrap n = n % 256 := by
  simp [IntKind.wrap, IntKind.signed, IntKind.bits]
theorem bits_u64_xor (a b : Nat) (ha : a < 18446744073709551616) (hb : b < 18446744073709551616) : bits .xor .u64 (a : Int) (b : Int) = ((a ^^^ b : Nat) : Int) := by
  have hx : a ^^^ b < 18446744073709551616 := Nat.xor_lt_two_pow (n := 64) ha hb
  show IntKind.u64.wrap (((BitVec.ofInt 64 (a : Int)) ^^^ (BitVec.ofInt 64 (b : Int))).toNat : Int) = _
  rw [wrap_u64, BitVec.toNat_xor, BitVec.ofInt_natCast, BitVec.ofInt_natCast, BitVec.toNat_ofNat, BitVec.toNat_ofNat, Nat.mod_eq_of_lt (by simpa using ha), Nat.mod_eq_of_lt (by simpa using hb)]
  omega
theorem bits_u64_or (a b : Nat) (ha : a < 18446744073709551616) (hb : b < 18446744073709551616) : bits .or .u64 (a : Int) (b : Int) = ((a ||| b : Nat) : Int) := by
  have hx : a ||| b < 18446744073709551616 := Nat.or_lt_two_pow (n := 64) ha hb
  show IntKind.u64.wrap (((BitVec.ofInt 64 (a : Int)) ||| (BitVec.ofInt 64 (b : Int))).toNat : Int) = _
  rw [wrap_u64, BitVec.toNat_or, BitVec.ofInt_natCast, BitVec.ofInt_natCast, BitVec.toNat_ofNat, BitVec.toNat_ofNat, Nat.mod_eq_of_lt (by simpa using ha), Nat.mod_eq_of_lt (by simpa using hb)]
  omega
theorem xor_ones {a : Nat} (ha : a < 18446744073709551616) : a ^^^ 18446744073709551615 = 18446744073709551615 - a := by
  have h : (BitVec.ofNat 64 a ^^^ BitVec.allOnes 64).toNat = (~~~ (BitVec.ofNat 64 a)).toNat := by rw [BitVec.xor_allOnes]
  rw [BitVec.toNat_xor, BitVec.toNat_not, BitVec.toNat_ofNat, Nat.mod_eq_of_lt (by simpa using ha), BitVec.toNat_allOnes] at h
  simpa using h
/-- a number's sign goes last -/
theorem bits_zig (n : Int) (h1 : -9223372036854775808 ≤ n) (h2 : n ≤ 9223372036854775807) : bits .xor .u64 (IntKind.u64.wrap (IntKind.u64.wrap n * 2)) (IntKind.u64.wrap (n / 9223372036854775808)) = (zig n : Int) := by
  unfold zig
  by_cases h : 0 ≤ n
  · rw [if_pos h, wrap_u64, wrap_u64, wrap_u64]
    have e1 : n % 18446744073709551616 * 2 % 18446744073709551616 = (((2 * n).toNat : Nat) : Int) := by omega
    have e2 : n / 9223372036854775808 % 18446744073709551616 = ((0 : Nat) : Int) := by omega
    rw [e1, e2, bits_u64_xor _ _ (by omega) (by omega), Nat.xor_zero]
  · rw [if_neg h, wrap_u64, wrap_u64, wrap_u64]
    have e1 : n % 18446744073709551616 * 2 % 18446744073709551616 = (((18446744073709551616 + 2 * n).toNat : Nat) : Int) := by omega
    have e2 : n / 9223372036854775808 % 18446744073709551616 = ((18446744073709551615 : Nat) : Int) := by omega
    rw [e1, e2, bits_u64_xor _ _ (by omega) (by omega), xor_ones (by omega)]
    omega

theorem or128_small : ∀ y : Fin 256, bits .or .u8 (y.val : Int) 128 = ((y.val % 128 + 128 : Nat) : Int) := by decide +kernel
theorem or128 (x : Nat) : bits .or .u8 ((x : Int) % 256) 128 = ((x % 128 + 128 : Nat) : Int) := by
  have h := or128_small ⟨x % 256, by omega⟩
  rw [show (x : Int) % 256 = ((x % 256 : Nat) : Int) by omega]
  rw [h]
  simp only
  omega
theorem and127_small : ∀ y : Fin 256, bits .and .u8 (y.val : Int) 127 = ((y.val % 128 : Nat) : Int) := by decide +kernel
theorem and127 {x : Nat} (h : x < 256) : bits .and .u8 (x : Int) 127 = ((x % 128 : Nat) : Int) := and127_small ⟨x, h⟩

/-- seven bits more -/
theorem or_shift {x c i : Nat} (hx : x < 128 ^ i) (hlt : x + c * 128 ^ i < 18446744073709551616) : bits .or .u64 (x : Int) ((c * 128 ^ i : Nat) : Int) = ((x + c * 128 ^ i : Nat) : Int) := by
  rw [bits_u64_or _ _ (by omega) (by omega)]
  have e : 128 ^ i = 2 ^ (7 * i) := by rw [Nat.pow_mul]
  rw [e] at hx ⊢
  have h := Nat.shiftLeft_add_eq_or_of_lt hx c
  rw [Nat.shiftLeft_eq] at h
  rw [Nat.or_comm, ← h]
  congr 1
  omega

theorem wrap_i64 {n : Int} (h1 : -9223372036854775808 ≤ n) (h2 : n ≤ 9223372036854775807) : IntKind.i64.wrap n = n := by
  simp [IntKind.wrap, IntKind.signed, IntKind.bits]
  omega
theorem xor_zag (x : Nat) (h : x < 18446744073709551616) : bits .xor .i64 ((x / 2 : Nat) : Int) (-((x % 2 : Nat) : Int)) = zag x := by
  unfold zag
  rcases Nat.mod_two_eq_zero_or_one x with h2 | h2
  · rw [if_pos h2, h2]
    have hx : x / 2 < 2 ^ 64 := by omega
    have e : (BitVec.ofInt 64 (-((0 : Nat) : Int))).toNat = 0 := by decide
    show IntKind.i64.wrap (((BitVec.ofInt 64 ((x / 2 : Nat) : Int)) ^^^ (BitVec.ofInt 64 (-((0 : Nat) : Int)))).toNat : Int) = _
    rw [BitVec.toNat_xor, e, BitVec.ofInt_natCast, BitVec.toNat_ofNat, Nat.mod_eq_of_lt hx, Nat.xor_zero, wrap_i64 (by omega) (by omega)]
  · rw [if_neg (by omega), h2]
    have hx : x / 2 < 2 ^ 64 := by omega
    have e : (BitVec.ofInt 64 (-((1 : Nat) : Int))).toNat = 18446744073709551615 := by decide
    show IntKind.i64.wrap (((BitVec.ofInt 64 ((x / 2 : Nat) : Int)) ^^^ (BitVec.ofInt 64 (-((1 : Nat) : Int)))).toNat : Int) = _
    rw [BitVec.toNat_xor, e, BitVec.ofInt_natCast, BitVec.toNat_ofNat, Nat.mod_eq_of_lt hx, xor_ones (by omega)]
    have h3 : IntKind.i64.wrap ((18446744073709551615 - x / 2 : Nat) : Int) = (((18446744073709551615 - x / 2 : Nat) : Int) + 9223372036854775808) % 18446744073709551616 - 9223372036854775808 := by
      simp [IntKind.wrap, IntKind.signed, IntKind.bits]
      try omega
    rw [h3]
    omega

theorem bits_u64_and (a b : Nat) (ha : a < 18446744073709551616) (hb : b < 18446744073709551616) : bits .and .u64 (a : Int) (b : Int) = ((a &&& b : Nat) : Int) := by
  have hx : a &&& b < 18446744073709551616 := Nat.and_lt_two_pow (n := 64) a hb
  show IntKind.u64.wrap (((BitVec.ofInt 64 (a : Int)) &&& (BitVec.ofInt 64 (b : Int))).toNat : Int) = _
  rw [wrap_u64, BitVec.toNat_and, BitVec.ofInt_natCast, BitVec.ofInt_natCast, BitVec.toNat_ofNat, BitVec.toNat_ofNat, Nat.mod_eq_of_lt (by simpa using ha), Nat.mod_eq_of_lt (by simpa using hb)]
  omega
theorem zag_walk {X : Nat} (h : X < 18446744073709551616) : bits .xor .i64 (wrap64 ((X : Int) / 2)) (wrap64 (-wrap64 (bits .and .u64 (X : Int) 1))) = zag X := by
  have e1 : bits .and .u64 (X : Int) 1 = ((X % 2 : Nat) : Int) := by
    have := bits_u64_and X 1 h (by omega)
    rw [Nat.and_one_is_mod] at this
    exact this
  rw [e1, IntWalk.wrap64_in ((X : Int) / 2) ⟨by omega, by omega⟩, IntWalk.wrap64_in ((X % 2 : Nat) : Int) ⟨by omega, by omega⟩, IntWalk.wrap64_in (-((X % 2 : Nat) : Int)) ⟨by omega, by omega⟩]
  exact xor_zag X h
theorem or_walk {acc c j : Nat} (ha : acc < 128 ^ j) (hj : j ≤ 9) (h9 : j = 9 → c % 128 ≤ 1) : bits .or .u64 (acc : Int) (IntKind.u64.wrap ((c : Int) % 128 * 2 ^ (7 * j))) = ((acc + c % 128 * 128 ^ j : Nat) : Int) ∧ acc + c % 128 * 128 ^ j < 18446744073709551616 := by
  have e : (2 : Nat) ^ (7 * j) = 128 ^ j := by rw [Nat.pow_mul]
  have e1 : ((c : Int) % 128 * 2 ^ (7 * j)) = ((c % 128 * 128 ^ j : Nat) : Int) := by rw [← e]; simp
  have hlt : acc + c % 128 * 128 ^ j < 18446744073709551616 := by
    rcases Nat.lt_or_ge j 9 with h8 | h8
    · have h1 : 128 ^ j ≤ 128 ^ 8 := Nat.pow_le_pow_right (by omega) (by omega)
      have h2 : c % 128 * 128 ^ j ≤ 127 * 128 ^ 8 := Nat.mul_le_mul (by omega) h1
      simp only [Nat.reducePow] at h1 h2
      omega
    · obtain rfl : j = 9 := by omega
      have := h9 rfl
      simp only [Nat.reducePow] at ha ⊢
      omega
  refine ⟨?_, hlt⟩
  rw [e1, wrap_u64, show ((c % 128 * 128 ^ j : Nat) : Int) % 18446744073709551616 = ((c % 128 * 128 ^ j : Nat) : Int) by omega]
  exact or_shift ha hlt

theorem varint_len : ∀ (k x : Nat), x < 128 ^ (k + 1) → (varint x).length ≤ k + 1
  | 0, x, h => by rw [varint_small (by simpa using h)]; simp
  | k + 1, x, h => by
    by_cases hx : x < 128
    · rw [varint_small hx]; simp
    · rw [varint_big (by omega), List.length_cons]
      have e : 128 ^ (k + 1 + 1) = 128 * 128 ^ (k + 1) := by rw [Nat.pow_succ]; omega
      have := varint_len k (x / 128) (by rw [e] at h; exact Nat.div_lt_of_lt_mul h)
      omega
theorem varint_len10 {x : Nat} (h : x < 18446744073709551616) : (varint x).length ≤ 10 := varint_len 9 x (by simp only [Nat.reducePow, Nat.reduceAdd]; omega)
theorem numB_len {n : Int} (h1 : -9223372036854775808 ≤ n) (h2 : n ≤ 9223372036854775807) : (numB n).length ≤ 10 := varint_len10 (zig_lt h1 h2)
end Go.Proofs.Ytldpflijgbcbhaa
