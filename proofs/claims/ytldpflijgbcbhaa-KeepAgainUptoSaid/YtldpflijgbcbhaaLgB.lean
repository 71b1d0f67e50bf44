/- Bits of a chunk's head. -/
import Derived.Test.YtldpflijgbcbhaaBits
namespace Go.Proofs.Ytldpflijgbcbhaa.lg
open Go.RowKit

set_option maxRecDepth 100000 in
theorem or64_small : ∀ y : Fin 64, bits .or .u8 64 (y.val : Int) = ((64 + y.val : Nat) : Int) := by decide +kernel
theorem or64 {n : Nat} (h : n < 64) : bits .or .u8 64 (n : Int) = ((64 + n : Nat) : Int) := or64_small ⟨n, h⟩
set_option maxRecDepth 100000 in
theorem and192_small : ∀ y : Fin 256, bits .and .u8 (y.val : Int) 192 = ((y.val / 64 * 64 : Nat) : Int) := by decide +kernel
theorem and192 {n : Nat} (h : n < 256) : bits .and .u8 (n : Int) 192 = ((n / 64 * 64 : Nat) : Int) := and192_small ⟨n, h⟩
set_option maxRecDepth 100000 in
theorem and63_small : ∀ y : Fin 256, bits .and .u8 (y.val : Int) 63 = ((y.val % 64 : Nat) : Int) := by decide +kernel
theorem and63 {n : Nat} (h : n < 256) : bits .and .u8 (n : Int) 63 = ((n % 64 : Nat) : Int) := and63_small ⟨n, h⟩
theorem bits_i64_or (a b : Nat) (ha : a < 4611686018427387904) (hb : b < 4611686018427387904) : bits .or .i64 (a : Int) (b : Int) = ((a ||| b : Nat) : Int) := by
  have hx : a ||| b < 4611686018427387904 := Nat.or_lt_two_pow (n := 62) ha hb
  show IntKind.i64.wrap (((BitVec.ofInt 64 (a : Int)) ||| (BitVec.ofInt 64 (b : Int))).toNat : Int) = _
  rw [BitVec.toNat_or, BitVec.ofInt_natCast, BitVec.ofInt_natCast, BitVec.toNat_ofNat, BitVec.toNat_ofNat, Nat.mod_eq_of_lt (by omega), Nat.mod_eq_of_lt (by omega), wrap_i64 (by omega) (by omega)]
theorem or256 {a b : Nat} (ha : a < 256) (hb : b < 256) : bits .or .i64 ((a * 256 : Nat) : Int) (b : Int) = ((a * 256 + b : Nat) : Int) := by
  rw [bits_i64_or _ _ (by omega) (by omega)]
  have h := Nat.shiftLeft_add_eq_or_of_lt (show b < 2 ^ 8 by omega) a
  rw [Nat.shiftLeft_eq] at h
  have h2 : a * 256 ||| b = a * 256 + b := h.symm
  rw [h2]
end Go.Proofs.Ytldpflijgbcbhaa.lg
