/- Plain laws on bits, as the code of codes uses them. No condition but the ranges. -/
import Derived.WalkKit
import Derived.Laws.DeepNot64
namespace Go
open Go.RowKit

theorem or128_fin : ∀ y : Fin 256, bits .or .u8 ((y.val : Int)) 128 = ((y.val % 128 + 128 : Nat) : Int) := by decide +kernel

theorem or128 (x : Nat) : bits .or .u8 ((x : Int) % 256) 128 = ((x % 128 + 128 : Nat) : Int) := by
  have h := or128_fin ⟨x % 256, by omega⟩
  simp only at h
  have e : ((x % 256 : Nat) : Int) = (x : Int) % 256 := by omega
  rw [e] at h
  rw [h]
  omega

theorem xor_ones (a : Nat) (h : a < 18446744073709551616) : a ^^^ 18446744073709551615 = 18446744073709551615 - a := by
  have e : (BitVec.ofNat 64 a ^^^ BitVec.allOnes 64).toNat = (~~~ BitVec.ofNat 64 a).toNat := by rw [BitVec.xor_allOnes]
  rw [BitVec.toNat_not] at e
  simp only [BitVec.toNat_xor, BitVec.toNat_ofNat, BitVec.toNat_allOnes] at e
  have h1 : a % 2 ^ 64 = a := Nat.mod_eq_of_lt h
  rw [h1] at e
  exact e

theorem wrap_u64_neg (v : Int) (h : -9223372036854775808 ≤ v) (h2 : v < 0) : IntKind.u64.wrap v = v + 18446744073709551616 := by
  simp only [IntKind.wrap, IntKind.bits, IntKind.signed, Bool.false_and, Bool.false_eq_true, if_false]
  omega

theorem wrap_u64_id (v : Int) (h : 0 ≤ v) (h2 : v < 18446744073709551616) : IntKind.u64.wrap v = v := by
  simp only [IntKind.wrap, IntKind.bits, IntKind.signed, Bool.false_and, Bool.false_eq_true, if_false]
  omega

theorem wrap_u64_mod (v : Int) : IntKind.u64.wrap v = v % 18446744073709551616 := by
  simp only [IntKind.wrap, IntKind.bits, IntKind.signed, Bool.false_and, Bool.false_eq_true, if_false]
  omega

theorem zigzag (v : Int) (h : -9223372036854775808 ≤ v) (h2 : v ≤ 9223372036854775807) :
    bits .xor .u64 (IntKind.u64.wrap (IntKind.u64.wrap v * 2)) (IntKind.u64.wrap (v / 9223372036854775808)) = if 0 ≤ v then 2 * v else -2 * v - 1 := by
  by_cases hv : 0 ≤ v
  · have e1 : v / 9223372036854775808 = 0 := by omega
    rw [if_pos hv, e1, wrap_u64_id v hv (by omega), wrap_u64_id (v * 2) (by omega) (by omega), wrap_u64_id 0 (by omega) (by omega)]
    have := u64_xor (v * 2) 0 (by omega) (by omega) (by omega) (by omega)
    rw [this]
    simp only [Int.toNat_zero, Nat.xor_zero]
    omega
  · have e1 : v / 9223372036854775808 = -1 := by omega
    rw [if_neg hv, e1, wrap_u64_neg v h (by omega), wrap_u64_neg (-1) (by omega) (by omega), wrap_u64_mod ((v + 18446744073709551616) * 2)]
    have e2 : ((v + 18446744073709551616) * 2) % 18446744073709551616 = 2 * v + 18446744073709551616 := by omega
    rw [e2]
    have := u64_xor (2 * v + 18446744073709551616) 18446744073709551615 (by omega) (by omega) (by omega) (by omega)
    have e3 : (-1 + 18446744073709551616 : Int) = 18446744073709551615 := by omega
    rw [e3, this]
    have e4 : (18446744073709551615 : Int).toNat = 18446744073709551615 := rfl
    rw [e4, xor_ones _ (by omega)]
    omega

theorem and127_fin : ∀ y : Fin 256, bits .and .u8 ((y.val : Int)) 127 = ((y.val % 128 : Nat) : Int) := by decide +kernel

theorem and127 (y : Nat) (h : y < 256) : bits .and .u8 (y : Int) 127 = ((y % 128 : Nat) : Int) := and127_fin ⟨y, h⟩

theorem or_add (a x k : Nat) (ha : a < 2 ^ k) (hx : x * 2 ^ k < 18446744073709551616) (hk : 2 ^ k < 18446744073709551616) : bits .or .u64 (a : Int) ((x * 2 ^ k : Nat) : Int) = ((a + x * 2 ^ k : Nat) : Int) := by
  rw [bits_or_u64_nat a (x * 2 ^ k) (by omega) hx]
  congr 1
  have h := Nat.shiftLeft_add_eq_or_of_lt ha x
  rw [Nat.shiftLeft_eq] at h
  rw [Nat.or_comm, ← h, Nat.add_comm]

/-- One byte more of a number: as the program reckons it. -/
theorem seven (a y k : Nat) (hk : k ≤ 9) (ha : a < 2 ^ (7 * k)) (hy : y < 256) (h9 : k = 9 → y = 1) :
    bits .or .u64 (a : Int) (IntKind.u64.wrap (IntKind.u64.wrap (bits .and .u8 (y : Int) 127) * 2 ^ (7 * k))) = ((a + y % 128 * 2 ^ (7 * k) : Nat) : Int) ∧ y % 128 * 2 ^ (7 * k) < 18446744073709551616 := by
  have hp : 2 ^ (7 * k) ≤ 2 ^ 63 := Nat.pow_le_pow_right (by omega) (by omega)
  have hlt : y % 128 * 2 ^ (7 * k) < 18446744073709551616 := by
    by_cases e : k = 9
    · subst e; rw [h9 rfl]; decide
    · have hp2 : 2 ^ (7 * k) ≤ 2 ^ 56 := Nat.pow_le_pow_right (by omega) (by omega)
      have h1 : y % 128 * 2 ^ (7 * k) ≤ 127 * 2 ^ 56 := Nat.mul_le_mul (by omega) hp2
      omega
  refine ⟨?_, hlt⟩
  rw [and127 y hy, wrap_u64_id ((y % 128 : Nat) : Int) (by omega) (by omega)]
  have e : (((y % 128 : Nat) : Int) * 2 ^ (7 * k)) = ((y % 128 * 2 ^ (7 * k) : Nat) : Int) := by push_cast; rfl
  rw [e, wrap_u64_id _ (by omega) (by omega)]
  exact or_add a (y % 128) (7 * k) ha hlt (by omega)

/-- One byte more, the higher ones first. -/
theorem eight (v y : Nat) (hv : v < 72057594037927936) (hy : y < 256) : bits .or .u64 (IntKind.u64.wrap ((v : Int) * 256)) (y : Int) = ((v * 256 + y : Nat) : Int) := by
  rw [wrap_u64_id ((v : Int) * 256) (by omega) (by omega)]
  have e : ((v : Int) * 256) = ((v * 256 : Nat) : Int) := by omega
  rw [e, bits_or_u64_nat (v * 256) y (by omega) (by omega)]
  congr 1
  have h := Nat.shiftLeft_add_eq_or_of_lt (show y < 2 ^ 8 by omega) v
  rw [Nat.shiftLeft_eq] at h
  exact h.symm

theorem eight' (v y : Nat) (hv : v < 72057594037927936) (hy : y < 256) : bits .or .u64 ((v : Int) * 256) (y : Int) = ((v * 256 + y : Nat) : Int) := by
  have h := eight v y hv hy
  rwa [wrap_u64_id ((v : Int) * 256) (by omega) (by omega)] at h

theorem bits_xor_comm (k : IntKind) (a b : Int) : bits .xor k a b = bits .xor k b a := by
  simp only [bits, BitVec.xor_comm]

theorem and_one (x : Nat) (h : x < 18446744073709551616) : bits .and .u64 (x : Int) 1 = ((x % 2 : Nat) : Int) := by
  have := bits_and_u64_nat x 1 h (by omega)
  rw [show ((1 : Nat) : Int) = 1 from rfl] at this
  rw [this, Nat.and_one_is_mod]

theorem i64_xor_zero (a : Nat) (h : a < 9223372036854775808) : bits .xor .i64 (a : Int) 0 = (a : Int) := by
  show IntKind.i64.wrap (((BitVec.ofInt 64 (a : Int) ^^^ BitVec.ofInt 64 0 : BitVec 64).toNat : Nat) : Int) = (a : Int)
  have e3 : BitVec.ofInt 64 0 = 0#64 := rfl
  have e4 : BitVec.ofInt 64 (a : Int) = BitVec.ofNat 64 a := by rw [BitVec.ofInt_natCast]
  rw [e3, BitVec.xor_zero, e4, BitVec.toNat_ofNat]
  rw [IntKind.wrap_i64]
  omega

theorem unzig (x : Nat) (h : x < 18446744073709551616) :
    bits .xor .i64 (wrap64 ((x : Int) / 2)) (wrap64 (-wrap64 (bits .and .u64 (x : Int) 1))) = if x % 2 = 0 then ((x / 2 : Nat) : Int) else -((x / 2 : Nat) : Int) - 1 := by
  rw [and_one x h]
  have e1 : wrap64 ((x : Int) / 2) = ((x / 2 : Nat) : Int) := by unfold wrap64; omega
  rw [e1]
  by_cases h2 : x % 2 = 0
  · rw [if_pos h2, h2]
    have e2 : wrap64 (-wrap64 ((0 : Nat) : Int)) = 0 := by unfold wrap64; omega
    rw [e2]
    exact i64_xor_zero (x / 2) (by omega)
  · rw [if_neg h2]
    have e0 : x % 2 = 1 := by omega
    have e2 : wrap64 (-wrap64 ((x % 2 : Nat) : Int)) = -1 := by rw [e0]; unfold wrap64; omega
    rw [e2, bits_xor_comm, i64_not (x / 2) (by omega)]
    omega
end Go
