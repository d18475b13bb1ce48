/-
  The sign bit that is turned is the float across. Condition: a word of 64 bits.
-/
import Derived.Test.YtcjellbnildpfaaDoorR6
namespace Go.Proofs.YtcjellbnildpfaaDoor
open Go.RowKit

theorem xor_bit (q r : Nat) (hq : q < 2) (hr : r < 2 ^ 63) : (2 ^ 63 * q + r) ^^^ (2 ^ 63) = 2 ^ 63 * (1 - q) + r := by
  apply Nat.eq_of_testBit_eq
  intro i
  rw [Nat.testBit_xor, Nat.testBit_two_pow_mul_add _ hr, Nat.testBit_two_pow_mul_add _ hr, Nat.testBit_two_pow]
  by_cases hi : i < 63
  · rw [if_pos hi, if_pos hi, decide_eq_false (by omega)]
    simp
  · rw [if_neg hi, if_neg hi]
    by_cases he : 63 = i
    · subst he
      obtain rfl | rfl : q = 0 ∨ q = 1 := by omega
      · decide
      · decide
    · rw [decide_eq_false he]
      have hk : ∀ v, v < 2 → v.testBit (i - 63) = false := fun v hv => Nat.testBit_lt_two_pow (Nat.lt_of_lt_of_le hv (by
        have : 2 ^ 1 ≤ 2 ^ (i - 63) := Nat.pow_le_pow_right (by omega) (by omega)
        simpa using this))
      rw [hk q hq, hk (1 - q) (by omega)]
      rfl

theorem xor_sign {a : Nat} (h : W64 a) : bits .xor .u64 (a : Int) 9223372036854775808 = ((FP.flip a : Nat) : Int) := by
  unfold W64 at h
  have := u64_xor_nat a 9223372036854775808 h (by omega)
  rw [show ((9223372036854775808 : Nat) : Int) = 9223372036854775808 from rfl] at this
  rw [this]
  congr 1
  have hx := xor_bit (a / 9223372036854775808) (a % 9223372036854775808) (by omega) (by rw [show (2 ^ 63 : Nat) = 9223372036854775808 from rfl]; omega)
  rw [show (2 ^ 63 : Nat) = 9223372036854775808 from rfl, Nat.div_add_mod] at hx
  rw [hx]
  unfold FP.flip
  split <;> omega
end Go.Proofs.YtcjellbnildpfaaDoor
