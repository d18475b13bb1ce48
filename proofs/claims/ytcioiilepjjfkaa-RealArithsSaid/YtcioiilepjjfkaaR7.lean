/-
  The root, digit by digit: plain facts. Conditions: as each states.
-/
import Derived.Test.YtcioiilepjjfkaaF5
namespace Go.Proofs.Ytcioiilepjjfkaa

/-- what holds at the head of a round: T the number, q the root so far, m the rest, p the place -/
structure RInv (T q m p : Nat) : Prop where
  a : q * q ≤ T
  b : m * p + 2 * (q * q) = 2 * T
  c : T < (q + p) * (q + p)
  d : q + p ≤ 18014398509481984

theorem RInv.take {T q m r : Nat} (h : RInv T q m (2 * r)) (ht : 2 * q + r ≤ m) : RInv T (q + r) (2 * (m - (2 * q + r))) r := by
  obtain ⟨a, b, c, d⟩ := h
  obtain ⟨x, rfl⟩ : ∃ x, m = 2 * q + r + x := ⟨m - (2 * q + r), by omega⟩
  have e : 2 * q + r + x - (2 * q + r) = x := by omega
  rw [e]
  have e1 : (2 * q + r + x) * (2 * r) = 4 * (q * r) + 2 * (r * r) + 2 * (x * r) := by
    rw [Nat.mul_left_comm, Nat.add_mul, Nat.add_mul, Nat.mul_assoc]; omega
  have e2 : (q + r) * (q + r) = q * q + 2 * (q * r) + r * r := by
    simp only [Nat.add_mul, Nat.mul_add]; rw [Nat.mul_comm r q]; omega
  have e3 : 2 * x * r = 2 * (x * r) := by rw [Nat.mul_assoc]
  rw [e1] at b
  refine ⟨by omega, by omega, ?_, by omega⟩
  rw [show q + r + r = q + 2 * r by omega]; exact c

theorem RInv.skip {T q m r : Nat} (h : RInv T q m (2 * r)) (hr : 0 < r) (ht : m < 2 * q + r) : RInv T q (2 * m) r := by
  obtain ⟨a, b, c, d⟩ := h
  have e1 : m * (2 * r) = 2 * (m * r) := by rw [Nat.mul_left_comm]
  have e2 : (q + r) * (q + r) = q * q + (2 * q + r) * r := by
    simp only [Nat.add_mul, Nat.mul_add]; rw [Nat.mul_comm r q, Nat.mul_assoc]; omega
  have e3 : 2 * m * r = 2 * (m * r) := by rw [Nat.mul_assoc]
  have e4 : m * r < (2 * q + r) * r := Nat.mul_lt_mul_of_pos_right ht hr
  exact ⟨a, by omega, by omega, by omega⟩

/-- the rest is no more than this -/
theorem RInv.le {T q m r : Nat} (h : RInv T q m (2 * r)) (hr : 0 < r) : m < 144115188075855872 := by
  obtain ⟨a, b, c, d⟩ := h
  have e2 : (q + 2 * r) * (q + 2 * r) = q * q + (4 * q + 4 * r) * r := by
    have s1 : q * (2 * r) = 2 * (q * r) := Nat.mul_left_comm _ _ _
    have s2 : 2 * r * (2 * r) = 4 * (r * r) := Nat.mul_mul_mul_comm _ _ _ _
    have s3 : 2 * r * q = 2 * (q * r) := by rw [Nat.mul_comm]; exact s1
    have s4 : (4 * q + 4 * r) * r = 4 * (q * r) + 4 * (r * r) := by rw [Nat.add_mul, Nat.mul_assoc, Nat.mul_assoc]
    rw [s4, Nat.add_mul, Nat.mul_add, Nat.mul_add, s1, s2, s3]; omega
  have e1 : m * (2 * r) = 2 * (m * r) := by rw [Nat.mul_left_comm]
  have : m * r < (4 * q + 4 * r) * r := by omega
  have := Nat.lt_of_mul_lt_mul_right this
  omega

theorem RInv.start {M : Nat} (h : M < 36028797018963968) : RInv (M * 9007199254740992) 0 M 18014398509481984 :=
  ⟨by omega, by omega, by omega, by omega⟩

/-- the end: the rest tells whether the root is exact; an exact one is even -/
theorem RInv.last {mm q m : Nat} (h : RInv (2 * mm * 9007199254740992) q m 1) :
    q * q ≤ mm * 18014398509481984 ∧ mm * 18014398509481984 < (q + 1) * (q + 1) ∧ (m = 0 → q % 2 = 0) := by
  obtain ⟨a, b, c, d⟩ := h
  have e : 2 * mm * 9007199254740992 = mm * 18014398509481984 := by omega
  rw [e] at a b c
  refine ⟨a, c, fun hm => ?_⟩
  subst hm
  have hq : q * q = mm * 18014398509481984 := by omega
  have : (q * q) % 2 = 0 := by rw [hq]; omega
  rw [Nat.mul_mod] at this
  rcases (show q % 2 = 0 ∨ q % 2 = 1 by omega) with h0 | h0
  · exact h0
  · rw [h0] at this; simp at this

namespace FP
open Ieee
theorem sqrt_neg {x : Nat} (hx : x < 18446744073709551616) (h : neg x = true) (h0 : rung x ≠ 0) : double.sqrt x = none := by
  unfold Format.sqrt
  by_cases hf : rung x < 9218868437227405312
  · obtain ⟨m, p, e, hv, _⟩ := read_fin x hx hf
    rw [e, h]
    have hm : m ≠ 0 := by
      rintro rfl
      rw [Nat.zero_mul] at hv
      exact h0 (val_zero_iff.1 hv.symm)
    simp [Datum.root, hm]
  · rw [read_eq x hx, if_neg (by omega), if_neg hf, h]
    split <;> rfl
theorem sqrt_nan {x : Nat} (hx : x < 18446744073709551616) (h : isNaN x = true) : double.sqrt x = none := by
  unfold isNaN at h
  simp only [decide_eq_true_eq] at h
  unfold Format.sqrt
  rw [read_eq x hx, if_neg (by omega), if_neg (by omega), if_neg (by omega)]
  rfl
theorem sqrt_inf : double.sqrt 9218868437227405312 = some 9218868437227405312 := by decide
theorem sqrt_zero {x : Nat} (hx : x < 18446744073709551616) (h : rung x = 0) : double.sqrt x = some x := by
  have : x = 0 ∨ x = 9223372036854775808 := by unfold rung at h; omega
  rcases this with rfl | rfl <;> decide

/-- a positive number's root, out of the rounds' end -/
theorem sqrt_pos {x mm q k : Nat} {e h : Int} (m0 p : Nat)
    (hr : double.read x = .number false m0 (-1074 + (p : Nat))) (hm : m0 ≠ 0) (hm2 : m0 < 9007199254740992) (hk : 4503599627370496 ≤ m0 * 2 ^ k ∧ m0 * 2 ^ k < 9007199254740992)
    (he : e = (p : Int) + 1 - k - 1023) (hh : h = e / 2) (hmm : mm = if e % 2 = 0 then m0 * 2 ^ k else m0 * 2 ^ k * 2) (hp : p ≤ 2046) (hk52 : k ≤ 52)
    (hq1 : q * q ≤ mm * 18014398509481984) (hq2 : mm * 18014398509481984 < (q + 1) * (q + 1)) :
    double.sqrt x = some ((h + 1022).toNat * 4503599627370496 + (q + q % 2) / 2) := by
  unfold Format.sqrt
  rw [hr]
  by_cases hp2 : e % 2 = 0
  · rw [if_pos hp2] at hmm
    exact root_write m0 mm p k 0 h q hm hm2 (by omega) (by omega) (by rw [hmm, Nat.pow_zero, Nat.mul_one]) (by omega) hq1 hq2 (by omega) (by omega)
  · rw [if_neg hp2] at hmm
    exact root_write m0 mm p (k + 1) 0 h q hm hm2 (by omega) (by omega) (by rw [hmm, Nat.pow_zero, Nat.mul_one, Nat.pow_succ, Nat.mul_assoc]) (by omega) hq1 hq2 (by omega) (by omega)
end FP
end Go.Proofs.Ytcioiilepjjfkaa
