/-
  The root of a positive number out of a whole root: plain facts on the format. Conditions: as each states.
-/
import Derived.Test.YtcjellbnildpfaaDoorF3
namespace Go.Proofs.YtcjellbnildpfaaDoor.FP
open Ieee

theorem rootFrom_spec (n : Nat) : ∀ (todo root : Nat), root * root ≤ n → n < (root + 2 ^ todo) * (root + 2 ^ todo) →
    Datum.rootFrom n todo root * Datum.rootFrom n todo root ≤ n ∧ n < (Datum.rootFrom n todo root + 1) * (Datum.rootFrom n todo root + 1) := by
  intro todo
  induction todo with
  | zero => intro root h1 h2; exact ⟨h1, by simpa [Datum.rootFrom] using h2⟩
  | succ d ih =>
    intro root h1 h2
    simp only [Datum.rootFrom, Nat.shiftLeft_eq, Nat.one_mul]
    split
    · rename_i h
      refine ih _ h ?_
      rw [show root + 2 ^ d + 2 ^ d = root + 2 ^ (d + 1) by rw [Nat.pow_succ]; omega]
      exact h2
    · exact ih _ h1 (by omega)

theorem isqrt_unique {n a b : Nat} (h1 : a * a ≤ n) (h2 : n < (a + 1) * (a + 1)) (h3 : b * b ≤ n) (h4 : n < (b + 1) * (b + 1)) : a = b := by
  have : a ≤ b := by
    apply Nat.le_of_not_lt; intro h
    have := Nat.mul_le_mul (show b + 1 ≤ a by omega) (show b + 1 ≤ a by omega)
    omega
  have : b ≤ a := by
    apply Nat.le_of_not_lt; intro h
    have := Nat.mul_le_mul (show a + 1 ≤ b by omega) (show a + 1 ≤ b by omega)
    omega
  omega

theorem whole_spec (n : Nat) : let w := Datum.rootFrom n (n.log2 / 2 + 1) 0; w * w ≤ n ∧ n < (w + 1) * (w + 1) := by
  refine rootFrom_spec n _ 0 (by simp) ?_
  rw [Nat.zero_add, ← Nat.pow_add]
  have := @Nat.lt_log2_self n
  exact Nat.lt_of_lt_of_le this (Nat.pow_le_pow_right (by omega) (by omega))

theorem isqrt_four {X q w : Nat} (h1 : q * q ≤ X) (h2 : X < (q + 1) * (q + 1)) (h3 : w * w ≤ 4 * X) (h4 : 4 * X < (w + 1) * (w + 1)) : w / 2 = q := by
  have e : w = 2 * (w / 2) + w % 2 := by omega
  have hb : w % 2 < 2 := Nat.mod_lt _ (by omega)
  generalize w / 2 = v at *
  generalize w % 2 = b at *
  subst e
  apply @isqrt_unique X v q ?_ ?_ h1 h2
  · have : (2 * v) * (2 * v) ≤ (2 * v + b) * (2 * v + b) := Nat.mul_le_mul (by omega) (by omega)
    have e2 : (2 * v) * (2 * v) = 4 * (v * v) := by rw [Nat.mul_mul_mul_comm]
    omega
  · have : (2 * v + b + 1) * (2 * v + b + 1) ≤ (2 * (v + 1)) * (2 * (v + 1)) := Nat.mul_le_mul (by omega) (by omega)
    have e2 : (2 * (v + 1)) * (2 * (v + 1)) = 4 * ((v + 1) * (v + 1)) := by rw [Nat.mul_mul_mul_comm]
    omega

theorem log2_of {n k : Nat} (h1 : 2 ^ k ≤ n) (h2 : n < 2 ^ (k + 1)) : n.log2 = k := by
  rw [Nat.log2_eq_iff (by have := Nat.two_pow_pos k; omega)]; exact ⟨h1, h2⟩

/-- THE ROOT OF A POSITIVE NUMBER: 'mm * 2 ^ (2 h - 52)' is the number, 'q' the whole root of 'mm * 2 ^ 54'. -/
theorem root_write (m mm : Nat) (p a b : Nat) (h : Int) (q : Nat) (hm : m ≠ 0) (hm2 : m < 9007199254740992)
    (hmm1 : 4503599627370496 ≤ mm) (hmm2 : mm < 18014398509481984) (he : m * 2 ^ a = mm * 2 ^ b) (hp : (p : Int) - 1074 + b = 2 * h - 52 + a)
    (hq1 : q * q ≤ mm * 18014398509481984) (hq2 : mm * 18014398509481984 < (q + 1) * (q + 1)) (hh : -600 ≤ h) (hh2 : h < 600) :
    ((Datum.number false m (-1074 + (p : Int))).root (double.fractionBits + 2)).map double.write = some ((h + 1022).toNat * 4503599627370496 + (q + q % 2) / 2) := by
  have hl : m.log2 ≤ 52 := by have := (Nat.log2_lt hm (k := 53)).2 (by omega); omega
  have hlm : m.log2 + a = mm.log2 + b := by rw [← log2_mul_pow _ _ hm, ← log2_mul_pow _ _ (by omega), he]
  have hmml : mm.log2 = 52 ∨ mm.log2 = 53 := by
    by_cases hx : mm < 9007199254740992
    · left; exact log2_of (by omega) (by omega)
    · right; exact log2_of (by omega) (by omega)
  simp only [Datum.root, d_fb]
  rw [if_neg hm, if_neg (by simp)]
  -- 'more'
  have hmore : ∃ mo : Nat, 2 * (52 + 2) - m.log2 + ((-1074 + (p : Int) - (2 * (52 + 2) - m.log2 : Nat)) % 2).toNat = mo ∧ (-1074 + (p : Int) - mo) % 2 = 0 ∧ (mo + m.log2 = 108 ∨ mo + m.log2 = 109) := ⟨_, rfl, by omega, by omega⟩
  obtain ⟨mo, hmo, hpar, hmol⟩ := hmore
  rw [hmo]
  -- m <<< mo = 4 * (mm * 2^54)
  have hn : m <<< mo = 4 * (mm * 18014398509481984) := by
    rw [Nat.shiftLeft_eq]
    have hx : m * 2 ^ mo * 2 ^ a = 4 * (mm * 18014398509481984) * 2 ^ a := by
      have e1 : m * 2 ^ mo * 2 ^ a = (m * 2 ^ a) * 2 ^ mo := by ac_rfl
      rw [e1, he, show (18014398509481984 : Nat) = 2 ^ 54 by decide, show (4 : Nat) = 2 ^ 2 by decide]
      have e2 : 2 ^ 2 * (mm * 2 ^ 54) * 2 ^ a = mm * (2 ^ 2 * 2 ^ 54 * 2 ^ a) := by ac_rfl
      rw [e2, Nat.mul_assoc, ← Nat.pow_add, ← Nat.pow_add, ← Nat.pow_add]
      congr 2
      omega
    exact Nat.eq_of_mul_eq_mul_right (Nat.two_pow_pos a) hx
  have hw := whole_spec (m <<< mo)
  simp only at hw
  generalize hW : Datum.rootFrom (m <<< mo) ((m <<< mo).log2 / 2 + 1) 0 = w at *
  rw [hn] at hw ⊢
  have hwq := isqrt_four hq1 hq2 hw.1 hw.2
  have hq53 : 9007199254740992 ≤ q := by
    apply Nat.le_of_not_lt; intro hx
    have := Nat.mul_le_mul (show q + 1 ≤ 9007199254740992 by omega) (show q + 1 ≤ 9007199254740992 by omega)
    omega
  have hq54 : q < 18014398509481984 := by
    apply Nat.lt_of_not_le; intro hx
    have := Nat.mul_le_mul hx hx
    omega
  have hplace : (-1074 + (p : Int) - mo) / 2 - 1 = h - 55 := by omega
  rw [hplace]
  simp only [Option.map_some, Format.write]
  -- the exact one is even
  have hodd : w * w = 4 * (mm * 18014398509481984) → q % 2 = 0 := by
    intro hx
    have hwe : w % 2 = 0 := by
      have : (w * w) % 2 = 0 := by rw [hx]; omega
      rw [Nat.mul_mod] at this
      have h2 : w % 2 < 2 := Nat.mod_lt _ (by omega)
      rcases (show w % 2 = 0 ∨ w % 2 = 1 by omega) with h0 | h0
      · exact h0
      · rw [h0] at this; simp at this
    have hw2 : w = 2 * q := by omega
    have hqq : q * q = mm * 18014398509481984 := by
      rw [hw2] at hx
      have : 2 * q * (2 * q) = 4 * (q * q) := by rw [Nat.mul_mul_mul_comm]
      omega
    have : (q * q) % 2 = 0 := by rw [hqq]; omega
    rw [Nat.mul_mod] at this
    have h2 : q % 2 < 2 := Nat.mod_lt _ (by omega)
    rcases (show q % 2 = 0 ∨ q % 2 = 1 by omega) with h0 | h0
    · exact h0
    · rw [h0] at this; simp at this
  have hst : ∃ st : Nat, (w * w != 4 * (mm * 18014398509481984)).toNat = st ∧ st ≤ 1 ∧ (st = 0 → q % 2 = 0) := by
    by_cases hx : w * w = 4 * (mm * 18014398509481984)
    · exact ⟨0, by simp [hx], by omega, fun _ => hodd hx⟩
    · exact ⟨1, by simp [hx], by omega, fun h => by omega⟩
  obtain ⟨st, hst1, hst2, hst3⟩ := hst
  rw [hst1]
  clear hw hst1 hodd hn hW hmo
  unfold Format.nearest
  rw [if_neg (by omega)]
  have hlog : (2 * w + st).log2 = 55 := log2_of (by omega) (by omega)
  have hlast : max (h - 55 + ((2 * w + st).log2 : Int) - double.fractionBits) double.leastPlace = h - 52 := by
    rw [hlog, d_fb, d_least]; omega
  simp only [hlast]
  have hcut : Toward.even.cut false ((2 * w + st) <<< (h - 55 - (h - 52)).toNat) (h - 52 - (h - 55)).toNat = (q + q % 2) / 2 := by
    rw [show (h - 55 - (h - 52)).toNat = 0 by omega, show (h - 52 - (h - 55)).toNat = 3 by omega]
    simp only [Nat.shiftLeft_zero]
    unfold Toward.cut
    simp only [hlog]
    rw [show (1 <<< min 3 (55 + 2) : Nat) = 8 by decide]
    have hb : (decide (8 < 2 * ((2 * w + st) % 8)) || (8 == 2 * ((2 * w + st) % 8) && (2 * w + st) / 8 % 2 == 1)) = decide (q % 2 = 1) := by
      rw [Bool.eq_iff_iff]; simp; omega
    rw [hb]
    by_cases hx : q % 2 = 1
    · simp [hx]; omega
    · simp [hx]; omega
  rw [hcut, d_least, d_bin, d_inf, show (h - 52 - -1074).toNat = (h + 1022).toNat by omega, Nat.min_eq_left (by omega), word_false]

end Go.Proofs.YtcjellbnildpfaaDoor.FP
