/-
  A float as a whole number, and back: plain facts on the format. Conditions: as each states.
-/
import Derived.Test.YtcjellbnildpfaaDoorF4
namespace Go.Proofs.YtcjellbnildpfaaDoor.FP
open Ieee

theorem cut_trunc (s : Bool) (n d : Nat) : Toward.zero.cut s n d = n / 2 ^ d := by
  unfold Toward.cut
  simp only [Nat.shiftLeft_eq, Nat.one_mul, Bool.toNat_false, Nat.add_zero]
  by_cases h : d ≤ n.log2 + 2
  · rw [Nat.min_eq_left h]
  · rw [Nat.min_eq_right (by omega)]
    have h1 : n < 2 ^ (n.log2 + 2) := Nat.lt_of_lt_of_le Nat.lt_log2_self (Nat.pow_le_pow_right (by omega) (by omega))
    have h2 : n < 2 ^ d := Nat.lt_of_lt_of_le h1 (Nat.pow_le_pow_right (by omega) (by omega))
    rw [Nat.div_eq_of_lt h1, Nat.div_eq_of_lt h2]

theorem toInt_fin {x : Nat} (hx : x < 18446744073709551616) (h : rung x < 9218868437227405312) :
    (double.read x).toInt .zero = some (if neg x then -((val (rung x) / pw 1074 : Nat) : Int) else ((val (rung x) / pw 1074 : Nat) : Int)) := by
  obtain ⟨m, p, e, hv, hm⟩ := read_fin x hx h
  rw [e]
  simp only [Datum.toInt, Datum.integral, cut_trunc, signed_val, Nat.pow_zero, Nat.mul_one, Nat.shiftLeft_eq]
  have : m * 2 ^ (-1074 + (p : Int)).toNat / 2 ^ (-(-1074 + (p : Int))).toNat = val (rung x) / pw 1074 := by
    rw [← hv]
    by_cases hp : p ≤ 1074
    · rw [show (-1074 + (p : Int)).toNat = 0 by omega, show (-(-1074 + (p : Int))).toNat = 1074 - p by omega, Nat.pow_zero, Nat.mul_one]
      have : pw 1074 = pw (1074 - p) * pw p := by rw [← pw_add, Nat.sub_add_cancel hp]
      rw [this, pw_def, pw_def, Nat.mul_div_mul_right _ _ (pw_pos p)]
    · rw [show (-(-1074 + (p : Int))).toNat = 0 by omega, show (-1074 + (p : Int)).toNat = p - 1074 by omega, Nat.pow_zero, Nat.div_one]
      have : 2 ^ p = 2 ^ (p - 1074) * pw 1074 := by rw [pw_def, pw_def, ← pw_add]; congr 1; omega
      rw [this, ← Nat.mul_assoc, Nat.mul_div_cancel _ (pw_pos 1074)]
  rw [this]

theorem val_at (q f : Nat) (hq : 1 ≤ q) (hf : f < 4503599627370496) : val (q * 4503599627370496 + f) = (4503599627370496 + f) * pw (q - 1) := by
  unfold val
  rw [if_neg (by omega), pw_def, show (q * 4503599627370496 + f) % 4503599627370496 = f by omega, show (q * 4503599627370496 + f) / 4503599627370496 = q by omega]

theorem val_int31 : val 4746794007248502784 = 2147483648 * pw 1074 := by
  have h := val_at 1054 0 (by omega) (by omega)
  have e : pw 1074 = pw 1053 * pw 21 := pw_add 1053 21
  have : pw 21 = 2097152 := by rw [← pw_def]
  rw [e, this]
  simp only [Nat.add_zero, Nat.reduceMul, Nat.reduceSub] at h
  rw [h]
  generalize pw 1053 = B
  omega

/-- between the two ends: the whole number is one of 32 bits -/
theorem toInt_small {x : Nat} (hx : x < 18446744073709551616) (h : rung x < 4746794007248502784) :
    ∃ n, (double.read x).toInt .zero = some n ∧ -2147483648 < n ∧ n < 2147483648 := by
  refine ⟨_, toInt_fin hx (by omega), ?_⟩
  have h1 : val (rung x) < 2147483648 * pw 1074 := by rw [← val_int31]; exact val_lt h
  have h2 : val (rung x) / pw 1074 < 2147483648 := (Nat.div_lt_iff_lt_mul (pw_pos 1074)).2 h1
  generalize val (rung x) / pw 1074 = v at *
  split <;> omega

theorem sval_lt_iff {x y : Nat} : sval x < sval y ↔ (neg x = false ∧ neg y = false ∧ rung x < rung y) ∨ (neg x = true ∧ neg y = true ∧ rung y < rung x) ∨ (neg x = true ∧ neg y = false ∧ ¬ (rung x = 0 ∧ rung y = 0)) := by
  have h1 := @val_lt_iff (rung x) (rung y); have h2 := @val_lt_iff (rung y) (rung x)
  have z1 := @val_zero_iff (rung x); have z2 := @val_zero_iff (rung y)
  unfold sval
  cases neg x <;> cases neg y <;> simp <;> omega

theorem sval_eq_iff {x y : Nat} (hx : x < 18446744073709551616) (hy : y < 18446744073709551616) : sval x = sval y ↔ x = y ∨ (rung x = 0 ∧ rung y = 0) := by
  have h1 := @val_eq_iff (rung x) (rung y)
  have z1 := @val_zero_iff (rung x); have z2 := @val_zero_iff (rung y)
  have e : x = y ↔ neg x = neg y ∧ rung x = rung y := by
    constructor
    · rintro rfl; exact ⟨rfl, rfl⟩
    · rintro ⟨a, b⟩; rw [← word_self x hx, ← word_self y hy, a, b]
  rw [e]
  unfold sval
  cases neg x <;> cases neg y <;> simp <;> omega

theorem mul_nat (c : Nat) (hc : c < 16777216) : double.mul (double.nearest false c 0) (double.nearest false c 0) = some (double.nearest false (c * c) 0) := by
  have hcc : c * c < 281474976710656 := by
    have := Nat.mul_le_mul (show c ≤ 16777215 by omega) (show c ≤ 16777215 by omega); omega
  obtain ⟨r, hr, hv, hw⟩ := nat_word c (by omega)
  obtain ⟨r2, hr2, hv2, hw2⟩ := nat_word (c * c) (by omega)
  rw [hw, hw2]
  have hrr : rung r = r := by unfold rung; omega
  obtain ⟨m, p, e, hm, hm2⟩ := read_fin r (by omega) (by omega)
  rw [hrr, hv] at hm
  unfold Format.mul
  rw [e]
  simp only [Datum.product, Option.map_some, Format.write, Bool.xor_self]
  rw [nearest_exact' false _ _ r2 (p + p) 1074 ?_ (by omega) (by omega), word_false]
  rw [hv2, pw_add]
  rw [pw_def] at hm
  generalize pw 1074 = B at hm ⊢
  have : m * m * (pw p * pw p) = (m * pw p) * (m * pw p) := by ac_rfl
  rw [this, hm]
  ac_rfl

theorem sqrt_nat (c : Nat) (hc : c < 16777216) : double.sqrt (double.nearest false (c * c) 0) = some (double.nearest false c 0) := by
  have hcc : c * c < 281474976710656 := by
    have := Nat.mul_le_mul (show c ≤ 16777215 by omega) (show c ≤ 16777215 by omega); omega
  obtain ⟨r, hr, hv, hw⟩ := nat_word c (by omega)
  obtain ⟨r2, hr2, hv2, hw2⟩ := nat_word (c * c) (by omega)
  rw [hw, hw2]
  have hrr : rung r2 = r2 := by unfold rung; omega
  have hnr : neg r2 = false := by unfold neg; simp; omega
  obtain ⟨m, p, e, hm, hm2⟩ := read_fin r2 (by omega) (by omega)
  rw [hrr, hv2, pw_def] at hm
  rw [hnr] at e
  unfold Format.sqrt
  rw [e]
  simp only [Datum.root, d_fb]
  by_cases hm0 : m = 0
  · rw [if_pos hm0]
    have hc0 : c * c = 0 := by
      rw [hm0, Nat.zero_mul] at hm
      rcases Nat.mul_eq_zero.1 hm.symm with h | h
      · exact h
      · have := pw_pos 1074; omega
    have hc1 : c = 0 := by rcases Nat.mul_eq_zero.1 hc0 with h | h <;> exact h
    have hr0 : r = 0 := val_zero_iff.1 (by rw [hv, hc1, Nat.zero_mul])
    rw [hr0, hm0]
    simp only [Option.map_some, Format.write]
    rw [nearest_exact' false 0 _ 0 p 0 (by rw [val_zero, Nat.zero_mul, Nat.zero_mul]) (by omega) (by omega), word_false]
  · rw [if_neg hm0, if_neg (by simp)]
    have hl : m.log2 ≤ 52 := by have := (Nat.log2_lt hm0 (k := 53)).2 (by omega); omega
    have hc0 : c ≠ 0 := by
      intro h0
      rw [h0, Nat.zero_mul] at hm
      exact absurd hm (Nat.mul_ne_zero hm0 (by have := pw_pos p; omega))
    have hcc0 : c * c ≠ 0 := Nat.mul_ne_zero hc0 hc0
    have hlm : m.log2 + p = (c * c).log2 + 1074 := by
      rw [← log2_mul_pw _ _ hm0, ← log2_mul_pw _ _ hcc0, hm]
    have hcl : (c * c).log2 < 48 := (Nat.log2_lt hcc0).2 (by omega)
    have hmore : ∃ mo : Nat, 2 * (52 + 2) - m.log2 + ((-1074 + (p : Int) - (2 * (52 + 2) - m.log2 : Nat)) % 2).toNat = mo ∧ (-1074 + (p : Int) - mo) % 2 = 0 ∧ (mo + m.log2 = 108 ∨ mo + m.log2 = 109) := ⟨_, rfl, by omega, by omega⟩
    obtain ⟨mo, hmo, hpar, hmol⟩ := hmore
    rw [hmo]
    obtain ⟨t, ht⟩ : ∃ t : Nat, mo + 1074 = p + 2 * t := ⟨(mo + 1074 - p) / 2, by omega⟩
    have hn : m <<< mo = (c * pw t) * (c * pw t) := by
      rw [Nat.shiftLeft_eq, pw_def]
      have hx : m * pw mo * pw p = (c * pw t) * (c * pw t) * pw p := by
        have e1 : m * pw mo * pw p = (m * pw p) * pw mo := by ac_rfl
        rw [e1, hm]
        have e2 : c * pw t * (c * pw t) * pw p = (c * c) * (pw p * (pw t * pw t)) := by ac_rfl
        rw [e2, Nat.mul_assoc, ← pw_add, ← pw_add, ← pw_add]
        congr 2; omega
      exact Nat.eq_of_mul_eq_mul_right (pw_pos p) hx
    have hws := whole_spec (m <<< mo)
    simp only at hws
    generalize hW : Datum.rootFrom (m <<< mo) ((m <<< mo).log2 / 2 + 1) 0 = w at *
    rw [hn] at hws ⊢
    have hwe : w = c * pw t := isqrt_unique hws.1 hws.2 (Nat.le_refl _) (by
      have := Nat.mul_le_mul (show c * pw t ≤ c * pw t + 1 by omega) (show c * pw t ≤ c * pw t + 1 by omega)
      have h3 : (c * pw t + 1) * (c * pw t + 1) = c * pw t * (c * pw t) + c * pw t + c * pw t + 1 := by
        rw [Nat.add_mul, Nat.mul_add]; omega
      omega)
    rw [hwe]
    simp only [Option.map_some, Format.write, bne_self_eq_false, Bool.toNat_false, Nat.add_zero]
    rw [nearest_exact' false _ _ r 1074 (t + 1) ?_ (by omega) (by omega), word_false]
    rw [hv, pw_succ t]
    generalize pw 1074 = B
    ac_rfl

/-- a whole number of 32 bits comes back -/
theorem int_back (i : Int) (h1 : -2147483648 ≤ i) (h2 : i < 2147483648) :
    let x := double.write (.number (decide (i < 0)) i.natAbs 0)
    x < 18446744073709551616 ∧ rung x < 9218868437227405312 ∧ (double.read x).toInt .zero = some i ∧ val (rung x) = i.natAbs * pw 1074 ∧ neg x = decide (i < 0) := by
  obtain ⟨r, hr, hv, hw⟩ := nat_word i.natAbs (by omega)
  have hx : double.write (.number (decide (i < 0)) i.natAbs 0) = double.word (decide (i < 0)) r := by
    simp only [Format.write]
    rw [nearest_exact' _ _ _ r 1074 0 (by rw [hv, pw_zero, Nat.mul_one]) (by omega) (by omega)]
  simp only [hx]
  have hlt := word_lt (decide (i < 0)) r (by omega)
  have hrg := rung_word (decide (i < 0)) r (by omega)
  have hng := neg_word (decide (i < 0)) r (by omega)
  refine ⟨hlt, by rw [hrg]; omega, ?_, by rw [hrg, hv], hng⟩
  rw [toInt_fin hlt (by rw [hrg]; omega), hrg, hng, hv, Nat.mul_div_cancel _ (pw_pos 1074)]
  by_cases h : i < 0
  · simp [h]; omega
  · simp [h]; omega
end Go.Proofs.YtcjellbnildpfaaDoor.FP
