/-
  What the format has is written as it is; what an operation writes is no NaN: plain facts on the format. Conditions: as each states.
-/
import Derived.Test.YtcjellbnildpfaaDoorF1
namespace Go.Proofs.YtcjellbnildpfaaDoor.FP
open Ieee

theorem cut_zero (s : Bool) (n : Nat) : Toward.even.cut s n 0 = n := by
  simp [Toward.cut, Nat.mod_one]

theorem log2_mul_pow (k d : Nat) (hk : k ≠ 0) : (k * 2 ^ d).log2 = k.log2 + d := by
  have hp : 0 < 2 ^ d := Nat.two_pow_pos d
  have hne : k * 2 ^ d ≠ 0 := Nat.mul_ne_zero hk (by omega)
  rw [Nat.log2_eq_iff hne]
  have h1 := Nat.log2_self_le hk
  have h2 := @Nat.lt_log2_self k
  constructor
  · rw [Nat.pow_add]; exact Nat.mul_le_mul_right _ h1
  · rw [show k.log2 + d + 1 = (k.log2 + 1) + d by omega, Nat.pow_add]
    exact Nat.mul_lt_mul_of_pos_right h2 hp

theorem cut_exact (s : Bool) (k d : Nat) (hk : k ≠ 0) : Toward.even.cut s (k * 2 ^ d) d = k := by
  have hl := log2_mul_pow k d hk
  have hp : 0 < 2 ^ d := Nat.two_pow_pos d
  unfold Toward.cut
  simp only [hl, show min d (k.log2 + d + 2) = d by omega, Nat.shiftLeft_eq, Nat.one_mul]
  rw [Nat.mul_div_cancel _ hp, Nat.mul_mod_left]
  simp

/-- V = val r: its first digit's place, and what stands from there on -/
theorem val_parts (r : Nat) (hr : r ≠ 0) : ∃ K L, val r = K * 2 ^ L ∧ K ≠ 0 ∧ L * 4503599627370496 + K = r ∧ L = (val r).log2 - 52 := by
  by_cases h : r < 9007199254740992
  · have hv : val r = r := by
      unfold val
      by_cases h1 : r < 4503599627370496
      · rw [if_pos h1]
      · rw [if_neg h1]
        have : r / 4503599627370496 = 1 := by omega
        rw [this]; simp; omega
    refine ⟨r, 0, by simp [hv], hr, by omega, ?_⟩
    rw [hv]
    have : r.log2 < 53 := (Nat.log2_lt hr).2 (by omega)
    omega
  · have hv : val r = (4503599627370496 + r % 4503599627370496) * 2 ^ (r / 4503599627370496 - 1) := by
      unfold val; rw [if_neg (by omega)]
    refine ⟨4503599627370496 + r % 4503599627370496, r / 4503599627370496 - 1, hv, by omega, by omega, ?_⟩
    rw [hv, log2_mul_pow _ _ (by omega)]
    have : (4503599627370496 + r % 4503599627370496).log2 = 52 := by
      rw [Nat.log2_eq_iff (by omega)]
      constructor <;> omega
    omega

theorem val_ne {r : Nat} (hr : r ≠ 0) : val r ≠ 0 := by
  have := val_lt (show 0 < r by omega); rw [val_zero] at this; omega

theorem word_def (s : Bool) (r : Nat) : double.word s r = if s then 9223372036854775808 + r else r := by
  unfold Format.word; rw [d_sw]

/-- A NUMBER THAT THE FORMAT HAS IS WRITTEN AS IT IS. -/
theorem nearest_exact (s : Bool) (m : Nat) (p : Int) (r a b : Nat) (h : m * 2 ^ a = val r * 2 ^ b) (hp : p + 1074 = (a : Int) - b) (hr : r ≤ 9218868437227405312) :
    double.nearest s m p = double.word s r := by
  unfold Format.nearest
  by_cases hm : m = 0
  · rw [if_pos hm]
    subst hm
    have : r = 0 := by
      rw [Nat.zero_mul] at h
      by_cases h0 : r = 0
      · exact h0
      · exact absurd h.symm (Nat.mul_ne_zero (val_ne h0) (by have := Nat.two_pow_pos b; omega))
    rw [this]
  · rw [if_neg hm]
    have h0 : r ≠ 0 := by
      rintro rfl
      rw [val_zero, Nat.zero_mul] at h
      exact absurd h (Nat.mul_ne_zero hm (by have := Nat.two_pow_pos a; omega))
    obtain ⟨K, L, hv, hK, hKL, hL⟩ := val_parts r h0
    have hlog : m.log2 + a = (val r).log2 + b := by
      rw [← log2_mul_pow _ _ hm, ← log2_mul_pow _ _ (val_ne h0), h]
    have hlast : max (p + m.log2 - double.fractionBits) double.leastPlace = (L : Int) - 1074 := by
      rw [d_fb, d_least]; omega
    simp only [hlast]
    have hkept : Toward.even.cut s (m <<< (p - ((L : Int) - 1074)).toNat) ((L : Int) - 1074 - p).toNat = K := by
      rw [Nat.shiftLeft_eq]
      by_cases hd : (L : Int) - 1074 ≤ p
      · rw [show ((L : Int) - 1074 - p).toNat = 0 by omega, cut_zero]
        -- m * 2^(a-b-L) = K
        have e : (p - ((L : Int) - 1074)).toNat = a - (b + L) := by omega
        rw [e]
        have e2 : a = (a - (b + L)) + (b + L) := by omega
        rw [hv, e2, Nat.pow_add, ← Nat.mul_assoc, Nat.mul_assoc K, ← Nat.pow_add, Nat.add_comm L b] at h
        exact Nat.eq_of_mul_eq_mul_right (Nat.two_pow_pos (b + L)) h
      · rw [show (p - ((L : Int) - 1074)).toNat = 0 by omega, Nat.pow_zero, Nat.mul_one]
        have e : ((L : Int) - 1074 - p).toNat = (b + L) - a := by omega
        rw [e]
        have : m = K * 2 ^ ((b + L) - a) := by
          rw [hv, Nat.mul_assoc, ← Nat.pow_add, show L + b = ((b + L) - a) + a by omega, Nat.pow_add, ← Nat.mul_assoc] at h
          exact Nat.eq_of_mul_eq_mul_right (Nat.two_pow_pos a) h
        rw [this, cut_exact _ _ _ hK]
    rw [hkept, d_least, d_bin, d_inf, show ((L : Int) - 1074 - -1074).toNat = L by omega, hKL, Nat.min_eq_left hr]

theorem val_repr (e : Nat) : ∀ c, c < 9007199254740992 → e ≤ 2045 → ∃ r, r < 9218868437227405312 ∧ val r = c * 2 ^ e := by
  induction e with
  | zero =>
    intro c hc _
    refine ⟨c, by omega, ?_⟩
    unfold val
    by_cases h1 : c < 4503599627370496
    · rw [if_pos h1]; simp
    · rw [if_neg h1]
      have : c / 4503599627370496 = 1 := by omega
      rw [this]; simp; omega
  | succ e ih =>
    intro c hc he
    by_cases h1 : c < 4503599627370496
    · obtain ⟨r, hr, hv⟩ := ih (2 * c) (by omega) (by omega)
      exact ⟨r, hr, by rw [hv, Nat.pow_succ]; ac_rfl⟩
    · refine ⟨(e + 2) * 4503599627370496 + (c - 4503599627370496), by omega, ?_⟩
      unfold val
      rw [if_neg (by omega)]
      rw [show ((e + 2) * 4503599627370496 + (c - 4503599627370496)) / 4503599627370496 = e + 2 by omega,
        show ((e + 2) * 4503599627370496 + (c - 4503599627370496)) % 4503599627370496 = c - 4503599627370496 by omega,
        show 4503599627370496 + (c - 4503599627370496) = c by omega]
      rfl

theorem neg_word (s : Bool) (r : Nat) (h : r < 9223372036854775808) : neg (double.word s r) = s := by
  rw [word_def]; unfold neg; cases s <;> simp; omega

theorem rung_word (s : Bool) (r : Nat) (h : r < 9223372036854775808) : rung (double.word s r) = r := by
  rw [word_def]; unfold rung; cases s <;> simp <;> omega

theorem word_lt (s : Bool) (r : Nat) (h : r < 9223372036854775808) : double.word s r < 18446744073709551616 := by
  rw [word_def]; split <;> omega

theorem word_self (x : Nat) (h : x < 18446744073709551616) : double.word (neg x) (rung x) = x := by
  rw [word_def]; unfold neg rung
  by_cases h1 : 9223372036854775808 ≤ x
  · simp [h1]; omega
  · simp [h1]; omega

/-- what an operation writes is no NaN -/
theorem nearest_not_nan (s : Bool) (m : Nat) (p : Int) : isNaN (double.nearest s m p) = false ∧ double.nearest s m p < 18446744073709551616 := by
  have : ∃ r, r ≤ 9218868437227405312 ∧ double.nearest s m p = double.word s r := by
    unfold Format.nearest
    split
    · exact ⟨0, by omega, rfl⟩
    · refine ⟨_, ?_, rfl⟩
      rw [d_inf]; exact Nat.min_le_right _ _
  obtain ⟨r, hr, h⟩ := this
  rw [h]
  exact ⟨by unfold isNaN; rw [rung_word _ _ (by omega)]; simp; omega, word_lt _ _ (by omega)⟩

theorem write_not_nan (d : Datum) (h : d.isNaN = false) : isNaN (double.write d) = false ∧ double.write d < 18446744073709551616 := by
  cases d with
  | number s m p => exact nearest_not_nan s m p
  | infinity s =>
    unfold Format.write
    rw [d_inf]
    exact ⟨by unfold isNaN; rw [rung_word _ _ (by omega)]; simp, word_lt _ _ (by omega)⟩
  | nan s t => simp [Datum.isNaN] at h

theorem sum_not_nan {a b d : Datum} (h : a.sum b = some d) : d.isNaN = false := by
  unfold Datum.sum at h
  split at h <;> try (cases h; done)
  · split at h
    · cases h; rfl
    · cases h
  · cases h; rfl
  · cases h; rfl
  · cases h; rfl

theorem product_not_nan {a b d : Datum} (h : a.product b = some d) : d.isNaN = false := by
  unfold Datum.product at h
  split at h <;> try (cases h; done)
  · cases h; rfl
  · split at h
    · cases h
    · cases h; rfl
  · split at h
    · cases h
    · cases h; rfl
  · cases h; rfl

theorem quotient_not_nan {k : Nat} {a b d : Datum} (h : a.quotient k b = some d) : d.isNaN = false := by
  unfold Datum.quotient at h
  split at h <;> try (cases h; done)
  · cases h; rfl
  · cases h; rfl
  · split at h
    · split at h
      · cases h
      · cases h; rfl
    · cases h; rfl

theorem root_not_nan {k : Nat} {a d : Datum} (h : a.root k = some d) : d.isNaN = false := by
  unfold Datum.root at h
  split at h <;> try (cases h; done)
  · split at h
    · cases h
    · cases h; rfl
  · split at h
    · cases h; rfl
    · split at h
      · cases h
      · cases h; rfl

theorem map_write {o : Option Datum} {r : Nat} (hn : ∀ d, o = some d → d.isNaN = false) (h : o.map double.write = some r) : isNaN r = false ∧ r < 18446744073709551616 := by
  cases o with
  | none => cases h
  | some d => cases h; exact write_not_nan d (hn d rfl)

theorem add_ok {x y r : Nat} (h : double.add x y = some r) : isNaN r = false ∧ r < 18446744073709551616 := map_write (fun _ => sum_not_nan) h
theorem sub_ok {x y r : Nat} (h : double.sub x y = some r) : isNaN r = false ∧ r < 18446744073709551616 := map_write (fun _ => sum_not_nan) h
theorem mul_ok {x y r : Nat} (h : double.mul x y = some r) : isNaN r = false ∧ r < 18446744073709551616 := map_write (fun _ => product_not_nan) h
theorem div_ok {x y r : Nat} (h : double.div x y = some r) : isNaN r = false ∧ r < 18446744073709551616 := map_write (fun _ => quotient_not_nan) h
theorem sqrt_ok {x r : Nat} (h : double.sqrt x = some r) : isNaN r = false ∧ r < 18446744073709551616 := map_write (fun _ => root_not_nan) h
end Go.Proofs.YtcjellbnildpfaaDoor.FP
