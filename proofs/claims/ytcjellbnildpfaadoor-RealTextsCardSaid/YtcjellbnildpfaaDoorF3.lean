/-
  Sums and products do not see the order of the two; halves, noughts and ones: plain facts on the format. Conditions: as each states.
-/
import Derived.Test.YtcjellbnildpfaaDoorF2
namespace Go.Proofs.YtcjellbnildpfaaDoor.FP
open Ieee

theorem sum_comm (a b : Datum) : a.sum b = b.sum a := by
  cases a <;> cases b <;> simp only [Datum.sum]
  · rename_i s m i t n j
    rw [Int.min_comm j i, Int.add_comm, Bool.and_comm]
  · rename_i s t
    by_cases h : s = t
    · subst h; rfl
    · rw [if_neg h, if_neg (fun e => h e.symm)]

theorem product_comm (a b : Datum) : a.product b = b.product a := by
  cases a <;> cases b <;> simp only [Datum.product]
  · rename_i s m i t n j
    rw [Nat.mul_comm, Int.add_comm, Bool.xor_comm]
  · rename_i s t
    rw [Bool.xor_comm]

theorem add_comm (x y : Nat) : double.add x y = double.add y x := by unfold Format.add; rw [sum_comm]
theorem mul_comm (x y : Nat) : double.mul x y = double.mul y x := by unfold Format.mul; rw [product_comm]

def flip (y : Nat) : Nat := if y < 9223372036854775808 then y + 9223372036854775808 else y - 9223372036854775808

theorem neg_flip {y : Nat} (hy : y < 18446744073709551616) : neg (flip y) = !neg y := by
  unfold neg flip
  by_cases h : y < 9223372036854775808
  · rw [if_pos h]
    have : ¬ 9223372036854775808 ≤ y := by omega
    simp [this]
  · rw [if_neg h]
    have h1 : 9223372036854775808 ≤ y := by omega
    have h2 : ¬ 9223372036854775808 ≤ y - 9223372036854775808 := by omega
    simp [h1, h2]

theorem rung_flip {y : Nat} (hy : y < 18446744073709551616) : rung (flip y) = rung y := by
  unfold rung flip
  split <;> omega

theorem flip_lt {y : Nat} (hy : y < 18446744073709551616) : flip y < 18446744073709551616 := by
  unfold flip; split <;> omega

theorem read_flip {y : Nat} (hy : y < 18446744073709551616) : (double.read (flip y)).opposite = double.read y := by
  rw [read_eq _ (flip_lt hy), read_eq _ hy, neg_flip hy, rung_flip hy]
  split
  · simp [Datum.opposite]
  · split
    · simp [Datum.opposite]
    · split <;> simp [Datum.opposite]

theorem sub_flip {x y : Nat} (hy : y < 18446744073709551616) : double.sub x (flip y) = double.add x y := by
  unfold Format.sub Format.add; rw [read_flip hy]

theorem val_zero_iff {r : Nat} : val r = 0 ↔ r = 0 := ⟨fun h => by by_cases e : r = 0; exact e; exact absurd h (val_ne e), fun h => by rw [h]; rfl⟩

/-- a float that is written as it is -/
theorem write_fin {x m p : Nat} {s : Bool} (h : m * 2 ^ p = val (rung x)) (hr : rung x ≤ 9218868437227405312) :
    double.nearest s m (-1074 + (p : Int)) = double.word s (rung x) :=
  nearest_exact s m _ (rung x) p 0 (by rw [h]; simp) (by omega) hr

theorem sub_self {x : Nat} (hx : x < 18446744073709551616) (h : rung x < 9218868437227405312) : double.sub x x = some 0 := by
  obtain ⟨m, p, e, hv, _⟩ := read_fin x hx h
  unfold Format.sub
  rw [e]
  simp only [Datum.opposite, Datum.sum]
  have : signed (neg x) m (-1074 + (p : Int) - min (-1074 + (p : Int)) (-1074 + (p : Int))).toNat + signed (!neg x) m (-1074 + (p : Int) - min (-1074 + (p : Int)) (-1074 + (p : Int))).toNat = 0 := by
    rw [signed_val, signed_val]; cases neg x <;> simp <;> omega
  rw [this]
  simp [Format.write, Format.nearest, word_def]

theorem one_read : double.read 4607182418800017408 = .number false 4503599627370496 (-52) := by decide
theorem two_read : double.read 4611686018427387904 = .number false 4503599627370496 (-51) := by decide
theorem zero_read : double.read 0 = .number false 0 (-1074) := by decide

theorem quo_pow (s : Bool) (m : Nat) (i : Int) (j : Int) (hm : m < 9007199254740992) :
    ∃ c : Nat, Datum.quotient (double.fractionBits + 2) (.number s m i) (.number false 4503599627370496 j) =
      some (.number s (m * 2 ^ (3 + c)) (i - j - 55 - (c : Int))) := by
  have hl : m.log2 ≤ 52 := by
    by_cases h0 : m = 0
    · subst h0; simp
    · have := (Nat.log2_lt h0 (k := 53)).2 (by omega); omega
  refine ⟨52 - m.log2, ?_⟩
  simp only [Datum.quotient, d_fb]
  rw [if_neg (by decide)]
  have h2 : (4503599627370496 : Nat).log2 = 52 := by decide
  rw [h2, Nat.shiftLeft_eq]
  have e : 52 + 2 + 52 - m.log2 = 54 + (52 - m.log2) := by omega
  rw [e]
  have hd : m * 2 ^ (54 + (52 - m.log2)) = (m * 2 ^ (2 + (52 - m.log2))) * 4503599627370496 := by
    rw [show (4503599627370496 : Nat) = 2 ^ 52 by decide, Nat.mul_assoc, ← Nat.pow_add]; congr 2; omega
  rw [hd, Nat.mul_div_cancel _ (by decide), Nat.mul_mod_left]
  have e3 : 2 * (m * 2 ^ (2 + (52 - m.log2))) = m * 2 ^ (3 + (52 - m.log2)) := by
    rw [show 3 + (52 - m.log2) = (2 + (52 - m.log2)) + 1 by omega, Nat.pow_succ]
    ac_rfl
  have e4 : i - j - ((54 + (52 - m.log2) : Nat) : Int) - 1 = i - j - 55 - ((52 - m.log2 : Nat) : Int) := by omega
  rw [e3, e4]
  simp

theorem div_one {x : Nat} (hx : x < 18446744073709551616) (h : rung x < 9218868437227405312) : double.div x 4607182418800017408 = some x := by
  obtain ⟨m, p, e, hv, hm⟩ := read_fin x hx h
  unfold Format.div
  rw [e, one_read]
  obtain ⟨c, hc⟩ := quo_pow (neg x) m (-1074 + (p : Int)) (-52) hm
  rw [hc]
  simp only [Option.map_some, Format.write]
  rw [nearest_exact (neg x) _ _ (rung x) p (3 + c) ?_ (by omega) (by omega), word_self x hx]
  rw [← hv]; ac_rfl

theorem mul_zero {x : Nat} (hx : x < 18446744073709551616) (h : rung x < 9218868437227405312) : double.mul x 0 = some (double.word (neg x) 0) := by
  obtain ⟨m, p, e, hv, hm⟩ := read_fin x hx h
  unfold Format.mul
  rw [e, zero_read]
  simp [Datum.product, Format.write, Format.nearest]

theorem add_zero {x : Nat} (hx : x < 18446744073709551616) (h : rung x < 9218868437227405312) :
    double.add x 0 = some (if rung x = 0 then 0 else x) := by
  obtain ⟨m, p, e, hv, hm⟩ := read_fin x hx h
  unfold Format.add
  rw [e, zero_read]
  simp only [Datum.sum]
  have e1 : (-1074 + (p : Int) - min (-1074 + (p : Int)) (-1074)).toNat = p := by omega
  have e2 : min (-1074 + (p : Int)) (-1074) = -1074 := by omega
  rw [e1, e2]
  have e3 : signed false 0 ((-1074 : Int) - -1074).toNat = 0 := by simp [signed]
  rw [e3, Int.add_zero, signed_val, hv]
  simp only [Option.map_some, Format.write]
  by_cases h0 : rung x = 0
  · rw [if_pos h0, h0, val_zero]
    simp [Format.nearest, word_def]
  · rw [if_neg h0]
    have hne := val_ne h0
    have t1 : (if neg x = true then -((val (rung x) : Nat) : Int) else ((val (rung x) : Nat) : Int)) ≠ 0 := by
      split <;> omega
    rw [if_neg t1]
    have t2 : (decide ((if neg x = true then -((val (rung x) : Nat) : Int) else ((val (rung x) : Nat) : Int)) < 0)) = neg x := by
      cases neg x <;> simp <;> omega
    have t3 : (if neg x = true then -((val (rung x) : Nat) : Int) else ((val (rung x) : Nat) : Int)).natAbs = val (rung x) := by
      split <;> omega
    rw [t2, t3, nearest_exact (neg x) _ _ (rung x) 0 0 (by simp) (by omega) (by omega), word_self x hx]

/-- a power of two, behind a name -/
@[irreducible] def pw (n : Nat) : Nat := 2 ^ n
theorem pw_def (n : Nat) : 2 ^ n = pw n := by unfold pw; rfl
theorem pw_succ (n : Nat) : pw (n + 1) = pw n * 2 := by rw [← pw_def, ← pw_def, Nat.pow_succ]
theorem pw_zero : pw 0 = 1 := by rw [← pw_def]
theorem pw_pos (n : Nat) : 0 < pw n := by rw [← pw_def]; exact Nat.two_pow_pos n
theorem pw_add (a b : Nat) : pw (a + b) = pw a * pw b := by rw [← pw_def, ← pw_def, ← pw_def, Nat.pow_add]
theorem log2_mul_pw (k d : Nat) (hk : k ≠ 0) : (k * pw d).log2 = k.log2 + d := by rw [← pw_def]; exact log2_mul_pow k d hk
theorem val_repr' (e c : Nat) (hc : c < 9007199254740992) (he : e ≤ 2045) : ∃ r, r < 9218868437227405312 ∧ val r = c * pw e := by
  obtain ⟨r, h1, h2⟩ := val_repr e c hc he
  exact ⟨r, h1, by rw [h2, pw_def]⟩
theorem nearest_exact' (s : Bool) (m : Nat) (p : Int) (r a b : Nat) (h : m * pw a = val r * pw b) (hp : p + 1074 = (a : Int) - b) (hr : r ≤ 9218868437227405312) :
    double.nearest s m p = double.word s r := nearest_exact s m p r a b (by rw [pw_def, pw_def]; exact h) hp hr
theorem word_false (r : Nat) : double.word false r = r := by rw [word_def]; rfl

/-- the word of a small whole number (not negative) -/
theorem nat_word (n : Nat) (hn : n < 9007199254740992) : ∃ r, r < 9218868437227405312 ∧ val r = n * pw 1074 ∧ double.nearest false n 0 = r := by
  obtain ⟨r, hr, hv⟩ := val_repr' 1074 n hn (by omega)
  refine ⟨r, hr, hv, ?_⟩
  rw [nearest_exact' false n 0 r 1074 0 (by rw [hv, pw_zero, Nat.mul_one]) (by omega) (by omega), word_false]

theorem half (n : Nat) (hn : n < 9007199254740992) : ∃ h, double.div (double.nearest false n 0) 4611686018427387904 = some h ∧ h < 9218868437227405312 ∧ double.add h h = some (double.nearest false n 0) := by
  obtain ⟨r, hr, hv, hw⟩ := nat_word n hn
  obtain ⟨r', hr', hv'⟩ := val_repr' 1073 n hn (by omega)
  rw [pw_succ 1073] at hv
  generalize pw 1073 = B at hv hv'
  rw [hw]
  have hrr : rung r = r := by unfold rung; omega
  have hnr : neg r = false := by unfold neg; simp; omega
  have hrr' : rung r' = r' := by unfold rung; omega
  have hnr' : neg r' = false := by unfold neg; simp; omega
  obtain ⟨m, p, e, hm, hm2⟩ := read_fin r (by omega) (by omega)
  obtain ⟨m', p', e', hm', _⟩ := read_fin r' (by omega) (by omega)
  rw [hrr] at hm; rw [hrr'] at hm'
  refine ⟨r', ?_, hr', ?_⟩
  · unfold Format.div
    rw [e, two_read]
    obtain ⟨c, hc⟩ := quo_pow (neg r) m (-1074 + (p : Int)) (-51) hm2
    rw [hc]
    simp only [Option.map_some, Format.write]
    rw [nearest_exact (neg r) _ _ r' p (4 + c) ?_ (by omega) (by omega), hnr]
    · rw [word_false]
    · have h1 : m * 2 ^ (3 + c) * 2 ^ p = (m * 2 ^ p) * 2 ^ (3 + c) := by ac_rfl
      have h2 : 2 ^ (4 + c) = 2 * 2 ^ (3 + c) := by rw [show 4 + c = (3 + c) + 1 by omega, Nat.pow_succ]; ac_rfl
      rw [h1, hm, hv, hv', h2]; ac_rfl
  · unfold Format.add
    rw [e']
    simp only [Datum.sum, Int.min_self, Int.sub_self, hnr']
    have t : signed false m' (0 : Int).toNat + signed false m' (0 : Int).toNat = ((2 * m' : Nat) : Int) := by
      simp [signed]; omega
    rw [t]
    simp only [Option.map_some, Format.write]
    have tn : ((2 * m' : Nat) : Int).natAbs = 2 * m' := by omega
    rw [tn]
    have td : (if ((2 * m' : Nat) : Int) = 0 then (false && false) else decide (((2 * m' : Nat) : Int) < 0)) = false := by
      split
      · rfl
      · exact decide_eq_false (by omega)
    rw [td, nearest_exact false _ _ r p' 0 ?_ (by omega) (by omega)]
    · rw [word_false]
    · rw [Nat.pow_zero, Nat.mul_one, hv, Nat.mul_assoc, hm', hv']; ac_rfl

end Go.Proofs.YtcjellbnildpfaaDoor.FP
