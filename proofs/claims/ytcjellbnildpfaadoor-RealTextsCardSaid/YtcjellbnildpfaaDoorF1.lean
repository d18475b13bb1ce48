/-
  The value of a double's bits, and the order of two: plain facts on the format. Conditions: the words are of 64 bits.
-/
import Ieee.Arith
namespace Go.Proofs.YtcjellbnildpfaaDoor.FP
open Ieee

theorem d_sw : double.signWeight = 9223372036854775808 := by decide
theorem d_bin : double.binade = 4503599627370496 := by decide
theorem d_inf : double.infRung = 9218868437227405312 := by decide
theorem d_least : double.leastPlace = -1074 := by decide
theorem d_fb : double.fractionBits = 52 := rfl

/-- magnitude of a rung in units of 2^-1074 -/
def val (r : Nat) : Nat := if r < 4503599627370496 then r else (4503599627370496 + r % 4503599627370496) * 2 ^ (r / 4503599627370496 - 1)

theorem val_zero : val 0 = 0 := rfl

theorem val_step (r : Nat) : val r < val (r + 1) := by
  unfold val
  by_cases h1 : r + 1 < 4503599627370496
  · rw [if_pos h1, if_pos (by omega)]; omega
  · rw [if_neg h1]
    by_cases h2 : r < 4503599627370496
    · have : r = 4503599627370495 := by omega
      subst this; decide
    · rw [if_neg h2]
      by_cases h3 : (r + 1) % 4503599627370496 = 0
      · have e1 : (r + 1) / 4503599627370496 = r / 4503599627370496 + 1 := by omega
        have e2 : r % 4503599627370496 = 4503599627370495 := by omega
        have hq : 1 ≤ r / 4503599627370496 := by omega
        obtain ⟨q, hq⟩ : ∃ q, r / 4503599627370496 = q + 1 := ⟨r / 4503599627370496 - 1, by omega⟩
        rw [h3, e1, e2, hq]
        simp only [Nat.add_sub_cancel]
        have : 0 < 2 ^ q := Nat.two_pow_pos q
        rw [Nat.pow_succ]; omega
      · have e1 : (r + 1) / 4503599627370496 = r / 4503599627370496 := by omega
        have e2 : (r + 1) % 4503599627370496 = r % 4503599627370496 + 1 := by omega
        rw [e1, e2]
        have : 0 < 2 ^ (r / 4503599627370496 - 1) := Nat.two_pow_pos _
        exact Nat.mul_lt_mul_of_pos_right (by omega) this

theorem val_lt {r s : Nat} (h : r < s) : val r < val s := by
  induction s with
  | zero => omega
  | succ s ih =>
    by_cases e : r = s
    · subst e; exact val_step r
    · exact Nat.lt_trans (ih (by omega)) (val_step s)

theorem val_lt_iff {r s : Nat} : val r < val s ↔ r < s := by
  constructor
  · intro h
    by_cases h1 : r < s
    · exact h1
    · by_cases e : r = s
      · subst e; omega
      · have := val_lt (show s < r by omega); omega
  · exact val_lt

theorem val_eq_iff {r s : Nat} : val r = val s ↔ r = s := by
  constructor
  · intro h
    have h1 := @val_lt_iff r s; have h2 := @val_lt_iff s r
    omega
  · rintro rfl; rfl

def neg (x : Nat) : Bool := decide (9223372036854775808 ≤ x)
def rung (x : Nat) : Nat := x % 9223372036854775808
def isNaN (x : Nat) : Bool := decide (9218868437227405312 < rung x)
def sval (x : Nat) : Int := if neg x then -(val (rung x) : Int) else (val (rung x) : Int)

theorem read_eq (x : Nat) (hx : x < 18446744073709551616) : double.read x =
    if rung x < 4503599627370496 then .number (neg x) (rung x) (-1074)
    else if rung x < 9218868437227405312 then .number (neg x) (4503599627370496 + rung x % 4503599627370496) (-1074 + (rung x / 4503599627370496 - 1 : Nat))
    else if rung x = 9218868437227405312 then .infinity (neg x)
    else .nan (neg x) (rung x - 9218868437227405312) := by
  have hn : (x / 9223372036854775808 % 2 == 1) = neg x := by
    unfold neg
    rw [Bool.eq_iff_iff]; simp; omega
  unfold Format.read
  simp only [d_sw, d_bin, d_inf, d_least, hn]
  rfl

/-- a finite word's datum -/
theorem read_fin (x : Nat) (hx : x < 18446744073709551616) (h : rung x < 9218868437227405312) :
    ∃ m p, double.read x = .number (neg x) m (-1074 + (p : Nat)) ∧ m * 2 ^ p = val (rung x) ∧ m < 9007199254740992 := by
  rw [read_eq x hx]
  by_cases h1 : rung x < 4503599627370496
  · rw [if_pos h1]
    exact ⟨rung x, 0, by simp, by simp [val, h1], by omega⟩
  · rw [if_neg h1, if_pos h]
    exact ⟨_, _, rfl, by simp [val, h1], by omega⟩

theorem signed_scale (s : Bool) (m a b : Nat) : signed s m (a + b) = signed s m a * (2 ^ b : Nat) := by
  unfold signed
  rw [Nat.shiftLeft_eq, Nat.shiftLeft_eq, Nat.pow_add, ← Nat.mul_assoc]
  cases s <;> simp [Int.neg_mul]

theorem compare_scale (a b : Int) (k : Nat) (hk : 0 < k) : compare (a * k) (b * k) = compare a b := by
  have hk' : (0 : Int) < k := by omega
  have h1 : a * k < b * k ↔ a < b := ⟨fun h => Int.lt_of_mul_lt_mul_right h (by omega), fun h => Int.mul_lt_mul_of_pos_right h hk'⟩
  have h2 : a * k = b * k ↔ a = b := ⟨fun h => Int.eq_of_mul_eq_mul_right (by omega) h, fun h => by rw [h]⟩
  simp only [compare, compareOfLessAndEq, h1, h2]

theorem signed_val (s : Bool) (m p : Nat) : signed s m p = if s then -((m * 2 ^ p : Nat) : Int) else ((m * 2 ^ p : Nat) : Int) := by
  unfold signed; rw [Nat.shiftLeft_eq]

theorem order_fin (s t : Bool) (m n p q : Nat) : Datum.order (.number s m (-1074 + (p : Nat))) (.number t n (-1074 + (q : Nat))) =
    some (compare (signed s m p) (signed t n q)) := by
  simp only [Datum.order]
  have e1 : (-1074 + (p : Int) - min (-1074 + (p : Int)) (-1074 + (q : Int))).toNat = p - min p q := by omega
  have e2 : (-1074 + (q : Int) - min (-1074 + (p : Int)) (-1074 + (q : Int))).toNat = q - min p q := by omega
  rw [e1, e2]
  have h1 := signed_scale s m (p - min p q) (min p q)
  have h2 := signed_scale t n (q - min p q) (min p q)
  rw [show p - min p q + min p q = p by omega] at h1
  rw [show q - min p q + min p q = q by omega] at h2
  rw [h1, h2, compare_scale _ _ _ (Nat.two_pow_pos _)]

theorem isNaN_read (x : Nat) (hx : x < 18446744073709551616) : (double.read x).isNaN = isNaN x := by
  rw [read_eq x hx]; unfold isNaN
  split
  · simp [Datum.isNaN]; omega
  · split
    · simp [Datum.isNaN]; omega
    · split
      · simp [Datum.isNaN]; omega
      · simp [Datum.isNaN]; omega

theorem order_nan (x y : Nat) (hx : x < 18446744073709551616) (hy : y < 18446744073709551616) (h : isNaN x = true ∨ isNaN y = true) :
    double.order x y = none := by
  unfold Format.order
  have h1 := isNaN_read x hx; have h2 := isNaN_read y hy
  rcases h with h | h
  · rw [h] at h1
    cases e : double.read x <;> simp [e, Datum.isNaN] at h1
    cases double.read y <;> rfl
  · rw [h] at h2
    cases e : double.read y <;> simp [e, Datum.isNaN] at h2
    cases double.read x <;> rfl

theorem order_eq (x y : Nat) (hx : x < 18446744073709551616) (hy : y < 18446744073709551616) (h1 : isNaN x = false) (h2 : isNaN y = false) :
    double.order x y = some (compare (sval x) (sval y)) := by
  unfold Format.order
  simp only [isNaN, decide_eq_false_iff_not, Nat.not_lt] at h1 h2
  have lt : ∀ {a b : Int}, a < b → compare a b = .lt := fun h => by simp [compare, compareOfLessAndEq, h]
  have gt : ∀ {a b : Int}, b < a → compare a b = .gt := fun {a b} h => by
    simp only [compare, compareOfLessAndEq]; rw [if_neg (by omega), if_neg (by omega)]
  by_cases f1 : rung x < 9218868437227405312
  · obtain ⟨m, p, e1, v1, _⟩ := read_fin x hx f1
    by_cases f2 : rung y < 9218868437227405312
    · obtain ⟨n, q, e2, v2, _⟩ := read_fin y hy f2
      rw [e1, e2, order_fin, signed_val, signed_val, v1, v2]; rfl
    · have e2 : double.read y = .infinity (neg y) := by rw [read_eq y hy, if_neg (by omega), if_neg f2, if_pos (by omega)]
      rw [e1, e2]
      simp only [Datum.order]
      have hv : val (rung x) < val (rung y) := val_lt (by omega)
      unfold sval
      cases hn : neg y with
      | true => simp only [if_true]; cases neg x <;> simp <;> rw [gt (by omega)]
      | false => simp; cases neg x <;> simp <;> rw [lt (by omega)]
  · have e1 : double.read x = .infinity (neg x) := by rw [read_eq x hx, if_neg (by omega), if_neg f1, if_pos (by omega)]
    by_cases f2 : rung y < 9218868437227405312
    · obtain ⟨n, q, e2, v2, _⟩ := read_fin y hy f2
      rw [e1, e2]
      simp only [Datum.order]
      have hv : val (rung y) < val (rung x) := val_lt (by omega)
      unfold sval
      cases hn : neg x with
      | true => simp only [if_true]; cases neg y <;> simp <;> rw [lt (by omega)]
      | false => simp; cases neg y <;> simp <;> rw [gt (by omega)]
    · have e2 : double.read y = .infinity (neg y) := by rw [read_eq y hy, if_neg (by omega), if_neg f2, if_pos (by omega)]
      rw [e1, e2]
      simp only [Datum.order]
      have : rung x = rung y := by omega
      have hv : 0 < val (rung y) := by have := val_lt (show 0 < rung y by omega); rw [val_zero] at this; exact this
      unfold sval
      rw [this]
      have eq : ∀ {a : Int}, compare a a = .eq := fun {a} => by simp only [compare, compareOfLessAndEq]; rw [if_neg (by omega)]; simp
      cases neg x <;> cases neg y
      · simp only [Bool.false_eq_true, if_false, eq]; rfl
      · simp only [Bool.false_eq_true, if_false, if_true]; rw [gt (by omega)]; rfl
      · simp only [Bool.false_eq_true, if_false, if_true]; rw [lt (by omega)]; rfl
      · simp only [if_true, eq]; rfl
end Go.Proofs.YtcjellbnildpfaaDoor.FP
