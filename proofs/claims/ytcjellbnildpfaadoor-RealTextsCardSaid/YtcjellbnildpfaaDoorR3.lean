/-
  Class, FromInt, ToInt, on both sides: what each answers. Conditions: the words are of 64 bits.
-/
import Derived.Test.YtcjellbnildpfaaDoorR1
namespace Go.Proofs.YtcjellbnildpfaaDoor
open Go.RowKit
attribute [local go_sem] call34 call51

theorem from_any (n : Int) (w : World) :
    Calls Tryd.prog 17 #[.int .u32 n] w fun e w' => e = .returned (.int .u64 (floatOfInt .f64 (wrap32 n))) ∧ w = w' := by
  go_enter Tryd.func17, Tryd.ntmps17
  go_wp2
  go_ret
  exact ⟨rfl, rfl⟩
/-- a float as a whole number -/
def toIntV (a : Nat) : Int :=
  if FP.isNaN a then 2147483647
  else if FloatKind.f64.format.order a 4746794007248502784 == some Ordering.gt || FloatKind.f64.format.order a 4746794007248502784 == some Ordering.eq then 2147483647
  else if FloatKind.f64.format.order a 13970166044103278592 == some Ordering.lt || FloatKind.f64.format.order a 13970166044103278592 == some Ordering.eq then 2147483648
  else (((floatToIntVal .f64 a .i32).getD 0) % 4294967296)

theorem nan_order {a b : Nat} (h : W64 a) (h' : W64 b) (hn : FP.isNaN a = true) : FloatKind.f64.format.order a b = none := FP.order_nan a b h h' (.inl hn)

/-- neither of the ends: it fits -/
theorem to_fits {a : Nat} (h : W64 a) (hn : FP.isNaN a = false)
    (h1 : (FloatKind.f64.format.order a 4746794007248502784 == some Ordering.gt || FloatKind.f64.format.order a 4746794007248502784 == some Ordering.eq) = false)
    (h2 : (FloatKind.f64.format.order a 13970166044103278592 == some Ordering.lt || FloatKind.f64.format.order a 13970166044103278592 == some Ordering.eq) = false) :
    ∃ n, floatToIntVal .f64 a .i32 = some n := by
  have w1 : W64 4746794007248502784 := by unfold W64; omega
  have w2 : W64 13970166044103278592 := by unfold W64; omega
  have n1 : FP.isNaN 4746794007248502784 = false := by decide
  have n2 : FP.isNaN 13970166044103278592 = false := by decide
  rw [show FloatKind.f64.format.order a 4746794007248502784 = Ieee.double.order a 4746794007248502784 from rfl, FP.order_eq _ _ h w1 hn n1] at h1
  rw [show FloatKind.f64.format.order a 13970166044103278592 = Ieee.double.order a 13970166044103278592 from rfl, FP.order_eq _ _ h w2 hn n2] at h2
  have l1 : FP.sval a < FP.sval 4746794007248502784 := by
    simp only [compare, compareOfLessAndEq] at h1
    by_cases hx : FP.sval a < FP.sval 4746794007248502784
    · exact hx
    · rw [if_neg hx] at h1
      split at h1 <;> simp at h1
  have l2 : FP.sval 13970166044103278592 < FP.sval a := by
    simp only [compare, compareOfLessAndEq] at h2
    by_cases hx : FP.sval a < FP.sval 13970166044103278592
    · rw [if_pos hx] at h2; simp at h2
    · rw [if_neg hx] at h2
      split at h2
      · simp at h2
      · omega
  rw [FP.sval_lt_iff] at l1 l2
  have r1 : FP.rung 4746794007248502784 = 4746794007248502784 := by decide
  have r2 : FP.rung 13970166044103278592 = 4746794007248502784 := by decide
  have g1 : FP.neg 4746794007248502784 = false := by decide
  have g2 : FP.neg 13970166044103278592 = true := by decide
  rw [r1, g1] at l1
  rw [r2, g2] at l2
  have hr : FP.rung a < 4746794007248502784 := by
    cases hs : FP.neg a <;> rw [hs] at l1 l2 <;> simp at l1 l2
    · omega
    · omega
  obtain ⟨n, hN, hlo, hhi⟩ := FP.toInt_small h hr
  refine ⟨n, ?_⟩
  unfold floatToIntVal
  rw [show (FloatKind.f64.decode a).toInt .zero = (Ieee.double.read a).toInt .zero from rfl, hN]
  simp only
  rw [if_pos]
  exact ⟨by show (-2147483648 : Int) ≤ n; omega, by show n ≤ (2147483647 : Int); omega⟩

theorem to_any (a : Nat) (w : World) (h : W64 a) :
    Calls Tryd.prog 19 #[.int .u64 a] w fun e w' => e = .returned (.int .u32 (toIntV a)) ∧ w = w' := by
  have hself : (FloatKind.f64.format.order a a != some Ordering.eq) = FP.isNaN a := order_self h
  have hf := @to_fits a h
  have hV : toIntV a = toIntV a := rfl
  rw [show (_ = _) = (toIntV a = _) from by unfold toIntV; rfl] at hV
  generalize toIntV a = v at *
  generalize FP.isNaN a = na at *
  generalize hb1 : (FloatKind.f64.format.order a 4746794007248502784 == some Ordering.gt || FloatKind.f64.format.order a 4746794007248502784 == some Ordering.eq) = b1 at *
  generalize hb2 : (FloatKind.f64.format.order a 13970166044103278592 == some Ordering.lt || FloatKind.f64.format.order a 13970166044103278592 == some Ordering.eq) = b2 at *
  clear h
  cases na
  · cases b1
    · cases b2
      · obtain ⟨n, hN⟩ := hf rfl rfl rfl
        rw [hN] at hV
        have hc : ∀ w, (convert 52 21 (.float .f64 a)).run Tryd.prog w = .ok (.int .i32 n) w := fun w => run_convert_float_int w 52 21 .f64 .i32 a n (by rw [Tryd.underlying52]; rfl) Tryd.underlying21 hN
        have HV := Lib.hid hV
        clear hV hf hN
        go_enter Tryd.func19, Tryd.ntmps19
        go_wp2_with (go_at_call 30; refine (float_any _ _).mono ?_; rintro e w' ⟨rfl, rfl⟩)
        go_ret
        exact ⟨by rw [HV.out]; rfl, rfl⟩
      · have HV := Lib.hid hV
        clear hV hf
        go_enter Tryd.func19, Tryd.ntmps19
        go_wp2_with (go_at_call 30; refine (float_any _ _).mono ?_; rintro e w' ⟨rfl, rfl⟩)
        go_ret
        exact ⟨by rw [HV.out]; rfl, rfl⟩
    · have HV := Lib.hid hV
      clear hV hf
      go_enter Tryd.func19, Tryd.ntmps19
      go_wp2_with (go_at_call 30; refine (float_any _ _).mono ?_; rintro e w' ⟨rfl, rfl⟩)
      go_ret
      exact ⟨by rw [HV.out]; rfl, rfl⟩
  · have HV := Lib.hid hV
    clear hV hf
    go_enter Tryd.func19, Tryd.ntmps19
    go_wp2_with (go_at_call 30; refine (float_any _ _).mono ?_; rintro e w' ⟨rfl, rfl⟩)
    go_ret
    exact ⟨by rw [HV.out]; rfl, rfl⟩
/-- the class -/
def clsV (a : Nat) : Int :=
  if 9218868437227405312 < FP.rung a then (if FP.rung a / 2251799813685248 % 2 = 1 then 512 else 256)
  else if FP.neg a then (if FP.rung a = 9218868437227405312 then 1 else if 4503599627370496 ≤ FP.rung a then 2 else if 0 < FP.rung a then 4 else 8)
  else (if FP.rung a = 9218868437227405312 then 128 else if 4503599627370496 ≤ FP.rung a then 64 else if 0 < FP.rung a then 32 else 16)

/-- the class out of the exponent, the fraction and the sign -/
theorem cls_parts {a E R : Nat} {s : Bool} (hE : FP.rung a / 4503599627370496 = E) (hR : FP.rung a % 4503599627370496 = R) (hs : FP.neg a = s) (hl : E < 2048) :
    clsV a = if E = 2047 then (if R / 2251799813685248 = 1 then 512 else if R ≠ 0 then 256 else if s then 1 else 128) else if E ≠ 0 then (if s then 2 else 64) else if R ≠ 0 then (if s then 4 else 32) else (if s then 8 else 16) := by
  subst hs hE hR
  unfold clsV
  generalize FP.rung a = p at *
  generalize FP.neg a = n
  cases n <;> simp only [Bool.false_eq_true, if_false, if_true]
  all_goals (repeat' split) <;> first | rfl | omega

theorem and_exp {a : Nat} (h : W64 a) : bits .and .u64 ((a : Int) / 4503599627370496) 2047 = ((FP.rung a / 4503599627370496 : Nat) : Int) := by
  unfold W64 at h
  have := u64_and_nat (a / 4503599627370496) 2047 (by omega) (by omega)
  rw [nat_mask11] at this
  rw [show (((a / 4503599627370496 : Nat) : Int)) = (a : Int) / 4503599627370496 from by omega] at this
  rw [show ((2047 : Nat) : Int) = 2047 from rfl] at this
  rw [this]
  unfold FP.rung
  congr 1; omega
theorem and_frac {a : Nat} (h : W64 a) : bits .and .u64 (a : Int) 4503599627370495 = ((FP.rung a % 4503599627370496 : Nat) : Int) := by
  unfold W64 at h
  have := u64_and_nat a 4503599627370495 (by omega) (by omega)
  rw [nat_mask52] at this
  rw [show ((4503599627370495 : Nat) : Int) = 4503599627370495 from rfl] at this
  rw [this]
  unfold FP.rung
  congr 1; omega
theorem and_sign {a : Nat} (h : W64 a) : bits .and .u64 (a : Int) 9223372036854775808 = if FP.neg a then 9223372036854775808 else 0 := by
  unfold W64 at h
  have := u64_and_nat a 9223372036854775808 (by omega) (by omega)
  rw [show ((9223372036854775808 : Nat) : Int) = 9223372036854775808 from rfl] at this
  rw [this]
  have hb := nat_bit 63 a
  rw [show (2 ^ 63 : Nat) = 9223372036854775808 from rfl] at hb
  rw [hb]
  unfold FP.neg
  by_cases hx : 9223372036854775808 ≤ a
  · simp [hx]; omega
  · simp [hx]; omega

set_option maxRecDepth 100000 in
theorem cls_any (a : Nat) (w : World) (h : W64 a) :
    Calls Tryd.prog 15 #[.int .u64 a] w fun e w' => e = .returned (.int .u32 (clsV a)) ∧ w = w' := by
  have hE := and_exp h
  have hR := and_frac h
  have hS := and_sign h
  have hl : FP.rung a / 4503599627370496 < 2048 := by unfold FP.rung; omega
  have hC := @cls_parts a _ _ _ rfl rfl rfl hl
  generalize clsV a = v at *
  generalize FP.rung a / 4503599627370496 = E at *
  generalize FP.rung a % 4503599627370496 = R at *
  generalize hss : FP.neg a = s at *
  have HC := Lib.hid hC
  clear h hC hss
  cases s
  all_goals
    go_enter Tryd.func15, Tryd.ntmps15
    go_wp2_with fail
    all_goals
      go_ret
      refine ⟨congrArg (fun v => Ending.returned (.int .u32 v)) ?_, rfl⟩
      rw [HC.out]
      clear hE hR hS HC
      simp only [beq_iff_eq, bne_iff_ne, ne_eq, beq_eq_false_iff_ne, bne_eq_false_iff_eq, Bool.false_eq_true, if_false, if_true] at *
      (repeat' split) <;> first | rfl | omega

end Go.Proofs.YtcjellbnildpfaaDoor
