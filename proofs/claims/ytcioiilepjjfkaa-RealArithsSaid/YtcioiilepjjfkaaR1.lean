/-
  The float helpers: what each answers.
-/
import Derived.Test.YtcioiilepjjfkaaRows
import Derived.Test.YtcioiilepjjfkaaF5
import Derived.WalkKit
import Derived.WalkSpells
import Derived.WalkLawsBesides
import Derived.Deep.QuietTactic
import Derived.BigQuiet
import Derived.Deep.RegionWith
import Derived.Lib.Hide
namespace Go.Proofs.Ytcioiilepjjfkaa
open Go.RowKit

theorem call19 (n : Nat) (w : World) : (callFunc 19 #[.float .f64 n]).run Try.prog w = .ok (.value (.int .u64 n)) w := by
  rw [run_callFunc_extern Try.func19 (by kernel_rfl) (by kernel_rfl) (by kernel_rfl) (e := Extern.MathFloatBits.float64bits) (by kernel_rfl)]
  rfl
theorem call20 (n : Nat) (w : World) : (callFunc 20 #[.int .u64 n]).run Try.prog w = .ok (.value (.float .f64 n)) w := by
  rw [run_callFunc_extern Try.func20 (by kernel_rfl) (by kernel_rfl) (by kernel_rfl) (e := Extern.MathFloatBits.float64frombits) (by kernel_rfl)]
  rfl
attribute [local go_sem] call19 call20

theorem float_any (a : Nat) (w : World) :
    Calls Try.prog 15 #[.int .u64 a] w fun e w' => e = .returned (.float .f64 a) ∧ w = w' := by
  go_enter Try.func15, Try.ntmps15
  go_wp2
  go_ret
  exact ⟨rfl, rfl⟩

/-- the order of two words -/
theorem f64_order (a b : Nat) : FloatKind.f64.format.order a b = Ieee.double.order a b := rfl


def W64 (a : Nat) : Prop := a < 18446744073709551616


theorem order_self {a : Nat} (h : W64 a) : (Ieee.double.order a a != some Ordering.eq) = FP.isNaN a := by
  by_cases hn : FP.isNaN a = true
  · rw [FP.order_nan a a h h (.inl hn), hn]; rfl
  · rw [Bool.not_eq_true] at hn
    rw [FP.order_eq a a h h hn hn, hn]
    simp only [compare, compareOfLessAndEq]
    rw [if_neg (by omega)]; rfl

theorem isNaN_any (a : Nat) (w : World) (h : W64 a) :
    Calls Try.prog 29 #[.int .u64 a] w fun e w' => e = .returned (.bool (FP.isNaN a)) ∧ w = w' := by
  have hs := order_self h
  have H := Lib.hid hs
  clear hs h
  go_enter Try.func29, Try.ntmps29
  go_wp2_with (go_at_call 15; refine (float_any _ _).mono ?_; rintro e w' ⟨rfl, rfl⟩)
  go_ret
  exact ⟨congrArg (fun b => Ending.returned (.bool b)) H.out, rfl⟩

theorem andNot_sign {a : Nat} (h : W64 a) : bits .andNot .u64 (a : Int) 9223372036854775808 = ((FP.rung a : Nat) : Int) := by
  have := u64_andNot_nat a 9223372036854775808 h (by omega)
  rw [show ((9223372036854775808 : Nat) : Int) = 9223372036854775808 from rfl] at this
  rw [this]
  congr 1
  exact Nat.and_two_pow_sub_one_eq_mod a 63

theorem rnan_any (a : Nat) (w : World) (h : W64 a) :
    Calls Try.prog 16 #[.int .u64 a] w fun e w' => e = .returned (.bool (FP.isNaN a)) ∧ w = w' := by
  have H := Lib.hid (andNot_sign h)
  clear h
  go_enter Try.func16, Try.ntmps16
  go_wp2
  go_ret
  refine ⟨?_, rfl⟩
  show Ending.returned (.bool (decide (9218868437227405312 < bits BinOp.andNot IntKind.u64 (a : Int) 9223372036854775808))) = _
  rw [H.out]
  unfold FP.isNaN
  rw [show decide ((9218868437227405312 : Int) < (FP.rung a : Nat)) = decide (9218868437227405312 < FP.rung a) from decide_eq_decide.2 (by omega)]

theorem rzero_any (a : Nat) (w : World) (h : W64 a) :
    Calls Try.prog 17 #[.int .u64 a] w fun e w' => e = .returned (.bool (decide (FP.rung a = 0))) ∧ w = w' := by
  have H := Lib.hid (andNot_sign h)
  clear h
  go_enter Try.func17, Try.ntmps17
  go_wp2
  go_ret
  refine ⟨?_, rfl⟩
  show Ending.returned (.bool (bits BinOp.andNot IntKind.u64 (a : Int) 9223372036854775808 == 0)) = _
  rw [H.out]
  rw [show (((FP.rung a : Nat) : Int) == 0) = decide (FP.rung a = 0) from by rw [Bool.eq_iff_iff]; simp]

theorem sign_any (a : Nat) (w : World) (h : W64 a) :
    Calls Try.prog 31 #[.float .f64 a] w fun e w' => e = .returned (.bool (FP.neg a)) ∧ w = w' := by
  have hh : decide (wrap64 (a : Int) < 0) = FP.neg a := by
    unfold W64 at h
    unfold FP.neg
    exact decide_eq_decide.2 (by unfold wrap64; omega)
  have H := Lib.hid hh
  clear hh h
  go_enter Try.func31, Try.ntmps31
  go_wp2
  go_ret
  exact ⟨congrArg (fun b => Ending.returned (.bool b)) H.out, rfl⟩

/-- the words in their order -/
def ordV (a : Nat) : Int := if FP.neg a then -(FP.rung a : Int) - 1 else a


theorem rorder_any (a : Nat) (w : World) (h : W64 a) :
    Calls Try.prog 27 #[.int .u64 a] w fun e w' => e = .returned (.int .i64 (ordV a)) ∧ w = w' := by
  have H := Lib.hid (andNot_sign h)
  have hr : FP.rung a < 9223372036854775808 := by unfold FP.rung; omega
  by_cases hn : 9223372036854775808 ≤ a
  · have hd : decide ((9223372036854775808 : Int) ≤ a) = true := by simp; omega
    have hv : wrap64 (wrap64 (-wrap64 ((FP.rung a : Nat) : Int)) - 1) = ordV a := by
      unfold ordV FP.neg; rw [decide_eq_true hn, if_pos rfl]
      unfold wrap64; omega
    have HV := Lib.hid hv
    have HR := Lib.hid hr
    clear hv hr hn
    go_enter Try.func27, Try.ntmps27
    go_wp2
    go_ret
    refine ⟨?_, rfl⟩
    show Ending.returned (.int .i64 (wrap64 (wrap64 (-wrap64 (bits BinOp.andNot IntKind.u64 (a : Int) 9223372036854775808)) - 1))) = _
    rw [H.out, HV.out]
  · have hd : decide ((9223372036854775808 : Int) ≤ a) = false := by simp; omega
    have hv : wrap64 (a : Int) = ordV a := by
      unfold ordV FP.neg; rw [decide_eq_false hn, if_neg (by simp)]
      unfold wrap64; omega
    have HV := Lib.hid hv
    have HR := Lib.hid hr
    clear hv hr hn
    go_enter Try.func27, Try.ntmps27
    go_wp2
    go_ret
    exact ⟨congrArg (fun b => Ending.returned (.int .i64 b)) HV.out, rfl⟩

/-- the lesser one, by the reference -/
def lessV (a b : Nat) : Bool := !(decide (FP.rung a = 0) && decide (FP.rung b = 0)) && decide (ordV a < ordV b)

theorem rless_any (a b : Nat) (w : World) (h : W64 a) (h' : W64 b) :
    Calls Try.prog 18 #[.int .u64 a, .int .u64 b] w fun e w' => e = .returned (.bool (lessV a b)) ∧ w = w' := by
  unfold lessV
  have Ha := Lib.hid (fun w => rzero_any a w h)
  have Hb := Lib.hid (fun w => rzero_any b w h')
  have Oa := Lib.hid (fun w => rorder_any a w h)
  have Ob := Lib.hid (fun w => rorder_any b w h')
  clear h h'
  generalize ordV a = oa at *
  generalize ordV b = ob at *
  generalize decide (FP.rung a = 0) = za at *
  generalize decide (FP.rung b = 0) = zb at *
  go_enter Try.func18, Try.ntmps18
  cases za <;> cases zb
  all_goals
    go_wp2_with (first | ((with_reducible refine (Ha.out _).mono ?_); rintro e w' ⟨rfl, rfl⟩) | ((with_reducible refine (Hb.out _).mono ?_); rintro e w' ⟨rfl, rfl⟩) | ((with_reducible refine (Oa.out _).mono ?_); rintro e w' ⟨rfl, rfl⟩) | ((with_reducible refine (Ob.out _).mono ?_); rintro e w' ⟨rfl, rfl⟩))
  all_goals go_ret
  all_goals exact ⟨rfl, rfl⟩

theorem bits_nan (a : Nat) (w : World) (h : W64 a) (hn : FP.isNaN a = true) :
    Calls Try.prog 21 #[.float .f64 a] w fun e w' => e = .returned (.int .u64 9221120237041090560) ∧ w = w' := by
  have hs2 : (FloatKind.f64.format.order a a != some Ordering.eq) = true := by rw [show FloatKind.f64.format.order a a = Ieee.double.order a a from rfl, order_self h, hn]
  clear h hn
  go_enter Try.func21, Try.ntmps21
  go_wp2
  go_ret
  exact ⟨rfl, rfl⟩
theorem bits_num (a : Nat) (w : World) (h : W64 a) (hn : FP.isNaN a = false) :
    Calls Try.prog 21 #[.float .f64 a] w fun e w' => e = .returned (.int .u64 a) ∧ w = w' := by
  have hs2 : (FloatKind.f64.format.order a a != some Ordering.eq) = false := by rw [show FloatKind.f64.format.order a a = Ieee.double.order a a from rfl, order_self h, hn]
  clear h hn
  go_enter Try.func21, Try.ntmps21
  go_wp2
  go_ret
  exact ⟨rfl, rfl⟩
theorem one_nan (a : Nat) (w : World) (h : W64 a) (hn : FP.isNaN a = true) :
    Calls Try.prog 24 #[.float .f64 a] w fun e w' => e = .returned (.int .u64 9221120237041090560) ∧ w = w' := by
  have H := Lib.hid (rnan_any a w h)
  rw [hn] at H
  clear h hn
  go_enter Try.func24, Try.ntmps24
  go_wp2_with (refine H.out.mono ?_; rintro e w' ⟨rfl, rfl⟩)
  go_ret
  exact ⟨rfl, rfl⟩
theorem one_num (a : Nat) (w : World) (h : W64 a) (hn : FP.isNaN a = false) :
    Calls Try.prog 24 #[.float .f64 a] w fun e w' => e = .returned (.int .u64 a) ∧ w = w' := by
  have H := Lib.hid (rnan_any a w h)
  rw [hn] at H
  clear h hn
  go_enter Try.func24, Try.ntmps24
  go_wp2_with (refine H.out.mono ?_; rintro e w' ⟨rfl, rfl⟩)
  go_ret
  exact ⟨rfl, rfl⟩
end Go.Proofs.Ytcioiilepjjfkaa
