/-
  The float helpers: what each answers.
-/
import Derived.Test.YtcjellbnildpfaaDoorRows
import Derived.Test.YtcjellbnildpfaaDoorF5
import Derived.WalkKit
import Derived.WalkSpells
import Derived.WalkLawsBesides
import Derived.Deep.QuietTactic
import Derived.BigQuiet
import Derived.Deep.RegionWith
import Derived.Lib.Hide
namespace Go.Proofs.YtcjellbnildpfaaDoor
open Go.RowKit

theorem call34 (n : Nat) (w : World) : (callFunc 34 #[.float .f64 n]).run Tryd.prog w = .ok (.value (.int .u64 n)) w := by
  rw [run_callFunc_extern Tryd.func34 (by kernel_rfl) (by kernel_rfl) (by kernel_rfl) (e := Extern.MathFloatBits.float64bits) (by kernel_rfl)]
  rfl
theorem call51 (n : Nat) (w : World) : (callFunc 51 #[.int .u64 n]).run Tryd.prog w = .ok (.value (.float .f64 n)) w := by
  rw [run_callFunc_extern Tryd.func51 (by kernel_rfl) (by kernel_rfl) (by kernel_rfl) (e := Extern.MathFloatBits.float64frombits) (by kernel_rfl)]
  rfl
attribute [local go_sem] call34 call51

theorem float_any (a : Nat) (w : World) :
    Calls Tryd.prog 30 #[.int .u64 a] w fun e w' => e = .returned (.float .f64 a) ∧ w = w' := by
  go_enter Tryd.func30, Tryd.ntmps30
  go_wp2
  go_ret
  exact ⟨rfl, rfl⟩

/-- the order of two words -/
theorem f64_order (a b : Nat) : FloatKind.f64.format.order a b = Ieee.double.order a b := rfl


def W64 (a : Nat) : Prop := a < 18446744073709551616


theorem order_self {a : Nat} (h : W64 a) : (Ieee.double.order a a != some Ordering.eq) = FP.isNaN a := by
  by_cases hn : FP.isNaN a = true
  · rw [FP.order_nan a a h h (.inl hn), hn]; rfl
  · rw [Bool.not_eq_true] at hn
    rw [FP.order_eq a a h h hn hn, hn]
    simp only [compare, compareOfLessAndEq]
    rw [if_neg (by omega)]; rfl

theorem isNaN_any (a : Nat) (w : World) (h : W64 a) :
    Calls Tryd.prog 24 #[.int .u64 a] w fun e w' => e = .returned (.bool (FP.isNaN a)) ∧ w = w' := by
  have hs := order_self h
  have H := Lib.hid hs
  clear hs h
  go_enter Tryd.func24, Tryd.ntmps24
  go_wp2_with (go_at_call 30; refine (float_any _ _).mono ?_; rintro e w' ⟨rfl, rfl⟩)
  go_ret
  exact ⟨congrArg (fun b => Ending.returned (.bool b)) H.out, rfl⟩

theorem andNot_sign {a : Nat} (h : W64 a) : bits .andNot .u64 (a : Int) 9223372036854775808 = ((FP.rung a : Nat) : Int) := by
  have := u64_andNot_nat a 9223372036854775808 h (by omega)
  rw [show ((9223372036854775808 : Nat) : Int) = 9223372036854775808 from rfl] at this
  rw [this]
  congr 1
  exact Nat.and_two_pow_sub_one_eq_mod a 63

theorem sign_any (a : Nat) (w : World) (h : W64 a) :
    Calls Tryd.prog 71 #[.float .f64 a] w fun e w' => e = .returned (.bool (FP.neg a)) ∧ w = w' := by
  have hh : decide (wrap64 (a : Int) < 0) = FP.neg a := by
    unfold W64 at h
    unfold FP.neg
    exact decide_eq_decide.2 (by unfold wrap64; omega)
  have H := Lib.hid hh
  clear hh h
  go_enter Tryd.func71, Tryd.ntmps71
  go_wp2
  go_ret
  exact ⟨congrArg (fun b => Ending.returned (.bool b)) H.out, rfl⟩

/-- the words in their order -/
def ordV (a : Nat) : Int := if FP.neg a then -(FP.rung a : Int) - 1 else a


/-- the lesser one, by the reference -/
def lessV (a b : Nat) : Bool := !(decide (FP.rung a = 0) && decide (FP.rung b = 0)) && decide (ordV a < ordV b)

theorem bits_nan (a : Nat) (w : World) (h : W64 a) (hn : FP.isNaN a = true) :
    Calls Tryd.prog 31 #[.float .f64 a] w fun e w' => e = .returned (.int .u64 9221120237041090560) ∧ w = w' := by
  have hs2 : (FloatKind.f64.format.order a a != some Ordering.eq) = true := by rw [show FloatKind.f64.format.order a a = Ieee.double.order a a from rfl, order_self h, hn]
  clear h hn
  go_enter Tryd.func31, Tryd.ntmps31
  go_wp2
  go_ret
  exact ⟨rfl, rfl⟩
theorem bits_num (a : Nat) (w : World) (h : W64 a) (hn : FP.isNaN a = false) :
    Calls Tryd.prog 31 #[.float .f64 a] w fun e w' => e = .returned (.int .u64 a) ∧ w = w' := by
  have hs2 : (FloatKind.f64.format.order a a != some Ordering.eq) = false := by rw [show FloatKind.f64.format.order a a = Ieee.double.order a a from rfl, order_self h, hn]
  clear h hn
  go_enter Tryd.func31, Tryd.ntmps31
  go_wp2
  go_ret
  exact ⟨rfl, rfl⟩
end Go.Proofs.YtcjellbnildpfaaDoor
