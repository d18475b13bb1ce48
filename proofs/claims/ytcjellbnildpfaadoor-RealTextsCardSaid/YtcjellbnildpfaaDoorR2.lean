/-
  Compare, on both sides: what each answers. Conditions: the words are of 64 bits.
-/
import Derived.Test.YtcjellbnildpfaaDoorR1
namespace Go.Proofs.YtcjellbnildpfaaDoor
open Go.RowKit
attribute [local go_sem] call34 call51

theorem cmp_bad (op : Int) (a b : Nat) (w : World) (h1 : op ≠ 55) (h2 : op ≠ 56) (h3 : op ≠ 57) :
    Calls Tryd.prog 18 #[.int .i64 op, .int .u64 a, .int .u64 b] w fun e w' => e = .returned (.tuple #[.int .u32 0, .int .i64 5]) ∧ w = w' := by
  have e1 : (op == 55) = false := by simpa using h1
  have e2 : (op == 56) = false := by simpa using h2
  have e3 : (op == 57) = false := by simpa using h3
  clear h1 h2 h3
  go_enter Tryd.func18, Tryd.ntmps18
  go_wp2_with (go_at_call 30; refine (float_any _ _).mono ?_; rintro e w' ⟨rfl, rfl⟩)
  go_ret2
  exact ⟨rfl, rfl⟩

theorem cmp_eq (a b : Nat) (k : Bool) (w : World) (hk : (FloatKind.f64.format.order a b == some Ordering.eq) = k) :
    Calls Tryd.prog 18 #[.int .i64 55, .int .u64 a, .int .u64 b] w fun e w' => e = .returned (.tuple #[.int .u32 (if k then 1 else 0), .int .i64 0]) ∧ w = w' := by
  cases k
  all_goals
    go_enter Tryd.func18, Tryd.ntmps18
    go_wp2_with (go_at_call 30; refine (float_any _ _).mono ?_; rintro e w' ⟨rfl, rfl⟩)
    go_ret2
    exact ⟨rfl, rfl⟩
theorem cmp_lt (a b : Nat) (k : Bool) (w : World) (hk : (FloatKind.f64.format.order a b == some Ordering.lt) = k) :
    Calls Tryd.prog 18 #[.int .i64 56, .int .u64 a, .int .u64 b] w fun e w' => e = .returned (.tuple #[.int .u32 (if k then 1 else 0), .int .i64 0]) ∧ w = w' := by
  cases k
  all_goals
    go_enter Tryd.func18, Tryd.ntmps18
    go_wp2_with (go_at_call 30; refine (float_any _ _).mono ?_; rintro e w' ⟨rfl, rfl⟩)
    go_ret2
    exact ⟨rfl, rfl⟩
theorem cmp_le (a b : Nat) (k : Bool) (w : World) (hk : (FloatKind.f64.format.order a b == some Ordering.lt || FloatKind.f64.format.order a b == some Ordering.eq) = k) :
    Calls Tryd.prog 18 #[.int .i64 57, .int .u64 a, .int .u64 b] w fun e w' => e = .returned (.tuple #[.int .u32 (if k then 1 else 0), .int .i64 0]) ∧ w = w' := by
  cases k
  all_goals
    go_enter Tryd.func18, Tryd.ntmps18
    go_wp2_with (go_at_call 30; refine (float_any _ _).mono ?_; rintro e w' ⟨rfl, rfl⟩)
    go_ret2
    exact ⟨rfl, rfl⟩

/-- what the reference answers of two that are no NaN -/
def sameV (a b : Nat) : Bool := decide (a = b) || decide (FP.rung a = 0) && decide (FP.rung b = 0)

end Go.Proofs.YtcjellbnildpfaaDoor
