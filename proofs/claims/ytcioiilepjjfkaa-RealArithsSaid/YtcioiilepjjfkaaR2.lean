/-
  Compare, on both sides: what each answers. Conditions: the words are of 64 bits.
-/
import Derived.Test.YtcioiilepjjfkaaR1
namespace Go.Proofs.Ytcioiilepjjfkaa
open Go.RowKit
attribute [local go_sem] call19 call20

theorem cmp_bad (op : Int) (a b : Nat) (w : World) (h1 : op ≠ 55) (h2 : op ≠ 56) (h3 : op ≠ 57) :
    Calls Try.prog 5 #[.int .i64 op, .int .u64 a, .int .u64 b] w fun e w' => e = .returned (.tuple #[.int .u32 0, .int .i64 5]) ∧ w = w' := by
  have e1 : (op == 55) = false := by simpa using h1
  have e2 : (op == 56) = false := by simpa using h2
  have e3 : (op == 57) = false := by simpa using h3
  clear h1 h2 h3
  go_enter Try.func5, Try.ntmps5
  go_wp2_with (go_at_call 15; refine (float_any _ _).mono ?_; rintro e w' ⟨rfl, rfl⟩)
  go_ret2
  exact ⟨rfl, rfl⟩

theorem cmp_eq (a b : Nat) (k : Bool) (w : World) (hk : (FloatKind.f64.format.order a b == some Ordering.eq) = k) :
    Calls Try.prog 5 #[.int .i64 55, .int .u64 a, .int .u64 b] w fun e w' => e = .returned (.tuple #[.int .u32 (if k then 1 else 0), .int .i64 0]) ∧ w = w' := by
  cases k
  all_goals
    go_enter Try.func5, Try.ntmps5
    go_wp2_with (go_at_call 15; refine (float_any _ _).mono ?_; rintro e w' ⟨rfl, rfl⟩)
    go_ret2
    exact ⟨rfl, rfl⟩
theorem cmp_lt (a b : Nat) (k : Bool) (w : World) (hk : (FloatKind.f64.format.order a b == some Ordering.lt) = k) :
    Calls Try.prog 5 #[.int .i64 56, .int .u64 a, .int .u64 b] w fun e w' => e = .returned (.tuple #[.int .u32 (if k then 1 else 0), .int .i64 0]) ∧ w = w' := by
  cases k
  all_goals
    go_enter Try.func5, Try.ntmps5
    go_wp2_with (go_at_call 15; refine (float_any _ _).mono ?_; rintro e w' ⟨rfl, rfl⟩)
    go_ret2
    exact ⟨rfl, rfl⟩
theorem cmp_le (a b : Nat) (k : Bool) (w : World) (hk : (FloatKind.f64.format.order a b == some Ordering.lt || FloatKind.f64.format.order a b == some Ordering.eq) = k) :
    Calls Try.prog 5 #[.int .i64 57, .int .u64 a, .int .u64 b] w fun e w' => e = .returned (.tuple #[.int .u32 (if k then 1 else 0), .int .i64 0]) ∧ w = w' := by
  cases k
  all_goals
    go_enter Try.func5, Try.ntmps5
    go_wp2_with (go_at_call 15; refine (float_any _ _).mono ?_; rintro e w' ⟨rfl, rfl⟩)
    go_ret2
    exact ⟨rfl, rfl⟩

theorem rcmp_bad (op : Int) (a b : Nat) (w : World) (h1 : op ≠ 55) (h2 : op ≠ 56) (h3 : op ≠ 57) :
    Calls Try.prog 6 #[.int .i64 op, .int .u64 a, .int .u64 b] w fun e w' => e = .returned (.tuple #[.int .u32 0, .int .i64 5]) ∧ w = w' := by
  have e1 : (op != 55) = true := by simpa using h1
  have e2 : (op != 56) = true := by simpa using h2
  have e3 : (op != 57) = true := by simpa using h3
  clear h1 h2 h3
  go_enter Try.func6, Try.ntmps6
  go_wp2
  go_ret2
  exact ⟨rfl, rfl⟩

set_option maxHeartbeats 1000000 in
theorem rcmp_nan (op : Int) (a b : Nat) (w : World) (ho : op = 55 ∨ op = 56 ∨ op = 57) (h : W64 a) (h' : W64 b) (hn : FP.isNaN a = true ∨ FP.isNaN b = true) :
    Calls Try.prog 6 #[.int .i64 op, .int .u64 a, .int .u64 b] w fun e w' => e = .returned (.tuple #[.int .u32 0, .int .i64 0]) ∧ w = w' := by
  have Ha := Lib.hid (fun w => rnan_any a w h)
  have Hb := Lib.hid (fun w => rnan_any b w h')
  generalize hA : FP.isNaN a = na at *
  generalize hB : FP.isNaN b = nb at *
  clear h h' hA hB
  rcases ho with rfl | rfl | rfl <;> cases na <;> cases nb <;> simp at hn
  all_goals
    go_enter Try.func6, Try.ntmps6
    go_wp2_with (first | ((with_reducible refine (Ha.out _).mono ?_); rintro e w' ⟨rfl, rfl⟩) | ((with_reducible refine (Hb.out _).mono ?_); rintro e w' ⟨rfl, rfl⟩))
    go_ret2
    exact ⟨rfl, rfl⟩

/-- what the reference answers of two that are no NaN -/
def sameV (a b : Nat) : Bool := decide (a = b) || decide (FP.rung a = 0) && decide (FP.rung b = 0)

set_option maxHeartbeats 4000000 in
theorem rcmp_num (op : Int) (a b : Nat) (w : World) (ho : op = 55 ∨ op = 56 ∨ op = 57) (h : W64 a) (h' : W64 b) (hn : FP.isNaN a = false) (hn' : FP.isNaN b = false) :
    Calls Try.prog 6 #[.int .i64 op, .int .u64 a, .int .u64 b] w fun e w' => e = .returned (.tuple #[.int .u32 (if (op == 55 && sameV a b || op == 56 && lessV a b || op == 57 && (sameV a b || lessV a b)) then 1 else 0), .int .i64 0]) ∧ w = w' := by
  unfold sameV
  have Ha := Lib.hid (fun w => rnan_any a w h)
  have Hb := Lib.hid (fun w => rnan_any b w h')
  rw [hn] at Ha
  rw [hn'] at Hb
  have Za := Lib.hid (fun w => rzero_any a w h)
  have Zb := Lib.hid (fun w => rzero_any b w h')
  have L := Lib.hid (fun w => rless_any a b w h h')
  generalize lessV a b = l at *
  generalize decide (FP.rung a = 0) = za at *
  generalize decide (FP.rung b = 0) = zb at *
  have hab : ((a : Int) == b) = decide (a = b) := by rw [Bool.eq_iff_iff]; simp; omega
  generalize decide (a = b) = ab at *
  clear hn hn' h h'
  rcases ho with rfl | rfl | rfl <;> cases ab <;> cases za <;> cases zb <;> cases l
  all_goals
    go_enter Try.func6, Try.ntmps6
    go_wp2_with (first | ((with_reducible refine (Ha.out _).mono ?_); rintro e w' ⟨rfl, rfl⟩) | ((with_reducible refine (Hb.out _).mono ?_); rintro e w' ⟨rfl, rfl⟩) | ((with_reducible refine (Za.out _).mono ?_); rintro e w' ⟨rfl, rfl⟩) | ((with_reducible refine (Zb.out _).mono ?_); rintro e w' ⟨rfl, rfl⟩) | ((with_reducible refine (L.out _).mono ?_); rintro e w' ⟨rfl, rfl⟩))
    go_ret2
    exact ⟨rfl, rfl⟩

end Go.Proofs.Ytcioiilepjjfkaa
