/-
  Arith, on both sides, but for the root: what each answers. Conditions: the words are of 64 bits.
-/
import Derived.Test.YtcjellbnildpfaaDoorR5
import Derived.Laws.FloatArith
namespace Go.Proofs.YtcjellbnildpfaaDoor
open Go.RowKit

/-- a NaN's bits, by the tape -/
def nanAt (x y : Nat) (w : World) : Nat := (Question.nanBits .f64 x y).cut (w.tape w.drawn (.nanBits .f64 x y))

theorem nanAt_nan (x y : Nat) (w : World) : FP.isNaN (nanAt x y w) = true ∧ W64 (nanAt x y w) := by
  unfold nanAt
  simp only [Question.cut]
  generalize w.tape w.drawn (.nanBits .f64 x y) = t
  unfold FP.isNaN FP.rung W64
  have h1 : t % 2 < 2 := Nat.mod_lt _ (by omega)
  have h2 : t / 2 % (2 ^ 52 - 1) < 4503599627370495 := Nat.mod_lt _ (by omega)
  generalize t / 2 % (2 ^ 52 - 1) = r at *
  generalize t % 2 = s at *
  refine ⟨decide_eq_true ?_, ?_⟩ <;> omega

theorem run_nan (op : BinOp) (t : TypeId) (x y : Nat) (hop : op = .add ∨ op = .sub ∨ op = .mul ∨ op = .quo) (h : floatBits op .f64 x y = none) (w : World) :
    (binOp op t (.float .f64 x) (.float .f64 y)).run Tryd.prog w = .ok (.float .f64 (nanAt x y w)) w.drew := by
  rcases hop with rfl | rfl | rfl | rfl <;> simp only [floatBits] at h <;> simp [binOp, Op.floatArith, h, nanAt, Question.forced]

/-- every NaN is the NaN -/
def canon (o : Option Nat) : Int := match o with | some r => r | none => 9221120237041090560

attribute [local go_sem] call34 call51

theorem arith_add (a b : Nat) (w : World) :
    Calls Tryd.prog 16 #[.int .i64 46, .int .u64 a, .int .u64 b] w fun e w' => e = .returned (.tuple #[.int .u64 (canon (Ieee.double.add a b)), .int .i64 0]) ∧ ∃ n, w' = w.drewN n := by
  cases hr : Ieee.double.add a b with
  | none =>
    have hop : ∀ w, (binOp .add 52 (.float .f64 a) (.float .f64 b)).run Tryd.prog w = .ok (.float .f64 (nanAt a b w)) w.drew := run_nan .add 52 a b (by simp) hr
    have HB := Lib.hid (fun (w w' : World) => bits_nan (nanAt a b w) w' (nanAt_nan a b w).2 (nanAt_nan a b w).1)
    clear hr
    go_enter Tryd.func16, Tryd.ntmps16
    go_wp2_with (first | (go_at_call 30; refine (float_any _ _).mono ?_; rintro e w' ⟨rfl, rfl⟩) | (go_at_call 31; refine (HB.out _ _).mono ?_; rintro e w' ⟨rfl, rfl⟩))
    go_ret2
    exact ⟨rfl, 1, rfl⟩
  | some r =>
    have hop : ∀ w, (binOp .add 52 (.float .f64 a) (.float .f64 b)).run Tryd.prog w = .ok (.float .f64 r) w := fun w => run_float_arith w .add 52 .f64 a b r hr
    have HB := Lib.hid (fun (w : World) => bits_num r w (FP.add_ok hr).2 (FP.add_ok hr).1)
    clear hr
    go_enter Tryd.func16, Tryd.ntmps16
    go_wp2_with (first | (go_at_call 30; refine (float_any _ _).mono ?_; rintro e w' ⟨rfl, rfl⟩) | (go_at_call 31; refine (HB.out _).mono ?_; rintro e w' ⟨rfl, rfl⟩))
    go_ret2
    exact ⟨rfl, 0, rfl⟩

theorem arith_sub (a b : Nat) (w : World) :
    Calls Tryd.prog 16 #[.int .i64 47, .int .u64 a, .int .u64 b] w fun e w' => e = .returned (.tuple #[.int .u64 (canon (Ieee.double.sub a b)), .int .i64 0]) ∧ ∃ n, w' = w.drewN n := by
  cases hr : Ieee.double.sub a b with
  | none =>
    have hop : ∀ w, (binOp .sub 52 (.float .f64 a) (.float .f64 b)).run Tryd.prog w = .ok (.float .f64 (nanAt a b w)) w.drew := run_nan .sub 52 a b (by simp) hr
    have HB := Lib.hid (fun (w w' : World) => bits_nan (nanAt a b w) w' (nanAt_nan a b w).2 (nanAt_nan a b w).1)
    clear hr
    go_enter Tryd.func16, Tryd.ntmps16
    go_wp2_with (first | (go_at_call 30; refine (float_any _ _).mono ?_; rintro e w' ⟨rfl, rfl⟩) | (go_at_call 31; refine (HB.out _ _).mono ?_; rintro e w' ⟨rfl, rfl⟩))
    go_ret2
    exact ⟨rfl, 1, rfl⟩
  | some r =>
    have hop : ∀ w, (binOp .sub 52 (.float .f64 a) (.float .f64 b)).run Tryd.prog w = .ok (.float .f64 r) w := fun w => run_float_arith w .sub 52 .f64 a b r hr
    have HB := Lib.hid (fun (w : World) => bits_num r w (FP.sub_ok hr).2 (FP.sub_ok hr).1)
    clear hr
    go_enter Tryd.func16, Tryd.ntmps16
    go_wp2_with (first | (go_at_call 30; refine (float_any _ _).mono ?_; rintro e w' ⟨rfl, rfl⟩) | (go_at_call 31; refine (HB.out _).mono ?_; rintro e w' ⟨rfl, rfl⟩))
    go_ret2
    exact ⟨rfl, 0, rfl⟩

theorem arith_mul (a b : Nat) (w : World) :
    Calls Tryd.prog 16 #[.int .i64 48, .int .u64 a, .int .u64 b] w fun e w' => e = .returned (.tuple #[.int .u64 (canon (Ieee.double.mul a b)), .int .i64 0]) ∧ ∃ n, w' = w.drewN n := by
  cases hr : Ieee.double.mul a b with
  | none =>
    have hop : ∀ w, (binOp .mul 52 (.float .f64 a) (.float .f64 b)).run Tryd.prog w = .ok (.float .f64 (nanAt a b w)) w.drew := run_nan .mul 52 a b (by simp) hr
    have HB := Lib.hid (fun (w w' : World) => bits_nan (nanAt a b w) w' (nanAt_nan a b w).2 (nanAt_nan a b w).1)
    clear hr
    go_enter Tryd.func16, Tryd.ntmps16
    go_wp2_with (first | (go_at_call 30; refine (float_any _ _).mono ?_; rintro e w' ⟨rfl, rfl⟩) | (go_at_call 31; refine (HB.out _ _).mono ?_; rintro e w' ⟨rfl, rfl⟩))
    go_ret2
    exact ⟨rfl, 1, rfl⟩
  | some r =>
    have hop : ∀ w, (binOp .mul 52 (.float .f64 a) (.float .f64 b)).run Tryd.prog w = .ok (.float .f64 r) w := fun w => run_float_arith w .mul 52 .f64 a b r hr
    have HB := Lib.hid (fun (w : World) => bits_num r w (FP.mul_ok hr).2 (FP.mul_ok hr).1)
    clear hr
    go_enter Tryd.func16, Tryd.ntmps16
    go_wp2_with (first | (go_at_call 30; refine (float_any _ _).mono ?_; rintro e w' ⟨rfl, rfl⟩) | (go_at_call 31; refine (HB.out _).mono ?_; rintro e w' ⟨rfl, rfl⟩))
    go_ret2
    exact ⟨rfl, 0, rfl⟩

theorem arith_div (a b : Nat) (w : World) :
    Calls Tryd.prog 16 #[.int .i64 49, .int .u64 a, .int .u64 b] w fun e w' => e = .returned (.tuple #[.int .u64 (canon (Ieee.double.div a b)), .int .i64 0]) ∧ ∃ n, w' = w.drewN n := by
  cases hr : Ieee.double.div a b with
  | none =>
    have hop : ∀ w, (binOp .quo 52 (.float .f64 a) (.float .f64 b)).run Tryd.prog w = .ok (.float .f64 (nanAt a b w)) w.drew := run_nan .quo 52 a b (by simp) hr
    have HB := Lib.hid (fun (w w' : World) => bits_nan (nanAt a b w) w' (nanAt_nan a b w).2 (nanAt_nan a b w).1)
    clear hr
    go_enter Tryd.func16, Tryd.ntmps16
    go_wp2_with (first | (go_at_call 30; refine (float_any _ _).mono ?_; rintro e w' ⟨rfl, rfl⟩) | (go_at_call 31; refine (HB.out _ _).mono ?_; rintro e w' ⟨rfl, rfl⟩))
    go_ret2
    exact ⟨rfl, 1, rfl⟩
  | some r =>
    have hop : ∀ w, (binOp .quo 52 (.float .f64 a) (.float .f64 b)).run Tryd.prog w = .ok (.float .f64 r) w := fun w => run_float_arith w .quo 52 .f64 a b r hr
    have HB := Lib.hid (fun (w : World) => bits_num r w (FP.div_ok hr).2 (FP.div_ok hr).1)
    clear hr
    go_enter Tryd.func16, Tryd.ntmps16
    go_wp2_with (first | (go_at_call 30; refine (float_any _ _).mono ?_; rintro e w' ⟨rfl, rfl⟩) | (go_at_call 31; refine (HB.out _).mono ?_; rintro e w' ⟨rfl, rfl⟩))
    go_ret2
    exact ⟨rfl, 0, rfl⟩

theorem call52 (x : Nat) (w : World) : (callFunc 52 #[.float .f64 x]).run Tryd.prog w = ((Extern.MathSqrt.sqrt #[.float .f64 x]).run Tryd.prog w).andThen fun v w' => .ok (.value v) w' :=
  run_callFunc_extern Tryd.func52 (by kernel_rfl) (by kernel_rfl) (by kernel_rfl) (e := Extern.MathSqrt.sqrt) (by kernel_rfl) _ w

theorem sqrt_is (x : Nat) : Extern.MathSqrt.sqrt #[.float .f64 x] = (match FloatKind.f64.format.sqrt x with
    | some r => pure (.float .f64 r)
    | none => (choose (.nanBits .f64 x x) >>= fun n => pure (.float .f64 n))) := rfl

theorem sqrt_num (x r : Nat) (w : World) (h : Ieee.double.sqrt x = some r) :
    Calls Tryd.prog 32 #[.float .f64 x] w fun e w' => e = .returned (.float .f64 r) ∧ w = w' := by
  have hc : ∀ w, (callFunc 52 #[.float .f64 x]).run Tryd.prog w = .ok (.value (.float .f64 r)) w := by
    intro w
    rw [call52]
    rw [sqrt_is, show FloatKind.f64.format.sqrt x = some r from h]
    simp [Result.andThen]
  clear h
  go_enter Tryd.func32, Tryd.ntmps32
  go_wp2
  go_ret
  exact ⟨rfl, rfl⟩
theorem sqrt_nan (x : Nat) (w : World) (h : Ieee.double.sqrt x = none) :
    Calls Tryd.prog 32 #[.float .f64 x] w fun e w' => e = .returned (.float .f64 (nanAt x x w)) ∧ w.drew = w' := by
  have hc : ∀ w, (callFunc 52 #[.float .f64 x]).run Tryd.prog w = .ok (.value (.float .f64 (nanAt x x w))) w.drew := by
    intro w
    rw [call52]
    rw [sqrt_is, show FloatKind.f64.format.sqrt x = none from h]
    simp [Result.andThen, Question.forced, nanAt]
  clear h
  go_enter Tryd.func32, Tryd.ntmps32
  go_wp2
  go_ret
  exact ⟨rfl, rfl⟩

theorem arith_sqrt (a b : Nat) (w : World) :
    Calls Tryd.prog 16 #[.int .i64 50, .int .u64 a, .int .u64 b] w fun e w' => e = .returned (.tuple #[.int .u64 (canon (Ieee.double.sqrt a)), .int .i64 0]) ∧ ∃ n, w' = w.drewN n := by
  cases hr : Ieee.double.sqrt a with
  | none =>
    have HQ := Lib.hid (fun w => sqrt_nan a w hr)
    have HB := Lib.hid (fun (w w' : World) => bits_nan (nanAt a a w) w' (nanAt_nan a a w).2 (nanAt_nan a a w).1)
    clear hr
    go_enter Tryd.func16, Tryd.ntmps16
    go_wp2_with (first | (go_at_call 30; refine (float_any _ _).mono ?_; rintro e w' ⟨rfl, rfl⟩) | (go_at_call 32; refine (HQ.out _).mono ?_; rintro e w' ⟨rfl, rfl⟩) | (go_at_call 31; refine (HB.out _ _).mono ?_; rintro e w' ⟨rfl, rfl⟩))
    go_ret2
    exact ⟨rfl, 1, rfl⟩
  | some r =>
    have HQ := Lib.hid (fun w => sqrt_num a r w hr)
    have HB := Lib.hid (fun (w : World) => bits_num r w (FP.sqrt_ok hr).2 (FP.sqrt_ok hr).1)
    clear hr
    go_enter Tryd.func16, Tryd.ntmps16
    go_wp2_with (first | (go_at_call 30; refine (float_any _ _).mono ?_; rintro e w' ⟨rfl, rfl⟩) | (go_at_call 32; refine (HQ.out _).mono ?_; rintro e w' ⟨rfl, rfl⟩) | (go_at_call 31; refine (HB.out _).mono ?_; rintro e w' ⟨rfl, rfl⟩))
    go_ret2
    exact ⟨rfl, 0, rfl⟩

theorem arith_min (a b : Nat) (w : World) (h : W64 a) (h' : W64 b) :
    Calls Tryd.prog 16 #[.int .i64 51, .int .u64 a, .int .u64 b] w fun e w' => e = .returned (.tuple #[.int .u64 (extV a b false), .int .i64 0]) ∧ ∃ n, w' = w.drewN n := by
  have HE := Lib.hid (fun w => ext_any a b false w h h')
  clear h h'
  go_enter Tryd.func16, Tryd.ntmps16
  go_wp2_with (first | (go_at_call 30; refine (float_any _ _).mono ?_; rintro e w' ⟨rfl, rfl⟩) | (go_at_call 33; refine (HE.out _).mono ?_; rintro e w' ⟨rfl, rfl⟩))
  go_ret2
  exact ⟨rfl, 0, rfl⟩
theorem arith_max (a b : Nat) (w : World) (h : W64 a) (h' : W64 b) :
    Calls Tryd.prog 16 #[.int .i64 52, .int .u64 a, .int .u64 b] w fun e w' => e = .returned (.tuple #[.int .u64 (extV a b true), .int .i64 0]) ∧ ∃ n, w' = w.drewN n := by
  have HE := Lib.hid (fun w => ext_any a b true w h h')
  clear h h'
  go_enter Tryd.func16, Tryd.ntmps16
  go_wp2_with (first | (go_at_call 30; refine (float_any _ _).mono ?_; rintro e w' ⟨rfl, rfl⟩) | (go_at_call 33; refine (HE.out _).mono ?_; rintro e w' ⟨rfl, rfl⟩))
  go_ret2
  exact ⟨rfl, 0, rfl⟩
theorem arith_neg (a b : Nat) (w : World) :
    Calls Tryd.prog 16 #[.int .i64 53, .int .u64 a, .int .u64 b] w fun e w' => e = .returned (.tuple #[.int .u64 (bits .xor .u64 (a : Int) 9223372036854775808), .int .i64 0]) ∧ ∃ n, w' = w.drewN n := by
  go_enter Tryd.func16, Tryd.ntmps16
  go_wp2_with (go_at_call 30; refine (float_any _ _).mono ?_; rintro e w' ⟨rfl, rfl⟩)
  go_ret2
  exact ⟨rfl, 0, rfl⟩
theorem arith_abs (a b : Nat) (w : World) :
    Calls Tryd.prog 16 #[.int .i64 54, .int .u64 a, .int .u64 b] w fun e w' => e = .returned (.tuple #[.int .u64 (bits .andNot .u64 (a : Int) 9223372036854775808), .int .i64 0]) ∧ ∃ n, w' = w.drewN n := by
  go_enter Tryd.func16, Tryd.ntmps16
  go_wp2_with (go_at_call 30; refine (float_any _ _).mono ?_; rintro e w' ⟨rfl, rfl⟩)
  go_ret2
  exact ⟨rfl, 0, rfl⟩
def NoOp (op : Int) : Prop := op ≠ 46 ∧ op ≠ 47 ∧ op ≠ 48 ∧ op ≠ 49 ∧ op ≠ 50 ∧ op ≠ 51 ∧ op ≠ 52 ∧ op ≠ 53 ∧ op ≠ 54

theorem arith_bad (op : Int) (a b : Nat) (w : World) (h : NoOp op) :
    Calls Tryd.prog 16 #[.int .i64 op, .int .u64 a, .int .u64 b] w fun e w' => e = .returned (.tuple #[.int .u64 0, .int .i64 5]) ∧ ∃ n, w' = w.drewN n := by
  obtain ⟨h1, h2, h3, h4, h5, h6, h7, h8, h9⟩ := h
  have e1 : (op == 46) = false := by simpa using h1
  have e2 : (op == 47) = false := by simpa using h2
  have e3 : (op == 48) = false := by simpa using h3
  have e4 : (op == 49) = false := by simpa using h4
  have e5 : (op == 50) = false := by simpa using h5
  have e6 : (op == 51) = false := by simpa using h6
  have e7 : (op == 52) = false := by simpa using h7
  have e8 : (op == 53) = false := by simpa using h8
  have e9 : (op == 54) = false := by simpa using h9
  clear h1 h2 h3 h4 h5 h6 h7 h8 h9
  go_enter Tryd.func16, Tryd.ntmps16
  go_wp2_with (go_at_call 30; refine (float_any _ _).mono ?_; rintro e w' ⟨rfl, rfl⟩)
  go_ret2
  exact ⟨rfl, 0, rfl⟩
end Go.Proofs.YtcjellbnildpfaaDoor
