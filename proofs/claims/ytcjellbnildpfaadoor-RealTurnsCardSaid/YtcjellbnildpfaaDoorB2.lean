/-
  The law RealZeros answers true. Conditions: the words are of 64 and 32 bits, the tables lie as their texts lay them.
-/
import Derived.Test.YtcjellbnildpfaaDoorB1
namespace Go.Proofs.YtcjellbnildpfaaDoor
open Go.RowKit

theorem from_nat (c : Nat) (hc : c < 2147483648) : floatOfInt .f64 (wrap32 c) = Ieee.double.nearest false c 0 := by
  have e : wrap32 c = c := by unfold wrap32; omega
  rw [e, from_word, decide_eq_false (by omega)]
  rfl

set_option maxRecDepth 100000 in
set_option maxHeartbeats 2000000 in
theorem law_zeros (a : Nat) (n : Int) (w : World) (h : W64 a) (h0 : 0 ≤ n) (h1 : n ≤ 4294967295) (ht : Tabs w) :
    Calls Tryd.prog 7 #[.int .u64 a, .int .u32 n] w fun e w' => e = .returned (.bool true) ∧ Upd [] w w' := by
  have HW := Lib.hid (works_true w ht)
  have pa : bits .andNot .u64 (a : Int) 9223372036854775808 = ((FP.rung a : Nat) : Int) := andNot_sign h
  have ps := and_sign h
  by_cases hb : FP.rung a < 9218868437227405312
  · have q1 : ∀ w, Calls Tryd.prog 16 #[.int .i64 47, .int .u64 a, .int .u64 a] w fun e w' => e = .returned (.tuple #[.int .u64 0, .int .i64 0]) ∧ ∃ n, w' = w.drewN n := fun w => by
      have := arith_sub a a w
      rw [FP.sub_self h hb] at this
      exact this
    have q2 : ∀ w, Calls Tryd.prog 16 #[.int .i64 49, .int .u64 a, .int .u64 4607182418800017408] w fun e w' => e = .returned (.tuple #[.int .u64 a, .int .i64 0]) ∧ ∃ n, w' = w.drewN n := fun w => by
      have := arith_div a 4607182418800017408 w
      rw [FP.div_one h hb] at this
      exact this
    have q3 : ∀ w, Calls Tryd.prog 16 #[.int .i64 48, .int .u64 a, .int .u64 0] w fun e w' => e = .returned (.tuple #[.int .u64 (if FP.neg a then 9223372036854775808 else 0), .int .i64 0]) ∧ ∃ n, w' = w.drewN n := fun w => by
      have := arith_mul a 0 w
      rw [FP.mul_zero h hb, FP.word_def] at this
      cases hs : FP.neg a <;> rw [hs] at this <;> exact this
    have q4 : ∀ w, Calls Tryd.prog 16 #[.int .i64 46, .int .u64 a, .int .u64 0] w fun e w' => e = .returned (.tuple #[.int .u64 (if FP.rung a = 0 then 0 else a), .int .i64 0]) ∧ ∃ n, w' = w.drewN n := fun w => by
      have := arith_add a 0 w
      rw [FP.add_zero h hb] at this
      by_cases hz : FP.rung a = 0
      · rw [if_pos hz] at this ⊢; exact this
      · rw [if_neg hz] at this ⊢; exact this
    obtain ⟨c, hc⟩ : ∃ c : Nat, n / 2 = c := ⟨(n / 2).toNat, by omega⟩
    have hcl : c < 2147483648 := by omega
    obtain ⟨r, e1, _, e3⟩ := FP.half c (by omega)
    have q5 : ∀ w, Calls Tryd.prog 17 #[.int .u32 (n / 2)] w fun e w' => e = .returned (.int .u64 (Ieee.double.nearest false c 0 : Nat)) ∧ w = w' := fun w => by
      have := from_any (n / 2) w
      rw [hc, from_nat c hcl] at this
      rw [hc]
      exact this
    have q6 : ∀ w, Calls Tryd.prog 16 #[.int .i64 49, .int .u64 (Ieee.double.nearest false c 0 : Nat), .int .u64 4611686018427387904] w fun e w' => e = .returned (.tuple #[.int .u64 r, .int .i64 0]) ∧ ∃ n, w' = w.drewN n := fun w => by
      have := arith_div (Ieee.double.nearest false c 0) 4611686018427387904 w
      rw [e1] at this
      exact this
    have q7 : ∀ w, Calls Tryd.prog 16 #[.int .i64 46, .int .u64 r, .int .u64 r] w fun e w' => e = .returned (.tuple #[.int .u64 (Ieee.double.nearest false c 0 : Nat), .int .i64 0]) ∧ ∃ n, w' = w.drewN n := fun w => by
      have := arith_add r r w
      rw [e3] at this
      exact this
    have Q1 := Lib.hid q1
    have Q2 := Lib.hid q2
    have Q3 := Lib.hid q3
    have Q4 := Lib.hid q4
    have Q5 := Lib.hid q5
    have Q6 := Lib.hid q6
    have Q7 := Lib.hid q7
    clear q1 q2 q3 q4 q5 q6 q7
    generalize Ieee.double.nearest false c 0 = K at *
    have hinf : decide ((9218868437227405312 : Int) ≤ ((FP.rung a : Nat) : Int)) = false := decide_eq_false (by omega)
    generalize FP.neg a = s at *
    generalize FP.rung a = ra at *
    clear hc hcl e1 e3 h ht hb h0 h1
    by_cases hz : ra = 0
    · subst hz
      simp only [if_true] at Q4
      cases s
      all_goals
        simp only [if_true, if_false, Bool.false_eq_true] at Q3 ps
        go_enter Tryd.func7, Tryd.ntmps7
        go_wp2_with (first | (go_at_call 13; refine HW.out.mono ?_; rintro e w1 ⟨rfl, hu⟩; have HU := Lib.hid hu; clear hu) | ((with_reducible refine (Q1.out _).mono ?_); rintro e w2 ⟨rfl, k, rfl⟩) | ((with_reducible refine (Q2.out _).mono ?_); rintro e w2 ⟨rfl, k, rfl⟩) | ((with_reducible refine (Q3.out _).mono ?_); rintro e w2 ⟨rfl, k, rfl⟩) | ((with_reducible refine (Q4.out _).mono ?_); rintro e w2 ⟨rfl, k, rfl⟩) | ((with_reducible refine (Q5.out _).mono ?_); rintro e w2 ⟨rfl, rfl⟩) | ((with_reducible refine (Q6.out _).mono ?_); rintro e w2 ⟨rfl, k, rfl⟩) | ((with_reducible refine (Q7.out _).mono ?_); rintro e w2 ⟨rfl, k, rfl⟩) | (go_at_call 14; refine (num_any _ _).mono ?_; rintro e w2 ⟨rfl, rfl⟩))
        go_ret
        exact ⟨rfl, by repeat (first | exact HU.out | refine Upd.drewN ?_ _)⟩
    · have z1 : ((ra : Int) == 0) = false := by simp; omega
      have z2 : ((ra : Int) != 0) = true := by simp; omega
      simp only [if_neg hz] at Q4
      clear hz
      cases s
      all_goals
        simp only [if_true, if_false, Bool.false_eq_true] at Q3 ps
        go_enter Tryd.func7, Tryd.ntmps7
        go_wp2_with (first | (go_at_call 13; refine HW.out.mono ?_; rintro e w1 ⟨rfl, hu⟩; have HU := Lib.hid hu; clear hu) | ((with_reducible refine (Q1.out _).mono ?_); rintro e w2 ⟨rfl, k, rfl⟩) | ((with_reducible refine (Q2.out _).mono ?_); rintro e w2 ⟨rfl, k, rfl⟩) | ((with_reducible refine (Q3.out _).mono ?_); rintro e w2 ⟨rfl, k, rfl⟩) | ((with_reducible refine (Q4.out _).mono ?_); rintro e w2 ⟨rfl, k, rfl⟩) | ((with_reducible refine (Q5.out _).mono ?_); rintro e w2 ⟨rfl, rfl⟩) | ((with_reducible refine (Q6.out _).mono ?_); rintro e w2 ⟨rfl, k, rfl⟩) | ((with_reducible refine (Q7.out _).mono ?_); rintro e w2 ⟨rfl, k, rfl⟩) | (go_at_call 14; refine (num_any _ _).mono ?_; rintro e w2 ⟨rfl, rfl⟩))
        go_ret
        exact ⟨rfl, by repeat (first | exact HU.out | refine Upd.drewN ?_ _)⟩
  · have hinf : decide ((9218868437227405312 : Int) ≤ ((FP.rung a : Nat) : Int)) = true := decide_eq_true (by omega)
    clear ps
    generalize FP.rung a = ra at *
    clear h ht hb h0 h1
    go_enter Tryd.func7, Tryd.ntmps7
    go_wp2_with (go_at_call 13; refine HW.out.mono ?_; rintro e w1 ⟨rfl, hu⟩; have HU := Lib.hid hu; clear hu)
    go_ret
    exact ⟨rfl, HU.out⟩
end Go.Proofs.YtcjellbnildpfaaDoor
