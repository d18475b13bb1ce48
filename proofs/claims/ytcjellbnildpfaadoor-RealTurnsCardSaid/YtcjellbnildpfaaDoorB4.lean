/-
  The law RealTurns answers true. Conditions: the words are of 64 and 32 bits, the tables lie as their texts lay them.
-/
import Derived.Test.YtcjellbnildpfaaDoorB2
import Derived.Test.YtcjellbnildpfaaDoorXor
namespace Go.Proofs.YtcjellbnildpfaaDoor
open Go.RowKit

set_option maxRecDepth 100000 in
set_option maxHeartbeats 4000000 in
theorem law_turns (a b : Nat) (n : Int) (w : World) (h : W64 a) (h' : W64 b) (h0 : 0 ≤ n) (h1 : n ≤ 4294967295) (ht : Tabs w) :
    Calls Tryd.prog 6 #[.int .u64 a, .int .u64 b, .int .u32 n] w fun e w' => e = .returned (.bool true) ∧ Upd [] w w' := by
  have HW := Lib.hid (works_true w ht)
  have pa : bits .andNot .u64 (a : Int) 9223372036854775808 = ((FP.rung a : Nat) : Int) := andNot_sign h
  have pb : bits .andNot .u64 (b : Int) 9223372036854775808 = ((FP.rung b : Nat) : Int) := andNot_sign h'
  have px : bits .xor .u64 (b : Int) 9223372036854775808 = ((FP.flip b : Nat) : Int) := xor_sign h'
  have ha : decide ((9218868437227405312 : Int) < ((FP.rung a : Nat) : Int)) = FP.isNaN a := by unfold FP.isNaN; exact decide_eq_decide.2 (by omega)
  have hb : decide ((9218868437227405312 : Int) < ((FP.rung b : Nat) : Int)) = FP.isNaN b := by unfold FP.isNaN; exact decide_eq_decide.2 (by omega)
  obtain ⟨c, hc⟩ : ∃ c : Nat, n / 256 = c := ⟨(n / 256).toNat, by omega⟩
  have hcl : c < 16777216 := by omega
  obtain ⟨X, hX⟩ : ∃ X, X = canon (Ieee.double.add a b) := ⟨_, rfl⟩
  obtain ⟨Y, hY⟩ : ∃ Y, Y = canon (Ieee.double.mul a b) := ⟨_, rfl⟩
  obtain ⟨K, hK⟩ : ∃ K, K = Ieee.double.nearest false c 0 := ⟨_, rfl⟩
  obtain ⟨K2, hK2⟩ : ∃ K2, K2 = Ieee.double.nearest false (c * c) 0 := ⟨_, rfl⟩
  have Q1 := Lib.hid (show ∀ w, Calls Tryd.prog 16 #[.int .i64 46, .int .u64 a, .int .u64 b] w fun e w' => e = .returned (.tuple #[.int .u64 (X), .int .i64 0]) ∧ ∃ n, w' = w.drewN n from fun w => by
    rw [hX]; exact arith_add a b w)
  have Q2 := Lib.hid (show ∀ w, Calls Tryd.prog 16 #[.int .i64 46, .int .u64 b, .int .u64 a] w fun e w' => e = .returned (.tuple #[.int .u64 (X), .int .i64 0]) ∧ ∃ n, w' = w.drewN n from fun w => by
    rw [hX, FP.add_comm]; exact arith_add b a w)
  have Q3 := Lib.hid (show ∀ w, Calls Tryd.prog 16 #[.int .i64 48, .int .u64 a, .int .u64 b] w fun e w' => e = .returned (.tuple #[.int .u64 (Y), .int .i64 0]) ∧ ∃ n, w' = w.drewN n from fun w => by
    rw [hY]; exact arith_mul a b w)
  have Q4 := Lib.hid (show ∀ w, Calls Tryd.prog 16 #[.int .i64 48, .int .u64 b, .int .u64 a] w fun e w' => e = .returned (.tuple #[.int .u64 (Y), .int .i64 0]) ∧ ∃ n, w' = w.drewN n from fun w => by
    rw [hY, FP.mul_comm]; exact arith_mul b a w)
  have Q5 := Lib.hid (show ∀ w, Calls Tryd.prog 16 #[.int .i64 53, .int .u64 b, .int .u64 0] w fun e w' => e = .returned (.tuple #[.int .u64 ((FP.flip b : Nat)), .int .i64 0]) ∧ ∃ n, w' = w.drewN n from fun w => by
    rw [← px]; exact arith_neg b 0 w)
  have Q6 := Lib.hid (show ∀ w, Calls Tryd.prog 16 #[.int .i64 47, .int .u64 a, .int .u64 (FP.flip b : Nat)] w fun e w' => e = .returned (.tuple #[.int .u64 (X), .int .i64 0]) ∧ ∃ n, w' = w.drewN n from fun w => by
    rw [hX, ← FP.sub_flip h']; exact arith_sub a (FP.flip b) w)
  have Q7 := Lib.hid (show ∀ w, Calls Tryd.prog 16 #[.int .i64 51, .int .u64 a, .int .u64 b] w fun e w' => e = .returned (.tuple #[.int .u64 (extV a b false), .int .i64 0]) ∧ ∃ n, w' = w.drewN n from fun w => by
    exact arith_min a b w h h')
  have Q8 := Lib.hid (show ∀ w, Calls Tryd.prog 16 #[.int .i64 52, .int .u64 a, .int .u64 b] w fun e w' => e = .returned (.tuple #[.int .u64 (extV a b true), .int .i64 0]) ∧ ∃ n, w' = w.drewN n from fun w => by
    exact arith_max a b w h h')
  have QA := Lib.hid (show ∀ w, Calls Tryd.prog 16 #[.int .i64 48, .int .u64 (K : Nat), .int .u64 (K : Nat)] w fun e w' => e = .returned (.tuple #[.int .u64 ((K2 : Nat)), .int .i64 0]) ∧ ∃ n, w' = w.drewN n from fun w => by
    have := arith_mul K K w; rw [hK, FP.mul_nat c hcl, ← hK, ← hK2] at this; exact this)
  have QB := Lib.hid (show ∀ w, Calls Tryd.prog 16 #[.int .i64 50, .int .u64 (K2 : Nat), .int .u64 b] w fun e w' => e = .returned (.tuple #[.int .u64 ((K : Nat)), .int .i64 0]) ∧ ∃ n, w' = w.drewN n from fun w => by
    have := arith_sqrt K2 b w; rw [hK2, FP.sqrt_nat c hcl, ← hK, ← hK2] at this; exact this)
  have QF := Lib.hid (show ∀ w, Calls Tryd.prog 17 #[.int .u32 (n / 256)] w fun e w' => e = .returned (.int .u64 (K : Nat)) ∧ w = w' from fun w => by
    have := from_any (n / 256) w
    rw [hc, from_nat c (by omega), ← hK] at this
    rw [hc]
    exact this)
  have hl : ∀ g, extV a b g = if FP.isNaN a && FP.isNaN b then 9221120237041090560 else if FP.isNaN a then (b : Int) else if FP.isNaN b then a else if decide (ordV b < ordV a) != g then b else a := fun g => by unfold extV; rfl
  rw [hl] at Q7 Q8
  have e1 : ∃ k, ((a : Int) == b) = k ∧ ((b : Int) == a) = k := ⟨_, rfl, by rw [Bool.eq_iff_iff]; simp; omega⟩
  obtain ⟨k, k1, k2⟩ := e1
  clear hX hY hK hK2 hc hcl h h' h0 h1 ht hl
  generalize FP.rung a = ra at *
  generalize FP.rung b = rb at *
  generalize FP.isNaN a = na at *
  generalize FP.isNaN b = nb at *
  generalize decide (ordV b < ordV a) = l at *
  generalize FP.flip b = fb at *
  cases na <;> cases nb
  · cases l <;> cases k
    all_goals
      simp only [Bool.and_false, if_true, if_false, Bool.false_eq_true, Bool.true_bne, Bool.false_bne, Bool.not_true, Bool.not_false] at Q7 Q8
      go_enter Tryd.func6, Tryd.ntmps6
      go_wp2_with (first | (go_at_call 13; refine HW.out.mono ?_; rintro e w1 ⟨rfl, hu⟩; have HU := Lib.hid hu; clear hu) | ((with_reducible refine (Q1.out _).mono ?_); rintro e w2 ⟨rfl, k, rfl⟩) | ((with_reducible refine (Q2.out _).mono ?_); rintro e w2 ⟨rfl, k, rfl⟩) | ((with_reducible refine (Q3.out _).mono ?_); rintro e w2 ⟨rfl, k, rfl⟩) | ((with_reducible refine (Q4.out _).mono ?_); rintro e w2 ⟨rfl, k, rfl⟩) | ((with_reducible refine (Q5.out _).mono ?_); rintro e w2 ⟨rfl, k, rfl⟩) | ((with_reducible refine (Q6.out _).mono ?_); rintro e w2 ⟨rfl, k, rfl⟩) | ((with_reducible refine (Q7.out _).mono ?_); rintro e w2 ⟨rfl, k, rfl⟩) | ((with_reducible refine (Q8.out _).mono ?_); rintro e w2 ⟨rfl, k, rfl⟩) | ((with_reducible refine (QA.out _).mono ?_); rintro e w2 ⟨rfl, k, rfl⟩) | ((with_reducible refine (QB.out _).mono ?_); rintro e w2 ⟨rfl, k, rfl⟩) | ((with_reducible refine (QF.out _).mono ?_); rintro e w2 ⟨rfl, rfl⟩) | (go_at_call 14; refine (num_any _ _).mono ?_; rintro e w2 ⟨rfl, rfl⟩))
      go_ret
      exact ⟨rfl, by repeat (first | exact HU.out | refine Upd.drewN ?_ _)⟩
  all_goals
    simp only [Bool.and_true, Bool.and_false, if_true, if_false, Bool.false_eq_true] at Q7 Q8
    go_enter Tryd.func6, Tryd.ntmps6
    go_wp2_with (first | (go_at_call 13; refine HW.out.mono ?_; rintro e w1 ⟨rfl, hu⟩; have HU := Lib.hid hu; clear hu) | ((with_reducible refine (Q1.out _).mono ?_); rintro e w2 ⟨rfl, k, rfl⟩) | ((with_reducible refine (Q2.out _).mono ?_); rintro e w2 ⟨rfl, k, rfl⟩) | ((with_reducible refine (Q3.out _).mono ?_); rintro e w2 ⟨rfl, k, rfl⟩) | ((with_reducible refine (Q4.out _).mono ?_); rintro e w2 ⟨rfl, k, rfl⟩) | ((with_reducible refine (Q5.out _).mono ?_); rintro e w2 ⟨rfl, k, rfl⟩) | ((with_reducible refine (Q6.out _).mono ?_); rintro e w2 ⟨rfl, k, rfl⟩) | ((with_reducible refine (Q7.out _).mono ?_); rintro e w2 ⟨rfl, k, rfl⟩) | ((with_reducible refine (Q8.out _).mono ?_); rintro e w2 ⟨rfl, k, rfl⟩) | ((with_reducible refine (QA.out _).mono ?_); rintro e w2 ⟨rfl, k, rfl⟩) | ((with_reducible refine (QB.out _).mono ?_); rintro e w2 ⟨rfl, k, rfl⟩) | ((with_reducible refine (QF.out _).mono ?_); rintro e w2 ⟨rfl, rfl⟩) | (go_at_call 14; refine (num_any _ _).mono ?_; rintro e w2 ⟨rfl, rfl⟩))
    go_ret
    exact ⟨rfl, by repeat (first | exact HU.out | refine Upd.drewN ?_ _)⟩
end Go.Proofs.YtcjellbnildpfaaDoor
