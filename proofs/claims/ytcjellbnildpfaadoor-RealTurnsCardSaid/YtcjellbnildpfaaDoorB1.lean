/-
  The law RealOrder answers true. Conditions: the words are of 64 bits, the tables lie as their texts lay them.
-/
import Derived.Test.YtcjellbnildpfaaDoorA6
namespace Go.Proofs.YtcjellbnildpfaaDoor
open Go.RowKit

/-- of two floats: none is a NaN and just one of three holds, or one is a NaN and none holds -/
theorem order_tri {a b : Nat} (h : W64 a) (h' : W64 b) : ∃ (n l e g : Bool),
    (FloatKind.f64.format.order a b == some Ordering.lt) = l ∧ (FloatKind.f64.format.order a b == some Ordering.eq) = e ∧ (FloatKind.f64.format.order b a == some Ordering.lt) = g ∧ (FP.isNaN a || FP.isNaN b) = n ∧
    ((n = true ∧ l = false ∧ e = false ∧ g = false) ∨ (n = false ∧ l = true ∧ e = false ∧ g = false) ∨ (n = false ∧ l = false ∧ e = true ∧ g = false) ∨ (n = false ∧ l = false ∧ e = false ∧ g = true)) := by
  refine ⟨_, _, _, _, rfl, rfl, rfl, rfl, ?_⟩
  rw [f64_order, f64_order]
  by_cases hn : (FP.isNaN a || FP.isNaN b) = true
  · left
    rw [Bool.or_eq_true] at hn
    rw [FP.order_nan a b h h' hn, FP.order_nan b a h' h hn.symm]
    refine ⟨by rw [Bool.or_eq_true]; exact hn, rfl, rfl, rfl⟩
  · rw [Bool.not_eq_true] at hn
    rw [hn]
    rw [Bool.or_eq_false_iff] at hn
    rw [FP.order_eq a b h h' hn.1 hn.2, FP.order_eq b a h' h hn.2 hn.1]
    right
    simp only [compare, compareOfLessAndEq]
    rcases Int.lt_trichotomy (FP.sval a) (FP.sval b) with q | q | q
    · left
      rw [if_pos q, if_neg (by omega), if_neg (by omega)]
      simp
    · right; left
      rw [if_neg (by omega), if_pos q, if_neg (by omega), if_pos q.symm]
      simp
    · right; right
      rw [if_neg (by omega), if_neg (by omega), if_pos q]
      simp

theorem from_word (i : Int) : floatOfInt .f64 i = Ieee.double.write (.number (decide (i < 0)) i.natAbs 0) := rfl

theorem icmp_lt {A B : Int} (h : A < B) : compare A B = .lt := by simp only [compare, compareOfLessAndEq]; rw [if_pos h]
theorem icmp_eq {A B : Int} (h : A = B) : compare A B = .eq := by simp only [compare, compareOfLessAndEq]; rw [if_neg (by omega), if_pos h]
theorem icmp_gt {A B : Int} (h : B < A) : compare A B = .gt := by simp only [compare, compareOfLessAndEq]; rw [if_neg (by omega), if_neg (by omega)]

/-- a whole number comes back -/
theorem back_to (n : Int) (h0 : 0 ≤ n) (h1 : n ≤ 4294967295) : ∃ k : Nat, floatOfInt .f64 (wrap32 n) = k ∧ W64 k ∧ toIntV k = n := by
  have hw1 : -2147483648 ≤ wrap32 n := by unfold wrap32; omega
  have hw2 : wrap32 n < 2147483648 := by unfold wrap32; omega
  have hw3 : wrap32 n % 4294967296 = n := by unfold wrap32; omega
  have H := FP.int_back (wrap32 n) hw1 hw2
  simp only at H
  rw [from_word]
  generalize Ieee.double.write (.number (decide (wrap32 n < 0)) (wrap32 n).natAbs 0) = x at *
  obtain ⟨hx, hr, hI, hv, hn⟩ := H
  refine ⟨x, rfl, hx, ?_⟩
  generalize wrap32 n = i at *
  have hnan : FP.isNaN x = false := by unfold FP.isNaN; exact decide_eq_false (by omega)
  have w1 : W64 4746794007248502784 := by unfold W64; omega
  have w2 : W64 13970166044103278592 := by unfold W64; omega
  have n1 : FP.isNaN 4746794007248502784 = false := by decide
  have n2 : FP.isNaN 13970166044103278592 = false := by decide
  have r1 : FP.rung 4746794007248502784 = 4746794007248502784 := by decide
  have r2 : FP.rung 13970166044103278592 = 4746794007248502784 := by decide
  have g1 : FP.neg 4746794007248502784 = false := by decide
  have g2 : FP.neg 13970166044103278592 = true := by decide
  have lt : i.natAbs < 2147483648 → FP.rung x < 4746794007248502784 := fun h => by
    rw [← FP.val_lt_iff, hv, FP.val_int31]
    exact Nat.mul_lt_mul_of_pos_right h (FP.pw_pos 1074)
  have eq : i.natAbs = 2147483648 → FP.rung x = 4746794007248502784 := fun h => by
    rw [← FP.val_eq_iff, hv, FP.val_int31, h]
  have l1 : FP.sval x < FP.sval 4746794007248502784 := by
    rw [FP.sval_lt_iff, r1, g1, hn]
    by_cases hs : i < 0
    · right; right
      exact ⟨decide_eq_true hs, rfl, by omega⟩
    · left
      exact ⟨decide_eq_false hs, rfl, lt (by omega)⟩
  unfold toIntV
  rw [hnan, if_neg (by simp)]
  rw [show FloatKind.f64.format.order x 4746794007248502784 = Ieee.double.order x 4746794007248502784 from rfl, FP.order_eq _ _ hx w1 hnan n1, icmp_lt l1, if_neg (by decide)]
  rw [show FloatKind.f64.format.order x 13970166044103278592 = Ieee.double.order x 13970166044103278592 from rfl, FP.order_eq _ _ hx w2 hnan n2]
  by_cases hm : i = -2147483648
  · have e2 : FP.sval x = FP.sval 13970166044103278592 := by
      rw [FP.sval_eq_iff hx w2]
      left
      have hrx := eq (by omega)
      have hp := parts_of hx
      rw [hn, decide_eq_true (by omega : i < 0), hrx] at hp
      simp at hp
      exact hp
    rw [icmp_eq e2, if_pos (by decide)]
    omega
  · have l2 : FP.sval 13970166044103278592 < FP.sval x := by
      rw [FP.sval_lt_iff, r2, g2, hn]
      have := lt (by omega)
      by_cases hs : i < 0
      · right; left
        exact ⟨rfl, decide_eq_true hs, this⟩
      · right; right
        exact ⟨rfl, decide_eq_false hs, by omega⟩
    rw [icmp_gt l2, if_neg (by decide)]
    unfold floatToIntVal
    rw [show (FloatKind.f64.decode x).toInt .zero = (Ieee.double.read x).toInt .zero from rfl, hI]
    simp only
    rw [if_pos ⟨by show (-2147483648 : Int) ≤ i; omega, by show i ≤ (2147483647 : Int); omega⟩]
    exact hw3

set_option maxRecDepth 100000 in
set_option maxHeartbeats 2000000 in
theorem law_order (a b : Nat) (n : Int) (w : World) (h : W64 a) (h' : W64 b) (h0 : 0 ≤ n) (h1 : n ≤ 4294967295) (ht : Tabs w) :
    Calls Tryd.prog 8 #[.int .u64 a, .int .u64 b, .int .u32 n] w fun e w' => e = .returned (.bool true) ∧ Upd [] w w' := by
  have HW := Lib.hid (works_true w ht)
  have pa : bits .andNot .u64 (a : Int) 9223372036854775808 = ((FP.rung a : Nat) : Int) := andNot_sign h
  have pb : bits .andNot .u64 (b : Int) 9223372036854775808 = ((FP.rung b : Nat) : Int) := andNot_sign h'
  obtain ⟨k, hk, hk64, hkn⟩ := back_to n h0 h1
  have HF := Lib.hid (fun w => from_any n w)
  have HT := Lib.hid (fun w => to_any k w hk64)
  rw [hk] at HF
  rw [hkn] at HT
  obtain ⟨m, l, e, g, hl, he, hg, hm, hcases⟩ := order_tri h h'
  have HL := Lib.hid (fun w => cmp_lt a b l w hl)
  have HE := Lib.hid (fun w => cmp_eq a b e w he)
  have HG := Lib.hid (fun w => cmp_lt b a g w hg)
  have HQ := Lib.hid (fun w => cmp_le a b (l || e) w (by rw [hl, he]))
  have ha : decide ((9218868437227405312 : Int) < ((FP.rung a : Nat) : Int)) = FP.isNaN a := by unfold FP.isNaN; exact decide_eq_decide.2 (by omega)
  have hb : decide ((9218868437227405312 : Int) < ((FP.rung b : Nat) : Int)) = FP.isNaN b := by unfold FP.isNaN; exact decide_eq_decide.2 (by omega)
  generalize FP.rung a = ra at *
  generalize FP.rung b = rb at *
  generalize FP.isNaN a = na at *
  generalize FP.isNaN b = nb at *
  clear h h' ht hk hkn hk64 hl he hg h0 h1
  rcases hcases with ⟨rfl, rfl, rfl, rfl⟩ | ⟨rfl, rfl, rfl, rfl⟩ | ⟨rfl, rfl, rfl, rfl⟩ | ⟨rfl, rfl, rfl, rfl⟩
  all_goals
    (try simp only [Bool.or_false, Bool.or_true, if_true, if_false, Bool.false_eq_true] at HL HE HG HQ)
    cases na <;> cases nb <;> cases hm
    all_goals
      go_enter Tryd.func8, Tryd.ntmps8
      go_wp2_with (first | (go_at_call 13; refine HW.out.mono ?_; rintro e w1 ⟨rfl, hu⟩; have HU := Lib.hid hu; clear hu) | ((with_reducible refine (HL.out _).mono ?_); rintro e w2 ⟨rfl, rfl⟩) | ((with_reducible refine (HE.out _).mono ?_); rintro e w2 ⟨rfl, rfl⟩) | ((with_reducible refine (HG.out _).mono ?_); rintro e w2 ⟨rfl, rfl⟩) | ((with_reducible refine (HQ.out _).mono ?_); rintro e w2 ⟨rfl, rfl⟩) | (go_at_call 17; refine (HF.out _).mono ?_; rintro e w2 ⟨rfl, rfl⟩) | (go_at_call 19; refine (HT.out _).mono ?_; rintro e w2 ⟨rfl, rfl⟩))
      go_ret
      exact ⟨rfl, HU.out⟩
end Go.Proofs.YtcjellbnildpfaaDoor
