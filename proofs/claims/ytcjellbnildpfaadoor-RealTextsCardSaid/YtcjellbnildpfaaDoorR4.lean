/-
  For all numbers the law RealCompares answers true, and its arguments read afterwards as they read before. No condition.
-/
import Derived.Test.YtcjellbnildpfaaDoorR2
import Derived.Test.YtcjellbnildpfaaDoorR3
import Derived.ChangeSame
import Derived.OpenShut
import Derived.ProofKit
import Derived.Handy
import Derived.Below
namespace Go.Proofs.YtcjellbnildpfaaDoor
open Go.ChangeShapes Go.WideShapes Go.ChangeAt Go.RowKit

theorem less_eq {a b : Nat} (h : W64 a) (h' : W64 b) : (some (compare (FP.sval a) (FP.sval b)) == some Ordering.lt) = lessV a b := by
  unfold W64 at h h'
  have hl := @FP.sval_lt_iff a b
  have key : FP.sval a < FP.sval b ↔ (¬ (FP.rung a = 0 ∧ FP.rung b = 0)) ∧ ordV a < ordV b := by
    rw [hl]
    have na : FP.neg a = true ∧ a = 9223372036854775808 + FP.rung a ∨ FP.neg a = false ∧ a = FP.rung a := by
      unfold FP.neg FP.rung
      by_cases hx : 9223372036854775808 ≤ a
      · left; exact ⟨decide_eq_true hx, by omega⟩
      · right; exact ⟨decide_eq_false hx, by omega⟩
    have nb : FP.neg b = true ∧ b = 9223372036854775808 + FP.rung b ∨ FP.neg b = false ∧ b = FP.rung b := by
      unfold FP.neg FP.rung
      by_cases hx : 9223372036854775808 ≤ b
      · left; exact ⟨decide_eq_true hx, by omega⟩
      · right; exact ⟨decide_eq_false hx, by omega⟩
    unfold ordV
    generalize FP.rung a = ra at *
    generalize FP.rung b = rb at *
    rcases na with ⟨e1, ea⟩ | ⟨e1, ea⟩ <;> rcases nb with ⟨e2, eb⟩ | ⟨e2, eb⟩ <;> rw [e1, e2] <;> simp <;> omega
  unfold lessV
  have e1 : (some (compare (FP.sval a) (FP.sval b)) == some Ordering.lt) = decide (FP.sval a < FP.sval b) := by
    simp only [compare, compareOfLessAndEq]
    by_cases hx : FP.sval a < FP.sval b
    · rw [if_pos hx, decide_eq_true hx]; rfl
    · rw [if_neg hx, decide_eq_false hx]
      split <;> rfl
  rw [e1, Bool.eq_iff_iff]
  simp only [decide_eq_true_eq, Bool.and_eq_true, Bool.not_eq_true', Bool.and_eq_false_iff, decide_eq_false_iff_not]
  rw [key]
  by_cases h1 : FP.rung a = 0 <;> by_cases h2 : FP.rung b = 0 <;> simp [h1, h2]

theorem ownR : ownKnob Tryd.prog.godebug = none := by kernel_rfl

/-- what a number of 64 bits fits -/
theorem wf_u64 {n : Int} (h : (Lit.int .u64 n).wf = true) : ∃ a : Nat, n = a ∧ W64 a := by
  simp only [Lit.wf, decide_eq_true_eq, Bool.and_eq_true] at h
  have h1 : (0 : Int) ≤ n := h.1
  have h2 : n ≤ (18446744073709551615 : Int) := h.2
  exact ⟨n.toNat, by omega, by unfold W64; omega⟩

end Go.Proofs.YtcjellbnildpfaaDoor
