/-
  For all numbers the law RealCompares answers true, and its arguments read afterwards as they read before. No condition.
-/
import Derived.Test.YtcioiilepjjfkaaR2
import Derived.Test.YtcioiilepjjfkaaR3
import Derived.ChangeSame
import Derived.OpenShut
import Derived.ProofKit
import Derived.Handy
import Derived.Below
namespace Go.Proofs.Ytcioiilepjjfkaa
open Go.ChangeShapes Go.WideShapes Go.ChangeAt Go.RowKit

theorem less_eq {a b : Nat} (h : W64 a) (h' : W64 b) : (some (compare (FP.sval a) (FP.sval b)) == some Ordering.lt) = lessV a b := by
  unfold W64 at h h'
  have hl := @FP.sval_lt_iff a b
  have key : FP.sval a < FP.sval b ↔ (¬ (FP.rung a = 0 ∧ FP.rung b = 0)) ∧ ordV a < ordV b := by
    rw [hl]
    have na : FP.neg a = true ∧ a = 9223372036854775808 + FP.rung a ∨ FP.neg a = false ∧ a = FP.rung a := by
      unfold FP.neg FP.rung
      by_cases hx : 9223372036854775808 ≤ a
      · left; exact ⟨decide_eq_true hx, by omega⟩
      · right; exact ⟨decide_eq_false hx, by omega⟩
    have nb : FP.neg b = true ∧ b = 9223372036854775808 + FP.rung b ∨ FP.neg b = false ∧ b = FP.rung b := by
      unfold FP.neg FP.rung
      by_cases hx : 9223372036854775808 ≤ b
      · left; exact ⟨decide_eq_true hx, by omega⟩
      · right; exact ⟨decide_eq_false hx, by omega⟩
    unfold ordV
    generalize FP.rung a = ra at *
    generalize FP.rung b = rb at *
    rcases na with ⟨e1, ea⟩ | ⟨e1, ea⟩ <;> rcases nb with ⟨e2, eb⟩ | ⟨e2, eb⟩ <;> rw [e1, e2] <;> simp <;> omega
  unfold lessV
  have e1 : (some (compare (FP.sval a) (FP.sval b)) == some Ordering.lt) = decide (FP.sval a < FP.sval b) := by
    simp only [compare, compareOfLessAndEq]
    by_cases hx : FP.sval a < FP.sval b
    · rw [if_pos hx, decide_eq_true hx]; rfl
    · rw [if_neg hx, decide_eq_false hx]
      split <;> rfl
  rw [e1, Bool.eq_iff_iff]
  simp only [decide_eq_true_eq, Bool.and_eq_true, Bool.not_eq_true', Bool.and_eq_false_iff, decide_eq_false_iff_not]
  rw [key]
  by_cases h1 : FP.rung a = 0 <;> by_cases h2 : FP.rung b = 0 <;> simp [h1, h2]

theorem cmp_any (op : Int) (a b : Nat) (h : W64 a) (h' : W64 b) : ∃ x y : Int, ∀ w : World,
    Calls Try.prog 5 #[.int .i64 op, .int .u64 a, .int .u64 b] w (fun e w' => e = .returned (.tuple #[.int .u32 x, .int .i64 y]) ∧ w = w') ∧
    Calls Try.prog 6 #[.int .i64 op, .int .u64 a, .int .u64 b] w (fun e w' => e = .returned (.tuple #[.int .u32 x, .int .i64 y]) ∧ w = w') := by
  by_cases ho : op = 55 ∨ op = 56 ∨ op = 57
  · by_cases hn : FP.isNaN a = true ∨ FP.isNaN b = true
    · have e : FloatKind.f64.format.order a b = none := FP.order_nan a b h h' hn
      refine ⟨0, 0, fun w => ⟨?_, rcmp_nan op a b w ho h h' hn⟩⟩
      rcases ho with rfl | rfl | rfl
      · exact cmp_eq a b false w (by rw [e]; rfl)
      · exact cmp_lt a b false w (by rw [e]; rfl)
      · exact cmp_le a b false w (by rw [e]; rfl)
    · have n1 : FP.isNaN a = false := by cases hx : FP.isNaN a; rfl; exact absurd (.inl hx) hn
      have n2 : FP.isNaN b = false := by cases hx : FP.isNaN b; rfl; exact absurd (.inr hx) hn
      refine ⟨_, _, fun w => ⟨?_, rcmp_num op a b w ho h h' n1 n2⟩⟩
      have e : FloatKind.f64.format.order a b = some (compare (FP.sval a) (FP.sval b)) := FP.order_eq a b h h' n1 n2
      have hs : (FloatKind.f64.format.order a b == some Ordering.eq) = sameV a b := by
        rw [e]; unfold sameV
        simp only [compare, compareOfLessAndEq]
        have := @FP.sval_eq_iff a b h h'
        by_cases hx : FP.sval a = FP.sval b
        · rw [if_neg (by omega), if_pos hx]
          rw [eq_comm, show ((some Ordering.eq == some Ordering.eq) = true) from rfl]
          simpa using this.1 hx
        · have hy := fun q => hx (this.2 q)
          rw [eq_comm]
          split
          · simp; exact ⟨fun q => hy (.inl q), fun q q' => hy (.inr ⟨q, q'⟩)⟩
          · simp; exact ⟨fun q => hy (.inl q), fun q q' => hy (.inr ⟨q, q'⟩)⟩
      have hl : (FloatKind.f64.format.order a b == some Ordering.lt) = lessV a b := by
        rw [e]
        exact less_eq h h'
      rcases ho with rfl | rfl | rfl
      · have := cmp_eq a b (sameV a b) w hs
        simpa using this
      · have := cmp_lt a b (lessV a b) w hl
        simpa using this
      · have := cmp_le a b (lessV a b || sameV a b) w (by rw [hs, hl])
        rw [Bool.or_comm] at this
        simpa using this
  · exact ⟨0, 5, fun w => ⟨cmp_bad op a b w (fun h => ho (.inl h)) (fun h => ho (.inr (.inl h))) (fun h => ho (.inr (.inr h))), rcmp_bad op a b w (fun h => ho (.inl h)) (fun h => ho (.inr (.inl h))) (fun h => ho (.inr (.inr h)))⟩⟩

theorem compares_any (op : Int) (a b : Nat) (n : Int) (w : World) (h : W64 a) (h' : W64 b) :
    Calls Try.prog 3 #[.int .i64 op, .int .u64 a, .int .u64 b, .int .u32 n] w fun e w' => e = .returned (.bool true) ∧ w = w' := by
  obtain ⟨x, y, hc⟩ := cmp_any op a b h h'
  have H1 := Lib.hid (fun w => (hc w).1)
  have H2 := Lib.hid (fun w => (hc w).2)
  have C1 := Lib.hid (fun w => cls_any a w h)
  have C2 := Lib.hid (fun w => rcls_any a w h)
  have T1 := Lib.hid (fun w => to_any a w h)
  have T2 := Lib.hid (fun w => rto_any a w h)
  clear hc h h'
  go_enter Try.func3, Try.ntmps3
  go_wp2_with (first | ((with_reducible refine (H1.out _).mono ?_); rintro e w' ⟨rfl, rfl⟩) | ((with_reducible refine (H2.out _).mono ?_); rintro e w' ⟨rfl, rfl⟩) | ((with_reducible refine (C1.out _).mono ?_); rintro e w' ⟨rfl, rfl⟩) | ((with_reducible refine (C2.out _).mono ?_); rintro e w' ⟨rfl, rfl⟩) | ((with_reducible refine (T1.out _).mono ?_); rintro e w' ⟨rfl, rfl⟩) | ((with_reducible refine (T2.out _).mono ?_); rintro e w' ⟨rfl, rfl⟩) | (go_at_call 9; refine (from_any _ _).mono ?_; rintro e w' ⟨rfl, rfl⟩) | (go_at_call 10; refine (rfrom_any _ _).mono ?_; rintro e w' ⟨rfl, rfl⟩))
  go_ret
  exact ⟨rfl, rfl⟩

theorem ownR : ownKnob Try.prog.godebug = none := by kernel_rfl

/-- what a number of 64 bits fits -/
theorem wf_u64 {n : Int} (h : (Lit.int .u64 n).wf = true) : ∃ a : Nat, n = a ∧ W64 a := by
  simp only [Lit.wf, decide_eq_true_eq, Bool.and_eq_true] at h
  have h1 : (0 : Int) ≤ n := h.1
  have h2 : n ≤ (18446744073709551615 : Int) := h.2
  exact ⟨n.toNat, by omega, by unfold W64; omega⟩

theorem compares_lifted (os : Os) (started : os.Started) (H : Type) (enc : TypeId × Value → H) :
    ReturnsInHanded {} Try.checked os 3 .any (Rows.realComparesSpec.pre6 enc Try.prog Try.f3 Rows.realComparesRow.domain false) (Rows.realComparesSpec.post enc Try.prog Try.f3 false true false false) := by
  refine returnsInHanded_of_change (C := Try.checked) ownR started (by kernel_rfl) Try.func3
    (ChangeSpec.witness6 (enc := enc) (C := Try.checked) false ⟨#[], #[.int .i64 0, .int .u64 0, .int .u64 0, .int .u32 0], []⟩ 8 (by kernel_rfl) (by kernel_rfl) (by kernel_rfl) (by kernel_rfl)) ?_
  intro W base args ds gs before hval0 hW hcnd _
  have hval : ∀ (j : Nat) t v, Try.f3.params[j]? = some t → args[j]? = some v → Value.okWide Try.prog W .any base t v := hval0
  have hW' := hW
  obtain ⟨p, q, hA0, hV, rfl, hfz, hnd⟩ := hW
  have hA : DataW.TrodAll enc Try.prog W 0 (fun _ => true) true Try.f3.params.toList args.toList ds p := hA0
  rw [Try.params3] at hA hval
  obtain ⟨v0, vs0, d0, ds0, p0, q0, hargs, rfl, rfl, h0, r0⟩ := trodAll_cons hA
  obtain ⟨v1, vs1, d1, ds1, p1, q1, rfl, rfl, rfl, h1, r1⟩ := trodAll_cons r0
  obtain ⟨v2, vs2, d2, ds2, p2, q2, rfl, rfl, rfl, h2, r2⟩ := trodAll_cons r1
  obtain ⟨v3, vs3, d3, ds3, p3, q3, rfl, rfl, rfl, h3, r3⟩ := trodAll_cons r2
  obtain ⟨rfl, rfl, rfl⟩ := trodAll_nil r3
  obtain rfl : args = #[v0, v1, v2, v3] := by cases args; simp_all
  obtain ⟨rfl, rfl⟩ := trodVars_none hV
  obtain ⟨a0, rfl, rfl, rfl, w0⟩ := open_int Try.underlying3 (hval 0 3 v0 rfl rfl) h0
  obtain ⟨a1, rfl, rfl, rfl, w1⟩ := open_int Try.underlying22 (hval 1 22 v1 rfl rfl) h1
  obtain ⟨a2, rfl, rfl, rfl, w2⟩ := open_int Try.underlying22 (hval 2 22 v2 rfl rfl) h2
  obtain ⟨a3, rfl, rfl, rfl, w3⟩ := open_int Try.underlying23 (hval 3 23 v3 rfl rfl) h3
  obtain ⟨n1, rfl, f1⟩ := wf_u64 w1
  obtain ⟨n2, rfl, f2⟩ := wf_u64 w2
  clear hA0 hval0
  refine (compares_any a0 n1 n2 a3 W f1 f2).mono fun e W' ⟨he, bel⟩ => ?_
  subst he
  subst bel
  exact ⟨_, rfl, _, _, _, [], _, [], hW', trodAll_mk1 (shut_bool Try.underlying4 _), (trodAll_cons_mk (shut_int Try.underlying3 w0) (trodAll_cons_mk (shut_int Try.underlying22 w1) (trodAll_cons_mk (shut_int Try.underlying22 w2) (trodAll_cons_mk (shut_int Try.underlying23 w3) trodAll_mk0)))), rfl, (Below.refl _ _).frame _, fun h => by cases h⟩

theorem realCompares_holds : Rows.RealComparesSaid :=
  OpenClaim.holds_of_wide 3 Try.f3 rfl rfl rfl rfl rfl rfl rfl ⟨rfl, rfl, rfl, rfl, rfl⟩ rfl rfl rfl rfl rfl (by kernel_rfl) Try.func3 (by kernel_rfl)
    (of_decide_eq_true (by kernel_rfl)) (by unfold Func.isWrapper; first | (rw [if_pos (by decide +kernel)]; kernel_rfl) | (rw [if_neg (by decide +kernel)]; exact ⟨rfl, rfl⟩))
    (fun os started H enc _ => compares_lifted os started H enc)

#print axioms realCompares_holds
end Go.Proofs.Ytcioiilepjjfkaa
