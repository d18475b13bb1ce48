/-
  For all numbers the law RealAriths answers true, and its arguments read afterwards as they read before. No condition.
-/
import Derived.Test.YtcioiilepjjfkaaR9
namespace Go.Proofs.Ytcioiilepjjfkaa
open Go.ChangeShapes Go.WideShapes Go.ChangeAt Go.RowKit

attribute [local go_sem] call19 call20

theorem rarith_sqrt (a b : Nat) (w : World) (h : W64 a) :
    Calls Try.prog 14 #[.int .i64 50, .int .u64 a, .int .u64 b] w fun e w' => e = .returned (.tuple #[.int .u64 (canon (Ieee.double.sqrt a)), .int .i64 0]) ∧ ∃ n, w' = w.drewN n := by
  have HE := Lib.hid (fun w => root_any a w h)
  clear h
  generalize canon (Ieee.double.sqrt a) = v at *
  go_enter Try.func14, Try.ntmps14
  go_wp2_with (go_at_call 25; refine (HE.out _).mono ?_; rintro e w' ⟨rfl, rfl⟩)
  go_ret2
  exact ⟨rfl, 0, rfl⟩

theorem ari_any (op : Int) (a b : Nat) (h : W64 a) (h' : W64 b) : ∃ x y : Int, ∀ w : World,
    Calls Try.prog 13 #[.int .i64 op, .int .u64 a, .int .u64 b] w (fun e w' => e = .returned (.tuple #[.int .u64 x, .int .i64 y]) ∧ ∃ n, w' = w.drewN n) ∧
    Calls Try.prog 14 #[.int .i64 op, .int .u64 a, .int .u64 b] w (fun e w' => e = .returned (.tuple #[.int .u64 x, .int .i64 y]) ∧ ∃ n, w' = w.drewN n) := by
  by_cases h1 : op = 46
  · subst h1; exact ⟨_, _, fun w => ⟨arith_add a b w, rarith_add a b w⟩⟩
  by_cases h2 : op = 47
  · subst h2; exact ⟨_, _, fun w => ⟨arith_sub a b w, rarith_sub a b w⟩⟩
  by_cases h3 : op = 48
  · subst h3; exact ⟨_, _, fun w => ⟨arith_mul a b w, rarith_mul a b w⟩⟩
  by_cases h4 : op = 49
  · subst h4; exact ⟨_, _, fun w => ⟨arith_div a b w, rarith_div a b w⟩⟩
  by_cases h5 : op = 50
  · subst h5; exact ⟨_, _, fun w => ⟨arith_sqrt a b w, rarith_sqrt a b w h⟩⟩
  by_cases h6 : op = 51
  · subst h6
    refine ⟨_, _, fun w => ⟨arith_min a b w h h', ?_⟩⟩
    rw [ext_pick a b false h h']; exact rarith_min a b w h h'
  by_cases h7 : op = 52
  · subst h7
    refine ⟨_, _, fun w => ⟨arith_max a b w h h', ?_⟩⟩
    rw [ext_pick a b true h h']; exact rarith_max a b w h h'
  by_cases h8 : op = 53
  · subst h8; exact ⟨_, _, fun w => ⟨arith_neg a b w, rarith_neg a b w⟩⟩
  by_cases h9 : op = 54
  · subst h9; exact ⟨_, _, fun w => ⟨arith_abs a b w, rarith_abs a b w⟩⟩
  · exact ⟨_, _, fun w => ⟨arith_bad op a b w ⟨h1, h2, h3, h4, h5, h6, h7, h8, h9⟩, rarith_bad op a b w ⟨h1, h2, h3, h4, h5, h6, h7, h8, h9⟩⟩⟩

theorem ariths_any (op : Int) (a b : Nat) (w : World) (h : W64 a) (h' : W64 b) :
    Calls Try.prog 4 #[.int .i64 op, .int .u64 a, .int .u64 b] w fun e w' => e = .returned (.bool true) ∧ Below w.heap.size w w' := by
  obtain ⟨x, y, hc⟩ := ari_any op a b h h'
  have H1 := Lib.hid (fun w => (hc w).1)
  have H2 := Lib.hid (fun w => (hc w).2)
  clear hc h h'
  go_enter Try.func4, Try.ntmps4
  go_wp2_with (first | (go_at_call 13; refine (H1.out _).mono ?_; rintro e w1 ⟨rfl, n, rfl⟩) | (go_at_call 14; refine (H2.out _).mono ?_; rintro e w1 ⟨rfl, m, rfl⟩))
  go_ret
  exact ⟨rfl, ⟨rfl, rfl, rfl, Nat.le_refl _, fun _ _ => rfl⟩⟩

theorem ariths_lifted (os : Os) (started : os.Started) (H : Type) (enc : TypeId × Value → H) :
    ReturnsInHanded {} Try.checked os 4 .any (Rows.realArithsSpec.pre6 enc Try.prog Try.f4 Rows.realArithsRow.domain false) (Rows.realArithsSpec.post enc Try.prog Try.f4 false true false false) := by
  refine returnsInHanded_of_change (C := Try.checked) ownR started (by kernel_rfl) Try.func4
    (ChangeSpec.witness6 (enc := enc) (C := Try.checked) false ⟨#[], #[.int .i64 0, .int .u64 0, .int .u64 0], []⟩ 8 (by kernel_rfl) (by kernel_rfl) (by kernel_rfl) (by kernel_rfl)) ?_
  intro W base args ds gs before hval0 hW hcnd _
  have hval : ∀ (j : Nat) t v, Try.f4.params[j]? = some t → args[j]? = some v → Value.okWide Try.prog W .any base t v := hval0
  have hW' := hW
  obtain ⟨p, q, hA0, hV, rfl, hfz, hnd⟩ := hW
  have hA : DataW.TrodAll enc Try.prog W 0 (fun _ => true) true Try.f4.params.toList args.toList ds p := hA0
  rw [Try.params4] at hA hval
  obtain ⟨v0, vs0, d0, ds0, p0, q0, hargs, rfl, rfl, h0, r0⟩ := trodAll_cons hA
  obtain ⟨v1, vs1, d1, ds1, p1, q1, rfl, rfl, rfl, h1, r1⟩ := trodAll_cons r0
  obtain ⟨v2, vs2, d2, ds2, p2, q2, rfl, rfl, rfl, h2, r2⟩ := trodAll_cons r1
  obtain ⟨rfl, rfl, rfl⟩ := trodAll_nil r2
  obtain rfl : args = #[v0, v1, v2] := by cases args; simp_all
  obtain ⟨rfl, rfl⟩ := trodVars_none hV
  obtain ⟨a0, rfl, rfl, rfl, w0⟩ := open_int Try.underlying3 (hval 0 3 v0 rfl rfl) h0
  obtain ⟨a1, rfl, rfl, rfl, w1⟩ := open_int Try.underlying22 (hval 1 22 v1 rfl rfl) h1
  obtain ⟨a2, rfl, rfl, rfl, w2⟩ := open_int Try.underlying22 (hval 2 22 v2 rfl rfl) h2
  obtain ⟨n1, rfl, f1⟩ := wf_u64 w1
  obtain ⟨n2, rfl, f2⟩ := wf_u64 w2
  clear hA0 hval0
  refine (ariths_any a0 n1 n2 W f1 f2).mono fun e W' ⟨he, bel⟩ => ?_
  subst he
  exact ⟨_, rfl, _, _, _, [], _, [], hW', trodAll_mk1 (shut_bool Try.underlying4 _), (trodAll_cons_mk (shut_int Try.underlying3 w0) (trodAll_cons_mk (shut_int Try.underlying22 w1) (trodAll_cons_mk (shut_int Try.underlying22 w2) trodAll_mk0))), rfl, bel.frame _, fun h => by cases h⟩

theorem realAriths_holds : Rows.RealArithsSaid :=
  OpenClaim.holds_of_wide 4 Try.f4 rfl rfl rfl rfl rfl rfl rfl ⟨rfl, rfl, rfl, rfl, rfl⟩ rfl rfl rfl rfl rfl (by kernel_rfl) Try.func4 (by kernel_rfl)
    (of_decide_eq_true (by kernel_rfl)) (by unfold Func.isWrapper; first | (rw [if_pos (by decide +kernel)]; kernel_rfl) | (rw [if_neg (by decide +kernel)]; exact ⟨rfl, rfl⟩))
    (fun os started H enc _ => ariths_lifted os started H enc)

#print axioms realAriths_holds
end Go.Proofs.Ytcioiilepjjfkaa
