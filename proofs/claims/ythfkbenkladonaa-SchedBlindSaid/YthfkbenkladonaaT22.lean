/-
  For every configuration, every number of an owner and every three lists of costs the law SchedBlind answers true, and its arguments read afterwards as they read before. No condition.
-/
import Derived.Test.YthfkbenkladonaaT21
import Derived.Test.YthfkbenkladonaaT18
namespace Go.Proofs.Ythfkbenkladonaa
open Go.ChangeShapes Go.WideShapes Go.ChangeAt Go.RowKit

theorem own : ownKnob Try.prog.godebug = none := by kernel_rfl
theorem laidOut : laidOutB Try.prog = true := by kernel_rfl

theorem blind_any (f M G s l d : Int) (P : Value) (A : Option Addr) (cap : Nat) (C : Value) (ws : List Sc.Win) (who : Int) (B1 : Option Addr) (m1 c1 : Nat) (z1 : List Int) (B2 : Option Addr) (m2 c2 : Nat) (z2 : List Int) (B3 : Option Addr) (m3 c3 : Nat) (z3 : List Int) (w : World)
    (h : WinsAt w A ws) (hz1 : IntsAt w B1 m1 z1) (hz2 : IntsAt w B2 m2 z2) (hz3 : IntsAt w B3 m3 z3) :
    Calls Try.prog 4 #[cfgV f M G s l d P A ws.length cap C, .int .i64 who, .slice B1 m1 c1, .slice B2 m2 c2, .slice B3 m3 c3] w fun e w' => e = .returned (.bool true) ∧ Below w.heap.size w w' := by
  have key : Calls Try.prog 4 #[cfgV f M G s l d P A ws.length cap C, .int .i64 who, .slice B1 m1 c1, .slice B2 m2 c2, .slice B3 m3 c3] w fun e w' => e = .returned (.bool true) ∧ Upd [] w w' := by
    by_cases he : planErr M G ws = 0
    · by_cases hn : 0 < ws.length
      · exact blind_main f M G s l d P A cap C ws who B1 m1 c1 z1 B2 m2 c2 z2 B3 m3 c3 z3 w h hz1 hz2 hz3 hn he
      · obtain rfl : ws = [] := List.eq_nil_of_length_eq_zero (by omega)
        exact blind_none f M G s l d P A cap C who _ _ _ w he
    · exact blind_bad f M G s l d P A cap C ws who _ _ _ w h he
  exact key.mono fun e w' ⟨he, hu⟩ => ⟨he, hu.to_below⟩

set_option maxRecDepth 100000 in
theorem blind_lifted (os : Os) (started : os.Started) (H : Type) (enc : TypeId × Value → H) :
    ReturnsInHanded {} Try.checked os 4 .any (Rows.schedBlindSpec.pre6 enc Try.prog Try.f4 Rows.schedBlindRow.domain false) (Rows.schedBlindSpec.post enc Try.prog Try.f4 false true false false) := by
  refine returnsInHanded_of_change (C := Try.checked) own started (by kernel_rfl) Try.func4
    (ChangeSpec.witness6 (enc := enc) (C := Try.checked) false ⟨#[], #[.agg #[.int .i64 0, .int .i64 0, .int .i64 0, .int .i64 0, .int .i64 0, .int .i64 0, .slice none 0 0, .slice none 0 0, .slice none 0 0], .int .i64 0, .slice none 0 0, .slice none 0 0, .slice none 0 0], []⟩ 8 (by kernel_rfl) (by kernel_rfl) (by kernel_rfl) (by kernel_rfl)) ?_
  intro W base args ds gs before hval0 hW hcnd _
  have hval : ∀ (j : Nat) t v, Try.f4.params[j]? = some t → args[j]? = some v → Value.okWide Try.prog W .any base t v := hval0
  have hW' := hW
  obtain ⟨p, q, hA0, hV, rfl, hfz, hnd⟩ := hW
  have hA : DataW.TrodAll enc Try.prog W 0 (fun _ => true) true Try.f4.params.toList args.toList ds p := hA0
  rw [Try.params4] at hA hval
  obtain ⟨v0, vs0, d0, ds0, p0, q0, hargs, rfl, rfl, h0, r0⟩ := trodAll_cons hA
  obtain ⟨v1, vs1, d1, ds1, p1, q1, rfl, rfl, rfl, h1, r1⟩ := trodAll_cons r0
  obtain ⟨v2, vs2, d2, ds2, p2, q2, rfl, rfl, rfl, h2, r2⟩ := trodAll_cons r1
  obtain ⟨v3, vs3, d3, ds3, p3, q3, rfl, rfl, rfl, h3, r3⟩ := trodAll_cons r2
  obtain ⟨v4, vs4, d4, ds4, p4, q4, rfl, rfl, rfl, h4, r4⟩ := trodAll_cons r3
  obtain ⟨rfl, rfl, rfl⟩ := trodAll_nil r4
  obtain rfl : args = #[v0, v1, v2, v3, v4] := by cases args; simp_all
  obtain ⟨rfl, rfl⟩ := trodVars_none hV
  have k0 := h0
  have lt0 : ∀ x ∈ p0, x.block < W.heap.size := by obtain ⟨m, hm⟩ := k0; exact DataW.trod_lt m _ _ _ hm
  have k2 := h2
  have lt2 : ∀ x ∈ p2, x.block < W.heap.size := by obtain ⟨m, hm⟩ := k2; exact DataW.trod_lt m _ _ _ hm
  have k3 := h3
  have lt3 : ∀ x ∈ p3, x.block < W.heap.size := by obtain ⟨m, hm⟩ := k3; exact DataW.trod_lt m _ _ _ hm
  have k4 := h4
  have lt4 : ∀ x ∈ p4, x.block < W.heap.size := by obtain ⟨m, hm⟩ := k4; exact DataW.trod_lt m _ _ _ hm
  obtain ⟨f, M, G, s, l, d', P, A, cap, C, ws, rfl, hwin⟩ := open_cfg (hval 0 26 v0 rfl rfl) h0
  obtain ⟨a1, rfl, rfl, rfl, w1⟩ := open_int Try.underlying3 (hval 1 3 v1 rfl rfl) h1
  obtain ⟨B2, m2, c2, z2, rfl, hz2⟩ := open_nums (hval 2 27 v2 rfl rfl) h2
  obtain ⟨B3, m3, c3, z3, rfl, hz3⟩ := open_nums (hval 3 27 v3 rfl rfl) h3
  obtain ⟨B4, m4, c4, z4, rfl, hz4⟩ := open_nums (hval 4 27 v4 rfl rfl) h4
  clear hA0 hval0
  refine (blind_any f M G s l d' P A cap C ws a1 B2 m2 c2 z2 B3 m3 c3 z3 B4 m4 c4 z4 W hwin hz2 hz3 hz4).mono fun e W' ⟨he, bel⟩ => ?_
  subst he
  exact ⟨_, rfl, _, _, _, [], _, [], hW', trodAll_mk1 (shut_bool Try.underlying4 _), (trodAll_cons_mk (Below.trod laidOut (by kernel_rfl) (of_decide_eq_true (by kernel_rfl)) k0 bel lt0) (trodAll_cons_mk (shut_int Try.underlying3 w1) (trodAll_cons_mk (Below.trod laidOut (by kernel_rfl) (of_decide_eq_true (by kernel_rfl)) k2 bel lt2) (trodAll_cons_mk (Below.trod laidOut (by kernel_rfl) (of_decide_eq_true (by kernel_rfl)) k3 bel lt3) (trodAll_cons_mk (Below.trod laidOut (by kernel_rfl) (of_decide_eq_true (by kernel_rfl)) k4 bel lt4) trodAll_mk0))))), rfl, bel.frame _, fun h => by cases h⟩

theorem schedBlind_holds : Rows.SchedBlindSaid :=
  OpenClaim.holds_of_wide 4 Try.f4 rfl rfl rfl rfl rfl rfl rfl ⟨rfl, rfl, rfl, rfl, rfl⟩ rfl rfl rfl rfl rfl (by kernel_rfl) Try.func4 (by kernel_rfl)
    (of_decide_eq_true (by kernel_rfl)) (by unfold Func.isWrapper; first | (rw [if_pos (by decide +kernel)]; kernel_rfl) | (rw [if_neg (by decide +kernel)]; exact ⟨rfl, rfl⟩))
    (fun os started H enc _ => blind_lifted os started H enc)

#print axioms schedBlind_holds
end Go.Proofs.Ythfkbenkladonaa
