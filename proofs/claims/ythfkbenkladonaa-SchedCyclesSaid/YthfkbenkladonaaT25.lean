/-
  For every configuration and every list of costs and stops the law SchedCycles answers true, and its arguments read afterwards as they read before. No condition.
-/
import Derived.Test.YthfkbenkladonaaT24
import Derived.Test.YthfkbenkladonaaT18
import Derived.Deep.Grids
namespace Go.Proofs.Ythfkbenkladonaa
open Go.ChangeShapes Go.WideShapes Go.ChangeAt Go.RowKit

theorem ownCy : ownKnob Try.prog.godebug = none := by kernel_rfl
theorem laidOutCy : laidOutB Try.prog = true := by kernel_rfl

section
variable {H : Type} {enc : TypeId × Value → H} {W : World} {base : Nat} {held : Bool}

/-- TRUTHS THAT CAME IN -/
theorem open_truths {v : Value} {d : DataW H} {p : List MemPlace} {r : Reach} {b0 : Nat} (hv : Value.okWide Try.prog W r b0 52 v) (h : DataW.Trod enc Try.prog W base (fun _ => true) held 52 v d p) :
    ∃ (A : Option Addr) (n cap : Nat) (bs : List Bool), v = .slice A n cap ∧ BoolsAt W A n bs := by
  obtain ⟨a0, len0, cap0, rfl⟩ := okWide_slice Try.underlying52 hv
  obtain ⟨fuel, hf⟩ := h
  rcases Go.Deep.open_bools Try.underlying52 Try.underlying4 (by kernel_rfl) hf with ⟨hcs, _⟩ | ⟨x, l, c, B, hcs, _, hl, hm, _, hcell⟩
  · simp [Value.cells] at hcs
    obtain ⟨rfl, rfl, rfl⟩ := hcs
    exact ⟨none, 0, 0, [], rfl, fun h => by omega⟩
  · simp [Value.cells] at hcs
    obtain ⟨rfl, rfl, rfl⟩ := hcs
    refine ⟨some x, len0, cap0, (List.range len0).map B, rfl, fun hn => ?_⟩
    have h0 := hcell 0 (by omega)
    have ea : x.add 0 = x := by simp [Addr.add]
    rw [ea] at h0
    have hsp := spot_none h0
    have hlt := World.block_lt_of_cell? W _ h0
    obtain ⟨b, off, spot⟩ := x
    simp only at hsp hlt
    subst hsp
    exact ⟨b, off, rfl, hlt, fun j hj => by have := hcell j (by omega); simpa [addr_add, hj] using this⟩
end
theorem cycles_any (f M G s l d : Int) (P : Value) (A : Option Addr) (cap : Nat) (C : Value) (ws : List Sc.Win) (B : Option Addr) (m bcap : Nat) (zs : List Int) (D : Option Addr) (p dcap : Nat) (bs : List Bool) (w : World)
    (h : WinsAt w A ws) (hz : IntsAt w B m zs) (hbo : BoolsAt w D p bs) :
    Calls Try.prog 5 #[cfgV f M G s l d P A ws.length cap C, .slice B m bcap, .slice D p dcap] w fun e w' => e = .returned (.bool true) ∧ Below w.heap.size w w' := by
  have key : Calls Try.prog 5 #[cfgV f M G s l d P A ws.length cap C, .slice B m bcap, .slice D p dcap] w fun e w' => e = .returned (.bool true) ∧ Upd [] w w' := by
    by_cases he : planErr M G ws = 0
    · by_cases hn : 0 < ws.length
      · exact cycles_main f M G s l d P A cap C ws B m bcap zs D p dcap bs w h hz hbo hn he
      · obtain rfl : ws = [] := List.eq_nil_of_length_eq_zero (by omega)
        exact cycles_none f M G s l d P A cap C B m bcap D p dcap w he
    · exact cycles_bad f M G s l d P A cap C ws B m bcap D p dcap w h he
  exact key.mono fun e w' ⟨he, hu⟩ => ⟨he, hu.to_below⟩

set_option maxRecDepth 100000 in
theorem cycles_lifted (os : Os) (started : os.Started) (H : Type) (enc : TypeId × Value → H) :
    ReturnsInHanded {} Try.checked os 5 .any (Rows.schedCyclesSpec.pre6 enc Try.prog Try.f5 Rows.schedCyclesRow.domain false) (Rows.schedCyclesSpec.post enc Try.prog Try.f5 false true false false) := by
  refine returnsInHanded_of_change (C := Try.checked) ownCy started (by kernel_rfl) Try.func5
    (ChangeSpec.witness6 (enc := enc) (C := Try.checked) false ⟨#[], #[.agg #[.int .i64 0, .int .i64 0, .int .i64 0, .int .i64 0, .int .i64 0, .int .i64 0, .slice none 0 0, .slice none 0 0, .slice none 0 0], .slice none 0 0, .slice none 0 0], []⟩ 8 (by kernel_rfl) (by kernel_rfl) (by kernel_rfl) (by kernel_rfl)) ?_
  intro W base args ds gs before hval0 hW hcnd _
  have hval : ∀ (j : Nat) t v, Try.f5.params[j]? = some t → args[j]? = some v → Value.okWide Try.prog W .any base t v := hval0
  have hW' := hW
  obtain ⟨p, q, hA0, hV, rfl, hfz, hnd⟩ := hW
  have hA : DataW.TrodAll enc Try.prog W 0 (fun _ => true) true Try.f5.params.toList args.toList ds p := hA0
  rw [Try.params5] at hA hval
  obtain ⟨v0, vs0, d0, ds0, p0, q0, hargs, rfl, rfl, h0, r0⟩ := trodAll_cons hA
  obtain ⟨v1, vs1, d1, ds1, p1, q1, rfl, rfl, rfl, h1, r1⟩ := trodAll_cons r0
  obtain ⟨v2, vs2, d2, ds2, p2, q2, rfl, rfl, rfl, h2, r2⟩ := trodAll_cons r1
  obtain ⟨rfl, rfl, rfl⟩ := trodAll_nil r2
  obtain rfl : args = #[v0, v1, v2] := by cases args; simp_all
  obtain ⟨rfl, rfl⟩ := trodVars_none hV
  have k0 := h0
  have lt0 : ∀ x ∈ p0, x.block < W.heap.size := by obtain ⟨m, hm⟩ := k0; exact DataW.trod_lt m _ _ _ hm
  have k1 := h1
  have lt1 : ∀ x ∈ p1, x.block < W.heap.size := by obtain ⟨m, hm⟩ := k1; exact DataW.trod_lt m _ _ _ hm
  have k2 := h2
  have lt2 : ∀ x ∈ p2, x.block < W.heap.size := by obtain ⟨m, hm⟩ := k2; exact DataW.trod_lt m _ _ _ hm
  obtain ⟨f, M, G, s, l, d', P, A, cap, C, ws, rfl, hwin⟩ := open_cfg (hval 0 26 v0 rfl rfl) h0
  obtain ⟨B, m, bcap, zs, rfl, hzs⟩ := open_nums (hval 1 27 v1 rfl rfl) h1
  obtain ⟨D, n, dcap, bs, rfl, hbs⟩ := open_truths (hval 2 52 v2 rfl rfl) h2
  clear hA0 hval0
  refine (cycles_any f M G s l d' P A cap C ws B m bcap zs D n dcap bs W hwin hzs hbs).mono fun e W' ⟨he, bel⟩ => ?_
  subst he
  exact ⟨_, rfl, _, _, _, [], _, [], hW', trodAll_mk1 (shut_bool Try.underlying4 _), (trodAll_cons_mk (Below.trod laidOutCy (by kernel_rfl) (of_decide_eq_true (by kernel_rfl)) k0 bel lt0) (trodAll_cons_mk (Below.trod laidOutCy (by kernel_rfl) (of_decide_eq_true (by kernel_rfl)) k1 bel lt1) (trodAll_cons_mk (Below.trod laidOutCy (by kernel_rfl) (of_decide_eq_true (by kernel_rfl)) k2 bel lt2) trodAll_mk0))), rfl, bel.frame _, fun h => by cases h⟩

theorem schedCycles_holds : Rows.SchedCyclesSaid :=
  OpenClaim.holds_of_wide 5 Try.f5 rfl rfl rfl rfl rfl rfl rfl ⟨rfl, rfl, rfl, rfl, rfl⟩ rfl rfl rfl rfl rfl (by kernel_rfl) Try.func5 (by kernel_rfl)
    (of_decide_eq_true (by kernel_rfl)) (by unfold Func.isWrapper; first | (rw [if_pos (by decide +kernel)]; kernel_rfl) | (rw [if_neg (by decide +kernel)]; exact ⟨rfl, rfl⟩))
    (fun os started H enc _ => cycles_lifted os started H enc)

#print axioms schedCycles_holds
end Go.Proofs.Ythfkbenkladonaa
