/-
  For every configuration and every list of acts the law SchedPlays answers true, and its arguments read afterwards as they read before. No condition.
-/
import Derived.Test.YthfkbenkladonaaT36
import Derived.Test.YthfkbenkladonaaT18
import Derived.SizedLaws
namespace Go.Proofs.Ythfkbenkladonaa
open Go.Joins Go.ChangeShapes Go.WideShapes Go.RowKit Go.Deep Go.ChangeAt

theorem ownPl : ownKnob Try.prog.godebug = none := by kernel_rfl
theorem laidOutPl : laidOutB Try.prog = true := by kernel_rfl
theorem bytes45 : Try.prog.bytesOf 45 = 24 := by kernel_rfl

section
variable {H : Type} {enc : TypeId × Value → H} {P : Program} {w : World} {base : Nat} {spare : Nat → Bool} {held : Bool}
theorem open_agg9w {r : Reach} {b0 : Nat} {t : TypeId} {f0 f1 f2 f3 f4 f5 f6 f7 f8 : Field} {v : Value} {d : DataW H} {p : List MemPlace} (hs : P.underlying t = some (.struct #[f0, f1, f2, f3, f4, f5, f6, f7, f8])) (hone : oneCellFields P #[f0, f1, f2, f3, f4, f5, f6, f7, f8] = true) (hC : P.cellsOf t = 9)
    (hv : Value.okWide P w r b0 t v) (h : DataW.Trod enc P w base spare held t v d p) :
    ∃ (v0 v1 v2 v3 v4 v5 v6 v7 v8 : Value) (y0 y1 y2 y3 y4 y5 y6 y7 y8 : DataW H × List MemPlace) (n : Nat), v = .agg #[v0, v1, v2, v3, v4, v5, v6, v7, v8] ∧ d = .agg [y0.1, y1.1, y2.1, y3.1, y4.1, y5.1, y6.1, y7.1, y8.1] ∧ DataW.trod enc P w base spare held n f0.type [v0] = some y0 ∧ DataW.trod enc P w base spare held n f1.type [v1] = some y1 ∧ DataW.trod enc P w base spare held n f2.type [v2] = some y2 ∧ DataW.trod enc P w base spare held n f3.type [v3] = some y3 ∧ DataW.trod enc P w base spare held n f4.type [v4] = some y4 ∧ DataW.trod enc P w base spare held n f5.type [v5] = some y5 ∧ DataW.trod enc P w base spare held n f6.type [v6] = some y6 ∧ DataW.trod enc P w base spare held n f7.type [v7] = some y7 ∧ DataW.trod enc P w base spare held n f8.type [v8] = some y8 := by
  obtain ⟨cs, rfl, hsz⟩ := okWide_struct hs hv
  obtain ⟨l⟩ := cs
  match l, hsz.trans hC with
  | [c0, c1, c2, c3, c4, c5, c6, c7, c8], _ =>
    obtain ⟨fuel, hf⟩ := h
    obtain ⟨xs, n, _, hx, _, hlen, hg⟩ := DataW.trod_struct hs hf
    obtain ⟨o0, k0⟩ := hone_of hone 0 f0 rfl
    obtain ⟨o1, k1⟩ := hone_of hone 1 f1 rfl
    obtain ⟨o2, k2⟩ := hone_of hone 2 f2 rfl
    obtain ⟨o3, k3⟩ := hone_of hone 3 f3 rfl
    obtain ⟨o4, k4⟩ := hone_of hone 4 f4 rfl
    obtain ⟨o5, k5⟩ := hone_of hone 5 f5 rfl
    obtain ⟨o6, k6⟩ := hone_of hone 6 f6 rfl
    obtain ⟨o7, k7⟩ := hone_of hone 7 f7 rfl
    obtain ⟨o8, k8⟩ := hone_of hone 8 f8 rfl
    simp only [Prod.mk.injEq] at hx
    match xs, hlen with
    | [y0, y1, y2, y3, y4, y5, y6, y7, y8], _ =>
      exact ⟨c0, c1, c2, c3, c4, c5, c6, c7, c8, y0, y1, y2, y3, y4, y5, y6, y7, y8, n, rfl, hx.1, by simpa [Value.cells, o0, k0] using hg 0 f0 rfl, by simpa [Value.cells, o1, k1] using hg 1 f1 rfl, by simpa [Value.cells, o2, k2] using hg 2 f2 rfl, by simpa [Value.cells, o3, k3] using hg 3 f3 rfl, by simpa [Value.cells, o4, k4] using hg 4 f4 rfl, by simpa [Value.cells, o5, k5] using hg 5 f5 rfl, by simpa [Value.cells, o6, k6] using hg 6 f6 rfl, by simpa [Value.cells, o7, k7] using hg 7 f7 rfl, by simpa [Value.cells, o8, k8] using hg 8 f8 rfl⟩

theorem slice_of {t e : TypeId} {fuel : Nat} {v : Value} {x : DataW H × List MemPlace} (ht : P.underlying t = some (.slice e)) (h : DataW.trod enc P w base spare held fuel t [v] = some x) : ∃ A n c, v = .slice A n c := by
  rcases open_slice ht h with ⟨h0, _⟩ | ⟨a, len, cap, m, n, D, Pl, hcs, _⟩
  · simp only [List.cons.injEq, and_true] at h0; exact ⟨_, _, _, h0⟩
  · simp only [List.cons.injEq, and_true] at hcs; exact ⟨_, _, _, hcs⟩
end

section
variable {H : Type} {enc : TypeId × Value → H} {W : World} {base : Nat} {held : Bool}
/-- A CONFIGURATION THAT CAME IN, with how many windows its datum has -/
theorem open_cfg2 {r : Reach} {b0 : Nat} {v : Value} {d : DataW H} {p : List MemPlace} (hv : Value.okWide Try.prog W r b0 26 v) (h : DataW.Trod enc Try.prog W base (fun _ => true) held 26 v d p) :
    ∃ (f M G s l d' : Int) (PA : Option Addr) (pn pc : Nat) (A : Option Addr) (cap : Nat) (CA : Option Addr) (cn cc : Nat) (ws : List Sc.Win), v = cfgV f M G s l d' (.slice PA pn pc) A ws.length cap (.slice CA cn cc) ∧ WinsAt W A ws ∧
      (ws.length = 0 ∨ ∃ parts elems sp, d = .agg parts ∧ parts[7]? = some (.slice elems sp) ∧ elems.length = ws.length) := by
  obtain ⟨v0, v1, v2, v3, v4, v5, v6, v7, v8, y0, y1, y2, y3, y4, y5, y6, y7, y8, n, rfl, hd, h0, h1, h2, h3, h4, h5, h6, h7, h8⟩ := open_agg9w Try.underlying26 (by kernel_rfl) (by kernel_rfl) hv h
  obtain ⟨x0, e0, _, _⟩ := DataW.trod_int Try.underlying3 h0
  obtain ⟨x1, e1, _, _⟩ := DataW.trod_int Try.underlying3 h1
  obtain ⟨x2, e2, _, _⟩ := DataW.trod_int Try.underlying3 h2
  obtain ⟨x3, e3, _, _⟩ := DataW.trod_int Try.underlying3 h3
  obtain ⟨x4, e4, _, _⟩ := DataW.trod_int Try.underlying3 h4
  obtain ⟨x5, e5, _, _⟩ := DataW.trod_int Try.underlying3 h5
  simp only [List.cons.injEq, and_true] at e0 e1 e2 e3 e4 e5
  subst e0 e1 e2 e3 e4 e5
  obtain ⟨PA, pn, pc, rfl⟩ := slice_of Try.underlying22 h6
  obtain ⟨CA, cn, cc, rfl⟩ := slice_of Try.underlying24 h8
  rcases open_slice_fields Try.underlying23 Try.underlying45 (by kernel_rfl) (by kernel_rfl) h7 with ⟨hcs, _⟩ | ⟨a, len, cap, m, D, Pl, hcs, _, hl, _, hm, hy7, hc⟩
  · simp only [List.cons.injEq, and_true] at hcs
    subst hcs
    exact ⟨x0, x1, x2, x3, x4, x5, PA, pn, pc, none, 0, CA, cn, cc, [], rfl, fun h => by simp at h, .inl rfl⟩
  · simp only [List.cons.injEq, and_true] at hcs
    subst hcs
    simp only [if_true] at hm
    have hwin : ∀ i, i < len → ∃ x : Sc.Win, W.cell? (a.add (i * 3)) = some (.int .i64 x.o) ∧ W.cell? (a.add (i * 3 + 1)) = some (.int .i64 x.s) ∧ W.cell? (a.add (i * 3 + 2)) = some (.int .i64 x.l) := by
      intro i hi
      obtain ⟨ys, n', _, _, _, hf⟩ := hc i (by omega)
      obtain ⟨u0, z0, c0, _, t0⟩ := hf 0 _ rfl
      obtain ⟨u1, z1, c1, _, t1⟩ := hf 1 _ rfl
      obtain ⟨u2, z2, c2, _, t2⟩ := hf 2 _ rfl
      obtain ⟨w0, e0, _, _⟩ := DataW.trod_int Try.underlying3 t0
      obtain ⟨w1, e1, _, _⟩ := DataW.trod_int Try.underlying3 t1
      obtain ⟨w2, e2, _, _⟩ := DataW.trod_int Try.underlying3 t2
      simp only [List.cons.injEq, and_true] at e0 e1 e2
      subst e0 e1 e2
      exact ⟨⟨w0, w1, w2⟩, c0, c1, c2⟩
    obtain ⟨ws, hlen, hq⟩ := choose_list len hwin
    subst hlen
    refine ⟨x0, x1, x2, x3, x4, x5, PA, pn, pc, some a, cap, CA, cn, cc, ws, rfl, fun hn => ?_, .inr ⟨_, _, _, hd, by rw [hy7]; rfl, by simp⟩⟩
    have hsp : a.spot = none := by
      have := (hq 0 hn).1
      simp only [Nat.zero_mul] at this
      have ea : a.add 0 = a := by simp [Addr.add]
      rw [ea] at this
      exact spot_none this
    obtain ⟨b, off, spot⟩ := a
    simp only at hsp
    subst hsp
    refine ⟨b, off, rfl, flat_cells ws (fun i hi => ?_)⟩
    obtain ⟨c0, c1, c2⟩ := hq i hi
    exact ⟨by simpa [addr_add] using c0, by simpa [addr_add, Nat.add_assoc] using c1, by simpa [addr_add, Nat.add_assoc] using c2⟩

/-- ACTS THAT CAME IN -/
theorem open_ops {v : Value} {d : DataW H} {p : List MemPlace} {r : Reach} {b0 : Nat} (hv : Value.okWide Try.prog W r b0 56 v) (h : DataW.Trod enc Try.prog W base (fun _ => true) held 56 v d p) :
    ∃ (D : Option Addr) (n cap : Nat) (os : List (Int × Int)), v = .slice D n cap ∧ OpsAt W D n os := by
  obtain ⟨a0, len0, cap0, rfl⟩ := okWide_slice Try.underlying56 hv
  obtain ⟨fuel, hf⟩ := h
  rcases open_slice_fields Try.underlying56 Try.underlying61 (by kernel_rfl) (by kernel_rfl) hf with ⟨hcs, _⟩ | ⟨a, len, cap, m, D, Pl, hcs, _, hl, _, hm, _, hc⟩
  · simp [Value.cells] at hcs
    obtain ⟨rfl, rfl, rfl⟩ := hcs
    exact ⟨none, 0, 0, [], rfl, fun h => by omega⟩
  · simp [Value.cells] at hcs
    obtain ⟨rfl, rfl, rfl⟩ := hcs
    simp only [if_true] at hm
    have hop : ∀ i, i < len0 → ∃ x : Int × Int, W.cell? (a.add (i * 2)) = some (.int .i64 x.1) ∧ W.cell? (a.add (i * 2 + 1)) = some (.int .i64 x.2) := by
      intro i hi
      obtain ⟨ys, n', _, _, _, hf⟩ := hc i (by omega)
      obtain ⟨u0, z0, c0, _, t0⟩ := hf 0 _ rfl
      obtain ⟨u1, z1, c1, _, t1⟩ := hf 1 _ rfl
      obtain ⟨w0, e0, _, _⟩ := DataW.trod_int Try.underlying3 t0
      obtain ⟨w1, e1, _, _⟩ := DataW.trod_int Try.underlying3 t1
      simp only [List.cons.injEq, and_true] at e0 e1
      subst e0 e1
      exact ⟨(w0, w1), c0, c1⟩
    obtain ⟨os, hlen, hq⟩ := choose_list len0 hop
    refine ⟨some a, len0, cap0, os, rfl, fun hn => ?_⟩
    have h0 := (hq 0 hn).1
    simp only [Nat.zero_mul] at h0
    have ea : a.add 0 = a := by simp [Addr.add]
    rw [ea] at h0
    have hsp := spot_none h0
    have hlt := World.block_lt_of_cell? W _ h0
    obtain ⟨b, off, spot⟩ := a
    simp only at hsp hlt
    subst hsp
    refine ⟨b, off, rfl, hlt, fun j hj => ?_⟩
    obtain ⟨c0, c1⟩ := hq j hj
    rw [show ((0 : Int), (0 : Int)) = default from rfl]
    exact ⟨by simpa [addr_add] using c0, by simpa [addr_add, Nat.add_assoc] using c1⟩
end

set_option maxRecDepth 100000 in
theorem plays_lifted (os : Os) (started : os.Started) (H : Type) (enc : TypeId × Value → H) :
    ReturnsInHanded {} Try.checked os 6 .any (Rows.schedPlaysSpec.pre6 enc Try.prog Try.f6 Rows.schedPlaysRow.domain false) (Rows.schedPlaysSpec.post enc Try.prog Try.f6 false true false false) := by
  refine returnsInHanded_of_change_sized (C := Try.checked) ownPl started (by kernel_rfl) Try.func6
    (ChangeSpec.witness6 (enc := enc) (C := Try.checked) false ⟨#[], #[.agg #[.int .i64 0, .int .i64 0, .int .i64 0, .int .i64 0, .int .i64 0, .int .i64 0, .slice none 0 0, .slice none 0 0, .slice none 0 0], .slice none 0 0], []⟩ 8 (by kernel_rfl) (by kernel_rfl) (by kernel_rfl) (by kernel_rfl)) ?_
  intro W base args ds gs before hval0 hW hcnd hsz0 _
  have hval : ∀ (j : Nat) t v, Try.f6.params[j]? = some t → args[j]? = some v → Value.okWide Try.prog W .any base t v := hval0
  have hsz : (DataW.weightsEach Try.prog (Try.f6.params.toList ++ Rows.schedPlaysSpec.plain.varTypes Try.prog) (ds ++ gs)).all (· ≤ reachBytes) = true := hsz0
  have hW' := hW
  obtain ⟨p, q, hA0, hV, rfl, hfz, hnd⟩ := hW
  have hA : DataW.TrodAll enc Try.prog W 0 (fun _ => true) true Try.f6.params.toList args.toList ds p := hA0
  rw [Try.params6] at hA hval hsz
  obtain ⟨v0, vs0, d0, ds0, p0, q0, hargs, rfl, rfl, h0, r0⟩ := trodAll_cons hA
  obtain ⟨v1, vs1, d1, ds1, p1, q1, rfl, rfl, rfl, h1, r1⟩ := trodAll_cons r0
  obtain ⟨rfl, rfl, rfl⟩ := trodAll_nil r1
  obtain rfl : args = #[v0, v1] := by cases args; simp_all
  obtain ⟨rfl, rfl⟩ := trodVars_none hV
  have k0 := h0
  have lt0 : ∀ x ∈ p0, x.block < W.heap.size := by obtain ⟨m, hm⟩ := k0; exact DataW.trod_lt m _ _ _ hm
  have k1 := h1
  have lt1 : ∀ x ∈ p1, x.block < W.heap.size := by obtain ⟨m, hm⟩ := k1; exact DataW.trod_lt m _ _ _ hm
  obtain ⟨f, M, G, s, l, d', PA, pn, pc, A, cap, CA, cn, cc, ws, rfl, hwin, hbig⟩ := open_cfg2 (hval 0 26 v0 rfl rfl) h0
  obtain ⟨D, n, dcap, acts, rfl, has⟩ := open_ops (hval 1 56 v1 rfl rfl) h1
  have hlen : ws.length * 24 ≤ 140737488355328 := by
    rcases hbig with h | ⟨parts, elems, sp, rfl, hp, he⟩
    · omega
    · have hm := DataW.weights_mem_each (P := Try.prog) (ts := [22, 23, 24].take 0 ++ [3, 3, 3, 3, 3, 3, 22, 23, 24]) (j := 7) (t := 23) rfl hp ((elems.length + sp.length) * Try.prog.bytesOf 45) (by simp [DataW.weights, Try.underlying23])
      have hm2 := DataW.weights_mem_each (P := Try.prog) (ts := [26, 56] ++ Rows.schedPlaysSpec.plain.varTypes Try.prog) (ds := [.agg parts, d1] ++ []) (j := 0) (t := 26) rfl rfl ((elems.length + sp.length) * Try.prog.bytesOf 45) (by simp only [DataW.weights, Try.underlying26]; exact hm)
      have hle : (elems.length + sp.length) * Try.prog.bytesOf 45 ≤ reachBytes := of_decide_eq_true (List.all_eq_true.1 hsz _ hm2)
      rw [bytes45] at hle
      unfold reachBytes at hle
      omega
  clear hA0 hval0 hbig
  refine (plays_any f M G s l d' PA pn pc A cap CA cn cc ws D n dcap acts W hwin has hlen).mono fun e W' ⟨he, hu⟩ => ?_
  subst he
  have bel := hu.to_below
  exact ⟨_, rfl, _, _, _, [], _, [], hW', trodAll_mk1 (shut_bool Try.underlying4 _), (trodAll_cons_mk (Below.trod laidOutPl (by kernel_rfl) (of_decide_eq_true (by kernel_rfl)) k0 bel lt0) (trodAll_cons_mk (Below.trod laidOutPl (by kernel_rfl) (of_decide_eq_true (by kernel_rfl)) k1 bel lt1) trodAll_mk0)), rfl, bel.frame _, fun h => by cases h⟩

theorem schedPlays_holds : Rows.SchedPlaysSaid :=
  OpenClaim.holds_of_wide 6 Try.f6 rfl rfl rfl rfl rfl rfl rfl ⟨rfl, rfl, rfl, rfl, rfl⟩ rfl rfl rfl rfl rfl (by kernel_rfl) Try.func6 (by kernel_rfl)
    (of_decide_eq_true (by kernel_rfl)) (by unfold Func.isWrapper; first | (rw [if_pos (by decide +kernel)]; kernel_rfl) | (rw [if_neg (by decide +kernel)]; exact ⟨rfl, rfl⟩))
    (fun os started H enc _ => plays_lifted os started H enc)

#print axioms schedPlays_holds
end Go.Proofs.Ythfkbenkladonaa
