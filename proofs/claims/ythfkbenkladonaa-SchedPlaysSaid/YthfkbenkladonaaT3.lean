/-
  The frame table's Window, Start, Next and Budget: what each answers. Conditions: the table lies in memory, the window's number is one of it.
-/
import Derived.Test.YthfkbenkladonaaT2
import Derived.Test.YthfkbenkladonaaPl2
import Derived.Handy
namespace Go.Proofs.Ythfkbenkladonaa
open Go.RowKit

/-- a frame table in memory -/
structure PlanAt (w : World) (pb wb : Nat) (M G : Int) (ws : List Sc.Win) : Prop where
  blk : ∃ A cap, Blk w pb #[.int .i64 M, .int .i64 G, .slice A ws.length cap] 90 ∧ ws.length ≤ cap ∧ (0 < ws.length → A = some ⟨wb, 0, none⟩)
  cells : ∀ i, i < ws.length → w.cell? ⟨wb, i * 3, none⟩ = some (.int .i64 (ws.getD i default).o) ∧ w.cell? ⟨wb, i * 3 + 1, none⟩ = some (.int .i64 (ws.getD i default).s) ∧ w.cell? ⟨wb, i * 3 + 2, none⟩ = some (.int .i64 (ws.getD i default).l)
  small : ws.length ≤ 32

theorem PlanAt.upd {S : List Nat} {w w' : World} {pb wb : Nat} {M G : Int} {ws : List Sc.Win} (h : PlanAt w pb wb M G ws) (u : Upd S w w') (h1 : pb ∉ S) (h2 : wb ∉ S) : PlanAt w' pb wb M G ws := by
  obtain ⟨⟨A, cap, hb, hc, ha⟩, hcells, hs⟩ := h
  refine ⟨⟨A, cap, u.blk hb h1, hc, ha⟩, fun i hi => ?_, hs⟩
  obtain ⟨c0, c1, c2⟩ := hcells i hi
  have hlt := World.block_lt_of_cell? w _ c0
  have e : w'.heap[wb]? = w.heap[wb]? := u.block wb hlt h2
  exact ⟨(World.cell?_of_block (w := w) e).trans c0, (World.cell?_of_block (w := w) e).trans c1, (World.cell?_of_block (w := w) e).trans c2⟩

set_option maxHeartbeats 400000 in
theorem window_ok (pb wb : Nat) (M G : Int) (ws : List Sc.Win) (i : Nat) (w : World) (h : PlanAt w pb wb M G ws) (hi : i < ws.length) :
    Calls Try.prog 28 #[.pointer (some ⟨pb, 0, none⟩), .int .i64 i] w fun e w' => e = .returned (.tuple #[.agg #[.int .i64 (ws.getD i default).o, .int .i64 (ws.getD i default).s, .int .i64 (ws.getD i default).l], .int .i64 0]) ∧ Upd [] w w' := by
  obtain ⟨⟨A, cap, hb, hcap, hA⟩, hcells, hsm⟩ := h
  obtain rfl := hA (by omega)
  obtain ⟨x0, x1, x2⟩ := hcells i hi
  have c2 := hb.c2
  have lp := hb.lt
  have lw := World.block_lt_of_cell? w _ x0
  simp only at lw
  clear hcells
  generalize ws.length = n at *
  generalize (ws.getD i default).o = o at *
  generalize (ws.getD i default).s = s at *
  generalize (ws.getD i default).l = l at *
  go_enter Try.func28, Try.ntmps28
  go_wp2
  exact bodyPost_ret (v := .tuple #[.agg #[.int .i64 o, .int .i64 s, .int .i64 l], .int .i64 0]) (by simp [results, Try.results28, go_sem]) rfl ⟨rfl, (Upd.refl _ _).alloc _⟩

set_option maxHeartbeats 400000 in
theorem start_ok (pb wb : Nat) (M G k : Int) (ws : List Sc.Win) (i : Nat) (w : World) (h : PlanAt w pb wb M G ws) (hi : i < ws.length)
    (hk : 0 ≤ k) (hM : 1 ≤ M) (hq : k ≤ 281474976710656 / M) (h0 : 0 ≤ k * M) (hm : k * M ≤ 281474976710656 - (ws.getD i default).s) (hs : 0 ≤ (ws.getD i default).s) (hs2 : (ws.getD i default).s ≤ 16777216) :
    Calls Try.prog 27 #[.pointer (some ⟨pb, 0, none⟩), .int .i64 k, .int .i64 i] w fun e w' => e = .returned (.tuple #[.int .i64 (k * M + (ws.getD i default).s), .int .i64 0]) ∧ Upd [] w w' := by
  have hwin := window_ok pb wb M G ws i w h hi
  obtain ⟨⟨A, cap, hb, hcap, hA⟩, hcells, hsm⟩ := h
  clear hcells hA hcap
  generalize (ws.getD i default).o = o at *
  generalize (ws.getD i default).s = s at *
  generalize (ws.getD i default).l = l at *
  generalize ws.length = n at *
  have HW := Lib.hid hwin
  clear hwin
  go_enter Try.func27, Try.ntmps27
  go_wp2_with (go_at_call 28; refine HW.out.mono ?_; rintro e w1 ⟨rfl, hu⟩; have hb1 := hu.blk hb (by simp); have c0 := hb1.c0; have l1 := hb1.lt)
  have g1 : decide (k < 0) = false := by simp; omega
  have g2 : decide (281474976710656 / M < k) = false := by simp; omega
  have g3 : decide (281474976710656 - s < k * M) = false := by simp; omega
  have e0 : IntKind.i64.wrap (k * M) = k * M := IntWalk.i64_in _ (by omega)
  have e1 : IntKind.i64.wrap (k * M + s) = k * M + s := IntWalk.i64_in _ (by omega)
  go_quiet (fail)
  go_wp2
  go_quiet (fail)
  go_wp2
  go_ret2
  exact ⟨rfl, ((hu.alloc _).drewN _).drewN _⟩

set_option maxHeartbeats 400000 in
theorem start_no (pb wb : Nat) (M G k : Int) (ws : List Sc.Win) (i : Nat) (w : World) (h : PlanAt w pb wb M G ws) (hi : i < ws.length)
    (hk : 0 ≤ k) (hM : 1 ≤ M) (hq : k ≤ 281474976710656 / M) (h0 : 0 ≤ k * M) (h1 : k * M ≤ 281474976710656) (hm : 281474976710656 - (ws.getD i default).s < k * M) (hs : 0 ≤ (ws.getD i default).s) (hs2 : (ws.getD i default).s ≤ 16777216) :
    Calls Try.prog 27 #[.pointer (some ⟨pb, 0, none⟩), .int .i64 k, .int .i64 i] w fun e w' => e = .returned (.tuple #[.int .i64 0, .int .i64 2]) ∧ Upd [] w w' := by
  have hwin := window_ok pb wb M G ws i w h hi
  obtain ⟨⟨A, cap, hb, hcap, hA⟩, hcells, hsm⟩ := h
  clear hcells hA hcap
  generalize (ws.getD i default).o = o at *
  generalize (ws.getD i default).s = s at *
  generalize (ws.getD i default).l = l at *
  generalize ws.length = n at *
  have HW := Lib.hid hwin
  clear hwin
  go_enter Try.func27, Try.ntmps27
  go_wp2_with (go_at_call 28; refine HW.out.mono ?_; rintro e w1 ⟨rfl, hu⟩; have hb1 := hu.blk hb (by simp); have c0 := hb1.c0; have l1 := hb1.lt)
  have g1 : decide (k < 0) = false := by simp; omega
  have g2 : decide (281474976710656 / M < k) = false := by simp; omega
  have g3 : decide (281474976710656 - s < k * M) = true := by simp; omega
  have e0 : IntKind.i64.wrap (k * M) = k * M := IntWalk.i64_in _ (by omega)
  go_quiet (fail)
  go_wp2
  go_ret2
  exact ⟨rfl, (hu.alloc _).drewN _⟩

set_option maxHeartbeats 400000 in
theorem start_far (pb wb : Nat) (M G k : Int) (ws : List Sc.Win) (i : Nat) (w : World) (h : PlanAt w pb wb M G ws) (hi : i < ws.length)
    (hk : 0 ≤ k) (hM : 1 ≤ M) (hq : 281474976710656 / M < k) :
    Calls Try.prog 27 #[.pointer (some ⟨pb, 0, none⟩), .int .i64 k, .int .i64 i] w fun e w' => e = .returned (.tuple #[.int .i64 0, .int .i64 2]) ∧ Upd [] w w' := by
  have hwin := window_ok pb wb M G ws i w h hi
  obtain ⟨⟨A, cap, hb, hcap, hA⟩, hcells, hsm⟩ := h
  clear hcells hA hcap
  generalize (ws.getD i default).o = o at *
  generalize (ws.getD i default).s = s at *
  generalize (ws.getD i default).l = l at *
  generalize ws.length = n at *
  have HW := Lib.hid hwin
  clear hwin
  go_enter Try.func27, Try.ntmps27
  go_wp2_with (go_at_call 28; refine HW.out.mono ?_; rintro e w1 ⟨rfl, hu⟩; have hb1 := hu.blk hb (by simp); have c0 := hb1.c0; have l1 := hb1.lt)
  have g1 : decide (k < 0) = false := by simp; omega
  have g2 : decide (281474976710656 / M < k) = true := by simp; omega
  go_quiet (fail)
  go_wp2
  go_ret2
  exact ⟨rfl, (hu.alloc _).drewN _⟩

set_option maxHeartbeats 400000 in
theorem next_none (pb wb : Nat) (M G t : Int) (w : World) (h : PlanAt w pb wb M G []) (h0 : 0 ≤ t) (h1 : t ≤ 281474976710656) :
    Calls Try.prog 26 #[.pointer (some ⟨pb, 0, none⟩), .int .i64 t] w fun e w' => e = .returned (.tuple #[.int .i64 0, .int .i64 0, .int .i64 2]) ∧ ∃ n, w' = w.drewN n := by
  obtain ⟨⟨A, cap, hb, hcap, hA⟩, hcells, hsm⟩ := h
  clear hcells hA hcap hsm
  have c0 := hb.c0
  have c2 := hb.c2
  simp only [List.length_nil] at c2
  clear hb
  go_enter Try.func26, Try.ntmps26
  go_wp2
  go_ret3
  exact ⟨rfl, 0, rfl⟩

set_option maxHeartbeats 400000 in
theorem next_ok (pb wb : Nat) (M G t : Int) (ws : List Sc.Win) (w : World) (h : PlanAt w pb wb M G ws) (hn : 0 < ws.length) (h0 : 0 ≤ t) (h1 : t ≤ 281474976710656) (hM : 1 ≤ M) :
    Calls Try.prog 26 #[.pointer (some ⟨pb, 0, none⟩), .int .i64 t] w fun e w' => e = .returned (.tuple #[.int .i64 (Sc.next M ws t).1, .int .i64 (Sc.next M ws t).2, .int .i64 0]) ∧ ∃ n, w' = w.drewN n := by
  obtain ⟨⟨A, cap, hb, hcap, hA⟩, hcells, hsm⟩ := h
  obtain rfl := hA (by omega)
  have c0 := hb.c0
  have c2 := hb.c2
  have hfirst : ∀ j, j < ws.length → (∀ j', j' < j → (ws.getD j' default).s < t % M) → t % M ≤ (ws.getD j default).s → Sc.next M ws t = (t / M, j) := by
    intro j hj h2 h3
    unfold Sc.next
    rw [Sc.firstAt_eq hj h2 h3, if_pos hj]
  have hlast : (∀ j', j' < ws.length → (ws.getD j' default).s < t % M) → Sc.next M ws t = (t / M + 1, 0) := by
    intro h2
    unfold Sc.next
    rw [Sc.firstAt_none h2, if_neg (by omega)]
  have HF := Lib.hid hfirst
  have HL := Lib.hid hlast
  have HC := Lib.hid hcells
  clear hfirst hlast hcells hA hb
  have hd0 : 0 ≤ t / M := Int.ediv_nonneg h0 (by omega)
  have hd1 : t / M ≤ t := Int.ediv_le_self _ h0
  generalize hN : ws.length = n at *
  clear hN
  have hn0 : ((n : Int) == 0) = false := by simp; omega
  go_enter Try.func26, Try.ntmps26
  go_wp2
  go_quiet (fail)
  go_wp2
  go_loop [41] (fun i => ∃ j : Nat, j ≤ n ∧ i = .int .i64 j ∧ Hid (∀ j', j' < j → (ws.getD j' default).s < t % M)) (fun i => n - (intOf i).toNat)
  case atStart => exact ⟨0, by omega, rfl, Lib.hid (fun j' hj => by omega)⟩
  case round =>
    obtain ⟨j, hj, rfl, HB⟩ := hrel
    by_cases hlt : j < n
    · obtain ⟨x0, x1, x2⟩ := HC.out j hlt
      by_cases hs : t % M ≤ (ws.getD j default).s
      · have hf := HF.out j hlt HB.out hs
        have HFF := Lib.hid hf
        clear hf x0 x2
        generalize (ws.getD j default).s = s at *
        go_wp2
        go_ret3
        rw [HFF.out]
        exact ⟨rfl, _, rfl⟩
      · have hB' : ∀ j', j' < j + 1 → (ws.getD j' default).s < t % M := by
          intro j' hj'
          by_cases e : j' = j
          · subst e; omega
          · exact HB.out j' (by omega)
        have HB2 := Lib.hid hB'
        clear hB' x0 x2
        generalize (ws.getD j default).s = s at *
        go_wp2
        go_round
        case rel => exact ⟨j + 1, by omega, by go_num, HB2⟩
        case measure => simp [intOf]; omega
    · have hf := HL.out (fun j' hj' => HB.out j' (by omega))
      have HFF := Lib.hid hf
      clear hf
      go_wp2
      go_ret3
      rw [HFF.out]
      exact ⟨rfl, _, rfl⟩

set_option maxHeartbeats 400000 in
theorem budget_ok (pb wb : Nat) (M G : Int) (ws : List Sc.Win) (i : Nat) (w : World) (h : PlanAt w pb wb M G ws) (hi : i < ws.length)
    (hl : 1 ≤ (ws.getD i default).l) (hl2 : (ws.getD i default).l ≤ 16777216) (hg : 0 ≤ G) (hg2 : G ≤ 16777216) :
    Calls Try.prog 31 #[.pointer (some ⟨pb, 0, none⟩), .int .i64 i] w fun e w' => e = .returned (.int .i64 (max 0 ((ws.getD i default).l - 40 - G))) ∧ Upd [] w w' := by
  have hwin := window_ok pb wb M G ws i w h hi
  obtain ⟨⟨A, cap, hb, hcap, hA⟩, hcells, hsm⟩ := h
  clear hcells hA hcap
  generalize (ws.getD i default).o = o at *
  generalize (ws.getD i default).s = s at *
  generalize (ws.getD i default).l = l at *
  generalize ws.length = n at *
  have HW := Lib.hid hwin
  clear hwin
  have hl0 : (l == 0) = false := by simp; omega
  go_enter Try.func31, Try.ntmps31
  go_wp2_with (go_at_call 28; refine HW.out.mono ?_; rintro e w1 ⟨rfl, hu⟩; have hb1 := hu.blk hb (by simp); have c1 := hb1.c1; have l1 := hb1.lt)
  go_region
  all_goals go_wp2
  all_goals go_ret
  all_goals exact ⟨by simp; omega, (hu.alloc _).drew⟩
end Go.Proofs.Ythfkbenkladonaa
