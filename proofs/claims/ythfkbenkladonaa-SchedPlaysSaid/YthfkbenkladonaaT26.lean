/-
  The clones of clock and pic; the reference's Time and Budget: what each answers. Conditions: what they read lies in memory.
-/
import Derived.Test.YthfkbenkladonaaT16
namespace Go.Proofs.Ythfkbenkladonaa
open Go.RowKit
attribute [local go_sem] max2_max min2_min max_two min_two

theorem clock_clone (cb : Nat) (now at' : Int) (armed : Bool) (w : World) (h : Blk w cb #[.int .i64 now, .bool armed, .int .i64 at'] 78) :
    Calls Try.prog 40 #[.pointer (some ⟨cb, 0, none⟩)] w fun e w' => e = .returned (.pointer (some ⟨w.heap.size, 0, none⟩)) ∧ w' = w.alloc (.cells #[.int .i64 now, .bool armed, .int .i64 at'] 78) := by
  have c0 := h.c0
  have c1 := h.c1
  have c2 := h.c2
  clear h
  go_enter Try.func40, Try.ntmps40
  go_wp2
  go_ret
  exact ⟨rfl, rfl⟩

theorem pic_clone (lb : Nat) (p : Int) (w : World) (h : Blk w lb #[.int .i64 1, .int .u32 p, .int .u32 0] 93) :
    Calls Try.prog 41 #[.pointer (some ⟨lb, 0, none⟩)] w fun e w' => e = .returned (.pointer (some ⟨w.heap.size, 0, none⟩)) ∧ w' = w.alloc (.cells #[.int .i64 1, .int .u32 p, .int .u32 0] 93) := by
  have c0 := h.c0
  have c1 := h.c1
  have c2 := h.c2
  clear h
  go_enter Try.func41, Try.ntmps41
  go_wp2
  go_ret
  exact ⟨rfl, rfl⟩

/-- the reference's time in memory -/
structure RefAt (w : World) (rb pb wb : Nat) (M G : Int) (ws : List Sc.Win) (T W J U L : Int) : Prop where
  blk : Blk w rb #[.pointer (some ⟨pb, 0, none⟩), .int .i64 T, .int .i64 W, .int .i64 J, .int .i64 U, .int .i64 L] 85
  plan : ∃ A cap, Blk w pb #[.int .i64 M, .int .i64 G, .slice A ws.length cap] 87 ∧ ws.length ≤ cap ∧ (0 < ws.length → A = some ⟨wb, 0, none⟩)
  cells : ∀ i, i < ws.length → w.cell? ⟨wb, i * 3, none⟩ = some (.int .i64 (ws.getD i default).o) ∧ w.cell? ⟨wb, i * 3 + 1, none⟩ = some (.int .i64 (ws.getD i default).s) ∧ w.cell? ⟨wb, i * 3 + 2, none⟩ = some (.int .i64 (ws.getD i default).l)
  n1 : pb ≠ rb
  n2 : wb ≠ rb

theorem RefAt.upd {S : List Nat} {w w' : World} {rb pb wb : Nat} {M G : Int} {ws : List Sc.Win} {T W J U L : Int} (h : RefAt w rb pb wb M G ws T W J U L) (u : Upd S w w') (h0 : rb ∉ S) (h1 : pb ∉ S) (h2 : wb ∉ S) : RefAt w' rb pb wb M G ws T W J U L := by
  obtain ⟨hb, ⟨A, cap, hp, hc, ha⟩, hcells, n1, n2⟩ := h
  refine ⟨u.blk hb h0, ⟨A, cap, u.blk hp h1, hc, ha⟩, fun i hi => ?_, n1, n2⟩
  obtain ⟨c0, c1, c2⟩ := hcells i hi
  have hlt := World.block_lt_of_cell? w _ c0
  have e : w'.heap[wb]? = w.heap[wb]? := u.block wb hlt h2
  exact ⟨(World.cell?_of_block (w := w) e).trans c0, (World.cell?_of_block (w := w) e).trans c1, (World.cell?_of_block (w := w) e).trans c2⟩

theorem RefAt.drewN {w : World} {rb pb wb : Nat} {M G : Int} {ws : List Sc.Win} {T W J U L : Int} (h : RefAt w rb pb wb M G ws T W J U L) (n : Nat) : RefAt (w.drewN n) rb pb wb M G ws T W J U L :=
  h.upd (S := []) ((Upd.refl [] w).drewN n) (by simp) (by simp) (by simp)

theorem rtime_any (rb pb wb : Nat) (M G : Int) (ws : List Sc.Win) (T W J U L : Int) (w : World) (h : RefAt w rb pb wb M G ws T W J U L) :
    Calls Try.prog 42 #[.pointer (some ⟨rb, 0, none⟩)] w fun e w' => e = .returned (.int .i64 (if W < 0 then L else T)) ∧ w = w' := by
  have c1 := h.blk.c1
  have c2 := h.blk.c2
  have c5 := h.blk.c5
  clear h
  by_cases hW : W < 0
  · go_enter Try.func42, Try.ntmps42
    go_wp2
    go_ret
    exact ⟨by simp, rfl⟩
  · go_enter Try.func42, Try.ntmps42
    go_wp2
    go_ret
    exact ⟨by simp, rfl⟩

set_option maxHeartbeats 400000 in
theorem rbudget_ok (rb pb wb : Nat) (M G : Int) (ws : List Sc.Win) (T W J U L : Int) (i : Nat) (w : World) (h : RefAt w rb pb wb M G ws T W J U L) (hg : Sc.Good M G ws) (hi : i < ws.length) :
    Calls Try.prog 46 #[.pointer (some ⟨pb, 0, none⟩), .int .i64 i] w fun e w' => e = .returned (.int .i64 (budgetOf G ws i)) ∧ ∃ n, w' = w.drewN n := by
  obtain ⟨A, cap, hb, hcap, hA⟩ := h.plan
  obtain rfl := hA (by omega)
  obtain ⟨x0, x1, x2⟩ := h.cells i hi
  have hw := hg.w i hi
  have hn := hg.n
  have hg1 := hg.g1
  have hg2 := hg.g2
  have hm2 := hg.m2
  have c1 := hb.c1
  have c2 := hb.c2
  have hBU : budgetOf G ws i = max 0 ((ws.getD i default).l - 40 - G) := rfl
  rw [hBU]
  clear h hb x0 x1 hg hBU
  generalize (ws.getD i default).l = L' at *
  generalize ws.length = n at *
  go_enter Try.func46, Try.ntmps46
  go_wp2
  have e1 : IntKind.i64.wrap (L' - 40) = L' - 40 := IntWalk.i64_in _ (by omega)
  have e2 : IntKind.i64.wrap (L' - 40 - G) = L' - 40 - G := IntWalk.i64_in _ (by omega)
  go_quiet (fail)
  clear e1 e2
  go_wp2
  go_ret
  exact ⟨rfl, _, rfl⟩

theorem rmay_out (rb pb wb : Nat) (M G : Int) (ws : List Sc.Win) (T W J U L : Int) (w : World) (h : RefAt w rb pb wb M G ws T W J U L) (hW : W < 0) :
    Calls Try.prog 39 #[.pointer (some ⟨rb, 0, none⟩)] w fun e w' => e = .returned (.bool false) ∧ ∃ n, w' = w.drewN n := by
  have c2 := h.blk.c2
  have hd : decide (0 ≤ W) = false := decide_eq_false (by omega)
  clear h
  go_enter Try.func39, Try.ntmps39
  go_wp2
  go_quiet (fail)
  go_wp2
  go_ret
  exact ⟨rfl, _, rfl⟩

theorem rmay_in (rb pb wb : Nat) (M G : Int) (ws : List Sc.Win) (T J U L : Int) (i : Nat) (w : World) (h : RefAt w rb pb wb M G ws T i J U L) (hg : Sc.Good M G ws) (hi : i < ws.length) :
    Calls Try.prog 39 #[.pointer (some ⟨rb, 0, none⟩)] w fun e w' => e = .returned (.bool (decide (U < budgetOf G ws i))) ∧ ∃ n, w' = w.drewN n := by
  have HB := Lib.hid (fun n => rbudget_ok rb pb wb M G ws T i J U L i (w.drewN n) (h.drewN n) hg hi)
  have c0 := h.blk.c0
  have c2 := h.blk.c2
  have c4 := h.blk.c4
  have hd : decide (0 ≤ (i : Int)) = true := decide_eq_true (by omega)
  clear h hg hi
  generalize budgetOf G ws i = bu at *
  go_enter Try.func39, Try.ntmps39
  go_wp2
  go_quiet ((go_at_call 46; exact Calls.quiet_of (HB.out _)))
  go_wp2
  go_ret
  exact ⟨rfl, _, rfl⟩
end Go.Proofs.Ythfkbenkladonaa
