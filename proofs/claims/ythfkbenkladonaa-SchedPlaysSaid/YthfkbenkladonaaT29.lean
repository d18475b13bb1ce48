/-
  The reference's Leave: what it answers and leaves. Conditions: the reference's time lies in memory, the place is one of the schedule.
-/
import Derived.Test.YthfkbenkladonaaT28
namespace Go.Proofs.Ythfkbenkladonaa
open Go.RowKit
attribute [local go_sem] max2_max min2_min max_two min_two

theorem rleave_no (rb pb wb : Nat) (M G : Int) (ws : List Sc.Win) (T W J U L : Int) (w : World) (h : RefAt w rb pb wb M G ws T W J U L) (hW : W < 0) :
    Calls Try.prog 20 #[.pointer (some ⟨rb, 0, none⟩)] w fun e w' => e = .returned (.tuple #[.int .i64 0, .int .i64 8]) ∧ w' = w := by
  have c2 := h.blk.c2
  clear h
  go_enter Try.func20, Try.ntmps20
  go_wp2
  go_ret2
  exact ⟨rfl, rfl⟩

set_option maxHeartbeats 1000000 in
theorem rleave_ok (rb pb wb : Nat) (M G : Int) (ws : List Sc.Win) (T U L k : Int) (i : Nat) (w : World) (h : RefAt w rb pb wb M G ws T i k U L) (hp : Place M G ws k i) :
    Calls Try.prog 20 #[.pointer (some ⟨rb, 0, none⟩)] w fun e w' => e = .returned (.tuple #[.int .i64 (endAt M ws k i), .int .i64 0]) ∧ RefAt w' rb pb wb M G ws (endAt M ws k i) (-1) (-1) 0 (endAt M ws k i) ∧ Upd [rb] w w' := by
  have hg := hp.good
  have hw := hg.w i hp.hi
  have hM := hg.m1
  have hM2 := hg.m2
  have hkM := hp.hkM
  have hend := hp.hend
  unfold endAt at hend ⊢
  have hq : k ≤ 281474976710656 / M := (Int.le_ediv_iff_mul_le (by omega)).2 (by omega)
  have HST := Lib.hid (fun n => rstart_ok rb pb wb M G ws T i k U L k i (w.drewN n) (h.drewN n) hp.hi hp.hk hM hq hkM (by omega) (by omega) (by omega))
  have hi := hp.hi
  have HR := Lib.hid h
  obtain ⟨A, cap, hb, hcap, hA⟩ := h.plan
  obtain rfl := hA (by omega)
  obtain ⟨x0, x1, x2⟩ := h.cells i hi
  have c0 := h.blk.c0
  have c2 := h.blk.c2
  have c3 := h.blk.c3
  have n1 := h.n1
  have n2 := h.n2
  have p2 := hb.c2
  clear h hb x0 x1 hp hg hq
  generalize (ws.getD i default).s = S at *
  generalize (ws.getD i default).l = L' at *
  go_enter Try.func20, Try.ntmps20
  go_wp2
  go_quiet ((go_at_call 38; exact Calls.quiet_of (HST.out _)))
  have c1 := HR.out.blk.c1
  have c4 := HR.out.blk.c4
  have c5 := HR.out.blk.c5
  have f1 := HR.out.blk.free 1
  have f2 := HR.out.blk.free 2
  have f3 := HR.out.blk.free 3
  have f4 := HR.out.blk.free 4
  have f5 := HR.out.blk.free 5
  have e0 : IntKind.i64.wrap (k * M + S + L') = k * M + S + L' := IntWalk.i64_in _ (by omega)
  go_wp2
  go_region
  all_goals go_wp2
  all_goals go_ret2
  have hu := (((((((Upd.refl [rb] w).drewN (nq + 1)).setCell (p := ⟨rb, 1, none⟩) (by simp) (.int .i64 (k * M + S + L'))).setCell (p := ⟨rb, 5, none⟩) (by simp) (.int .i64 (k * M + S + L'))).setCell (p := ⟨rb, 2, none⟩) (by simp) (.int .i64 (-1))).setCell (p := ⟨rb, 3, none⟩) (by simp) (.int .i64 (-1))).setCell (p := ⟨rb, 4, none⟩) (by simp) (.int .i64 0))
  exact ⟨rfl, HR.out.set hu ((((((HR.out.blk.drewN (nq + 1)).set 1 _).set 5 _).set 2 _).set 3 _).set 4 _), hu⟩
end Go.Proofs.Ythfkbenkladonaa
