/-
  The reference's Enter: what it answers and leaves. Conditions: the reference's time lies in memory, the next place is one of the schedule.
-/
import Derived.Test.YthfkbenkladonaaT29
namespace Go.Proofs.Ythfkbenkladonaa
open Go.RowKit
attribute [local go_sem] max2_max min2_min max_two min_two

theorem renter_state (rb pb wb : Nat) (M G : Int) (ws : List Sc.Win) (T W J U L : Int) (w : World) (h : RefAt w rb pb wb M G ws T W J U L) (hW : 0 ≤ W) :
    Calls Try.prog 18 #[.pointer (some ⟨rb, 0, none⟩)] w fun e w' => e = .returned (.tuple #[.int .i64 0, .int .i64 0, .int .i64 8]) ∧ w' = w := by
  have c2 := h.blk.c2
  clear h
  go_enter Try.func18, Try.ntmps18
  go_wp2
  go_ret3
  exact ⟨rfl, rfl⟩

set_option maxHeartbeats 1000000 in
theorem renter_ok (rb pb wb : Nat) (M G : Int) (ws : List Sc.Win) (T U L : Int) (k : Int) (i : Nat) (w : World) (h : RefAt w rb pb wb M G ws T (-1) (-1) U L) (hp : Place M G ws k i) (hn : 0 < ws.length) (hn32 : ws.length ≤ 32) (h0 : 0 ≤ T) (h1 : T ≤ 281474976710656)
    (hnx : Sc.next M ws T = (k, i)) :
    Calls Try.prog 18 #[.pointer (some ⟨rb, 0, none⟩)] w fun e w' => e = .returned (.tuple #[.int .i64 i, .int .i64 k, .int .i64 0]) ∧ RefAt w' rb pb wb M G ws (beginAt M ws k i) i k 0 L ∧ Upd [rb] w w' := by
  have hg := hp.good
  have hw := hg.w i hp.hi
  have hM := hg.m1
  have hM2 := hg.m2
  have hkM := hp.hkM
  have hend := hp.hend
  unfold endAt at hend
  unfold beginAt
  have hq : k ≤ 281474976710656 / M := (Int.le_ediv_iff_mul_le (by omega)).2 (by omega)
  have HST := Lib.hid (fun n => rstart_ok rb pb wb M G ws T (-1) (-1) U L k i (w.drewN n) (h.drewN n) hp.hi hp.hk hM hq hkM (by omega) (by omega) (by omega))
  have HNX := Lib.hid (fun n => rnext_ok rb pb wb M G ws T (-1) (-1) U L T (w.drewN n) (h.drewN n) hn hn32 h0 h1 hM)
  rw [hnx] at HNX
  have hi := hp.hi
  have HR := Lib.hid h
  obtain ⟨A, cap, hb, hcap, hA⟩ := h.plan
  obtain rfl := hA (by omega)
  obtain ⟨x0, x1, x2⟩ := h.cells i hi
  have c0 := h.blk.c0
  have c1 := h.blk.c1
  have c2 := h.blk.c2
  have n1 := h.n1
  have n2 := h.n2
  have p2 := hb.c2
  clear h hb x0 x1 hp hg hq hnx
  generalize (ws.getD i default).s = S at *
  generalize (ws.getD i default).l = L' at *
  go_enter Try.func18, Try.ntmps18
  go_wp2
  go_quiet ((go_at_call 37; exact Calls.quiet_of (HNX.out _)))
  have c3 := HR.out.blk.c3
  have c4 := HR.out.blk.c4
  have f1 := HR.out.blk.free 1
  have f2 := HR.out.blk.free 2
  have f3 := HR.out.blk.free 3
  have f4 := HR.out.blk.free 4
  go_wp2_with fail
  refine (HST.out _).mono ?_
  rintro e w1 ⟨rfl, m, rfl⟩
  go_wp2_with fail
  go_ret3
  have hu := ((((((Upd.refl [rb] w).drewN (nq + m)).setCell (p := ⟨rb, 1, none⟩) (by simp) (.int .i64 (k * M + S + min 40 L'))).setCell (p := ⟨rb, 2, none⟩) (by simp) (.int .i64 i)).setCell (p := ⟨rb, 3, none⟩) (by simp) (.int .i64 k)).setCell (p := ⟨rb, 4, none⟩) (by simp) (.int .i64 0))
  exact ⟨rfl, HR.out.set hu (((((HR.out.blk.drewN (nq + m)).set 1 _).set 2 _).set 3 _).set 4 _), hu⟩
end Go.Proofs.Ythfkbenkladonaa
