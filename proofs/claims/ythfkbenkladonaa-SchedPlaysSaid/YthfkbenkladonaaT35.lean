/-
  The two sides are the same at every place of the run. Conditions: both lie in memory at one place of the schedule.
-/
import Derived.Test.YthfkbenkladonaaT34
namespace Go.Proofs.Ythfkbenkladonaa
open Go.RowKit

set_option maxHeartbeats 1000000 in
theorem same_ok (x : Ids) (rb pb wb : Nat) (M G : Int) (ws : List Sc.Win) (w : World) (k : Nat) (u : Option Int) (hr : Run M G ws k u) (h : SchedAt w x M G ws (psOf M G ws k u)) (hq : RefSt w rb pb wb M G ws k u) :
    Calls Try.prog 22 #[.pointer (some ⟨x.sb, 0, none⟩), .pointer (some ⟨rb, 0, none⟩)] w fun e w' => e = .returned (.bool true) ∧ ∃ n, w' = w.drewN n := by
  have HI := Lib.hid (inside_any x M G ws _ w h)
  have HH := Lib.hid h
  have HQ := Lib.hid hq
  have HR := Lib.hid hr
  clear h hq hr
  cases u with
  | none =>
    simp only [psOf, St.leave] at HI
    go_enter Try.func22, Try.ntmps22
    go_wp2_with fail
    refine HI.out.mono ?_
    rintro e w1 ⟨rfl, n, rfl⟩
    obtain ⟨W, hW⟩ : ∃ W, W = w.drewN n := ⟨_, rfl⟩
    rw [← hW]
    have h : SchedAt W x M G ws (psOf M G ws k none) := hW ▸ HH.out.drewN n
    have hq : RefSt W rb pb wb M G ws k none := hW ▸ RefAt.drewN HQ.out n
    have HWW := Lib.hid hW
    clear hW HI HH HQ
    have HN := Lib.hid (fun n => now_any x.cb _ _ _ (W.drewN n) (h.clock.drewN n))
    have HT := Lib.hid (fun n => time_any x M G ws _ (W.drewN n) (h.drewN n))
    have HM := Lib.hid (fun n => p_may x M G ws (W.drewN n) k none (h.drewN n))
    have HRM := Lib.hid (fun n => r_may rb pb wb M G ws W k none HR.out hq n)
    have HRT := Lib.hid (fun n => rtime_any rb pb wb M G ws _ _ _ _ _ (W.drewN n) (RefAt.drewN hq n))
    have s0 := h.sched.c0
    have t1 := RefAt.blk hq |>.c1
    have t2 := RefAt.blk hq |>.c2
    have t3 := RefAt.blk hq |>.c3
    simp only [psOf, St.leave, mayOf] at HN HT HM HRM HRT
    clear h hq HR
    generalize Sc.nowAt M ws k = t at *
    go_wp2_with fail
    go_quiet ((first | (go_at_call 10; exact Calls.quiet_of_same ((HN.out _).mono fun _ _ q => ⟨q.1, q.2.symm⟩)) | (go_at_call 15; exact Calls.quiet_of_same ((HT.out _).mono fun _ _ q => ⟨q.1, q.2.symm⟩)) | (go_at_call 42; exact Calls.quiet_of_same ((HRT.out _).mono fun _ _ q => ⟨q.1, q.2.symm⟩)) | (go_at_call 11; exact Calls.quiet_of (HM.out _)) | (go_at_call 39; exact Calls.quiet_of (HRM.out _))))
    go_wp2
    go_ret
    exact ⟨rfl, _, by rw [HWW.out]; exact World.drewN_drewN ..⟩
  | some v =>
    simp only [psOf, St.inWin] at HI
    go_enter Try.func22, Try.ntmps22
    go_wp2_with fail
    refine HI.out.mono ?_
    rintro e w1 ⟨rfl, n, rfl⟩
    obtain ⟨W, hW⟩ : ∃ W, W = w.drewN n := ⟨_, rfl⟩
    rw [← hW]
    have h : SchedAt W x M G ws (psOf M G ws k (some v)) := hW ▸ HH.out.drewN n
    have hq : RefSt W rb pb wb M G ws k (some v) := hW ▸ RefAt.drewN HQ.out n
    have HWW := Lib.hid hW
    clear hW HI HH HQ
    have HN := Lib.hid (fun n => now_any x.cb _ _ _ (W.drewN n) (h.clock.drewN n))
    have HT := Lib.hid (fun n => time_any x M G ws _ (W.drewN n) (h.drewN n))
    have HM := Lib.hid (fun n => p_may x M G ws (W.drewN n) k (some v) (h.drewN n))
    have HRM := Lib.hid (fun n => r_may rb pb wb M G ws W k (some v) HR.out hq n)
    have HRT := Lib.hid (fun n => rtime_any rb pb wb M G ws _ _ _ _ _ (W.drewN n) (RefAt.drewN hq n))
    have s0 := h.sched.c0
    have t1 := RefAt.blk hq |>.c1
    have t2 := RefAt.blk hq |>.c2
    have t3 := RefAt.blk hq |>.c3
    simp only [if_neg (show ¬ (((k % ws.length : Nat) : Int) < 0) from by omega)] at HRT
    simp only [psOf, St.inWin, mayOf, if_true] at HN HT HM HRM HRT
    clear h hq HR
    generalize beginAt M ws ((k / ws.length : Nat) : Int) (k % ws.length) + v = t at *
    generalize Sc.nowAt M ws k = L at *
    generalize decide (v < budgetOf G ws (k % ws.length)) = m at *
    generalize k % ws.length = i at *
    generalize k / ws.length = q at *
    have hge : decide ((0 : Int) ≤ i) = true := decide_eq_true (by omega)
    go_wp2_with fail
    go_quiet ((first | (go_at_call 10; exact Calls.quiet_of_same ((HN.out _).mono fun _ _ q => ⟨q.1, q.2.symm⟩)) | (go_at_call 15; exact Calls.quiet_of_same ((HT.out _).mono fun _ _ q => ⟨q.1, q.2.symm⟩)) | (go_at_call 42; exact Calls.quiet_of_same ((HRT.out _).mono fun _ _ q => ⟨q.1, q.2.symm⟩)) | (go_at_call 11; exact Calls.quiet_of (HM.out _)) | (go_at_call 39; exact Calls.quiet_of (HRM.out _))))
    go_wp2
    go_ret
    exact ⟨rfl, _, by rw [HWW.out]; exact World.drewN_drewN ..⟩
end Go.Proofs.Ythfkbenkladonaa
