/-
  The law's own example (works) answers true. No condition.
-/
import Derived.Test.YthfkbenkladonaaT12
import Derived.Test.YthfkbenkladonaaT5
import Derived.Test.YthfkbenkladonaaT6
import Derived.Test.YthfkbenkladonaaT7
namespace Go.Proofs.Ythfkbenkladonaa
open Go.RowKit

/-- the windows of the chapter's example -/
def exWs : List Sc.Win := [⟨0, 0, 300⟩, ⟨1, 500, 100⟩]
theorem ex_good : Sc.Good 1000 60 exWs := good_of (by omega) (by omega) (by omega) (by omega) (by decide) (by decide)

theorem ex_wins (w : World) (b : Nat) (h : Blk w b #[.int .i64 0, .int .i64 0, .int .i64 300, .int .i64 1, .int .i64 500, .int .i64 100] 45) : WinsAt w (some ⟨b, 0, none⟩) exWs := by
  intro _
  refine ⟨b, 0, rfl, fun j u hj => ?_⟩
  rw [Nat.zero_add]
  exact h.cell j u (by simpa [flat, exWs] using hj)

def exS1 : St := ⟨40, true, 240, 0, true, 0, 0, 0⟩
def exS2 : St := ⟨100, true, 240, 0, true, 0, 0, 0⟩

theorem ex_enter (x : Ids) (w : World) (h : SchedAt w x 1000 60 exWs St.init) :
    Calls Try.prog 9 #[.pointer (some ⟨x.sb, 0, none⟩)] w fun e w' => e = .returned (.tuple #[.int .i64 0, .int .i64 0, .int .i64 0]) ∧ SchedAt w' x 1000 60 exWs exS1 ∧ Upd x.own w w' := by
  have hnx : Sc.next 1000 exWs St.init.now = (0, 0) := Sc.next_zero ex_good (by simp [exWs])
  have := enter_ok x 1000 60 exWs St.init w h ex_good (by decide) rfl rfl (by decide) (by decide) 0 0 hnx (by decide) (by decide) (by decide) (by decide) (by decide)
  have e : St.enter St.init exWs 1000 60 0 0 = exS1 := by simp [St.enter, exS1, exWs, St.init]; omega
  rw [e] at this
  exact this

theorem ex_spend (x : Ids) (w : World) (h : SchedAt w x 1000 60 exWs exS1) :
    Calls Try.prog 12 #[.pointer (some ⟨x.sb, 0, none⟩), .int .i64 60] w fun e w' => e = .returned (.int .i64 0) ∧ SchedAt w' x 1000 60 exWs exS2 ∧ Upd x.own w w' := by
  have := spend_ok x 1000 60 60 exWs exS1 w h rfl (by decide) (by decide) rfl (by decide) (by decide)
  exact this

theorem ex_leave (x : Ids) (w : World) (h : SchedAt w x 1000 60 exWs exS2) :
    Calls Try.prog 14 #[.pointer (some ⟨x.sb, 0, none⟩)] w fun e w' => e = .returned (.tuple #[.int .i64 300, .int .i64 0]) ∧ SchedAt w' x 1000 60 exWs (St.leave 300) ∧ Upd x.own w w' := by
  have := leave_ok x 1000 60 exWs exS2 w h ex_good rfl (by decide) 0 0 (by decide) rfl rfl (by decide) (by decide) (by decide) (by decide)
  exact this

set_option maxRecDepth 100000 in
set_option maxHeartbeats 1000000 in
theorem works_any (w : World) : Calls Try.prog 7 #[] w fun e w' => e = .returned (.bool true) ∧ Upd [] w w' := by
  go_enter Try.func7, Try.ntmps7
  go_wp2_with fail
  have hb0 := Blk.new w #[.int .i64 0, .int .i64 0, .int .i64 300, .int .i64 1, .int .i64 500, .int .i64 100] 45
  have hnew := new_ok 0 1000 60 0 0 0 (.slice none 0 0) (some ⟨w.heap.size, 0, none⟩) 2 (.slice none 0 0) exWs _ (ex_wins _ _ hb0) (by decide) (by decide)
  unfold cfgV at hnew
  have HN := Lib.hid hnew
  clear hnew hb0
  refine HN.out.mono ?_
  rintro e w1 ⟨x, rfl, hs, hx, hu⟩
  have HS := Lib.hid hs
  have HX := Lib.hid hx
  have HU := Lib.hid (((Upd.refl [] w).alloc _).trans hu)
  clear hs hx hu HN
  go_wp2_with fail
  refine (ex_enter x w1 HS.out).mono ?_
  rintro e w2 ⟨rfl, hs2, hu2⟩
  have HS2 := Lib.hid hs2
  have HU2 := Lib.hid hu2
  have s0 := HS2.out.sched.c0
  clear hs2 hu2
  go_wp2_with fail
  refine (now_any _ _ _ _ _ HS2.out.clock).mono ?_
  rintro e w3 ⟨rfl, rfl⟩
  go_wp2_with fail
  have hm := may_any x 1000 60 exWs exS1 w2 HS2.out
  refine hm.mono ?_
  rintro e w3 ⟨rfl, n3, rfl⟩
  clear hm
  go_wp2_with fail
  have hm := spend_margin x 1000 60 61 exWs exS1 _ (HS2.out.drewN n3) rfl (by decide) (by decide)
  refine hm.mono ?_
  rintro e w3 ⟨rfl, n4, rfl⟩
  clear hm
  go_wp2_with fail
  refine (ex_spend x _ (HS2.out.drewN (n3 + n4))).mono ?_
  rintro e w5 ⟨rfl, hs5, hu5⟩
  have HS5 := Lib.hid hs5
  have HU5 := Lib.hid ((HU2.out.drewN (n3 + n4)).trans hu5)
  clear hs5 hu5 s0
  have s0 := HS5.out.sched.c0
  go_wp2_with fail
  refine (now_any _ _ _ _ _ HS5.out.clock).mono ?_
  rintro e w6 ⟨rfl, rfl⟩
  go_wp2_with fail
  refine (ex_leave x _ HS5.out).mono ?_
  rintro e w6 ⟨rfl, hs6, hu6⟩
  have HS6 := Lib.hid hs6
  have HU6 := Lib.hid (HU5.out.trans hu6)
  clear hs6 hu6 s0
  have s0 := HS6.out.sched.c0
  go_wp2_with fail
  refine (now_any _ _ _ _ _ HS6.out.clock).mono ?_
  rintro e w7 ⟨rfl, rfl⟩
  go_wp2_with fail
  have hm := may_any x 1000 60 exWs _ w6 HS6.out
  refine hm.mono ?_
  rintro e w7 ⟨rfl, n7, rfl⟩
  clear hm
  go_wp2_with fail
  go_ret
  refine ⟨by simp [exS2, St.leave], ?_⟩
  -- what the call wrote are its own blocks
  obtain ⟨a1, a2, a3, a4, a5⟩ := HX.out
  have h1 := HU.out
  have h6 := HU6.out
  have hsz := h1.size
  refine Upd.drewN ⟨h6.os.trans h1.os, h6.tape.trans h1.tape, h6.output.trans h1.output, Nat.le_trans h1.size h6.size, fun k hk _ => ?_⟩ n7
  refine (h6.block k (Nat.lt_of_lt_of_le hk h1.size) ?_).trans (h1.block k hk (by simp))
  simp only [World.size_alloc] at a1 a2 a3
  simp only [Ids.own, List.mem_cons, List.not_mem_nil, or_false, not_or]
  omega
end Go.Proofs.Ythfkbenkladonaa
