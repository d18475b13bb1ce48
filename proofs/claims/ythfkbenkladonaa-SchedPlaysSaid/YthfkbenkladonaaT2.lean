/-
  The clock's Fired, the interrupt controller's Raise and Next: what each answers and does. Conditions: the blocks are known whole.
-/
import Derived.Test.YthfkbenkladonaaT1
import Derived.LoopN
namespace Go.Proofs.Ythfkbenkladonaa
open Go.RowKit

set_option maxHeartbeats 400000 in
theorem fired_no (cb : Nat) (now at' : Int) (w : World) (h : Blk w cb #[.int .i64 now, .bool false, .int .i64 at'] 78) :
    Calls Try.prog 43 #[.pointer (some ⟨cb, 0, none⟩)] w fun e w' => e = .returned (.bool false) ∧ ∃ n, w' = w.drewN n := by
  have c0 := h.c0
  have c1 := h.c1
  have c2 := h.c2
  go_enter Try.func43, Try.ntmps43
  go_wp2
  go_quiet (fail)
  go_wp2
  go_ret
  exact ⟨rfl, _, rfl⟩

set_option maxHeartbeats 400000 in
theorem fired_yes (cb : Nat) (now at' : Int) (w : World) (h : Blk w cb #[.int .i64 now, .bool true, .int .i64 at'] 78) :
    Calls Try.prog 43 #[.pointer (some ⟨cb, 0, none⟩)] w fun e w' => e = .returned (.bool (decide (at' ≤ now))) ∧ ∃ n, w' = w.drewN n := by
  have c0 := h.c0
  have c1 := h.c1
  have c2 := h.c2
  go_enter Try.func43, Try.ntmps43
  go_wp2
  go_quiet (fail)
  go_wp2
  go_ret
  exact ⟨by simp, _, rfl⟩

set_option maxHeartbeats 400000 in
theorem raise_any (lb : Nat) (p : Int) (w : World) (h : Blk w lb #[.int .i64 1, .int .u32 p, .int .u32 0] 93) (hp : p = 0 ∨ p = 1) :
    Calls Try.prog 44 #[.pointer (some ⟨lb, 0, none⟩), .int .i64 0] w fun e w' => e = .returned (.int .i64 0) ∧ ∃ n, w' = (w.setCell ⟨lb, 1, none⟩ (.int .u32 1)).drewN n := by
  have c0 := h.c0
  have c1 := h.c1
  have c2 := h.c2
  have f1 := h.free 1
  rcases hp with rfl | rfl
  all_goals
    go_enter Try.func44, Try.ntmps44
    go_wp2
    go_region
    all_goals go_wp2
    all_goals go_ret
    all_goals exact ⟨rfl, 1, rfl⟩

set_option maxHeartbeats 400000 in
theorem picnext_any (lb : Nat) (p : Int) (w : World) (h : Blk w lb #[.int .i64 1, .int .u32 p, .int .u32 0] 93) (hp : p = 0 ∨ p = 1) :
    Calls Try.prog 33 #[.pointer (some ⟨lb, 0, none⟩)] w fun e w' => e = .returned (.tuple #[.int .i64 0, .bool (p == 1)]) ∧ ∃ n, w' = w.drewN n := by
  have c0 := h.c0
  have c1 := h.c1
  have c2 := h.c2
  rcases hp with rfl | rfl
  all_goals
    go_enter Try.func33, Try.ntmps33
    go_wp2
    refine wp_loop_rounds 2 ?_
    rw [rounds_succ]
    go_wp2
    go_quiet (fail)
    go_wp2
    try (rw [rounds_succ]; go_wp2)
    go_ret2
    exact ⟨rfl, _, rfl⟩
end Go.Proofs.Ythfkbenkladonaa
