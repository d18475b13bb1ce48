/-
  The clock's Advance, Arm and Disarm: what each does to its block. Conditions: the block is known whole; what is advanced lies within the bound.
-/
import Derived.Test.YthfkbenkladonaaBase
namespace Go.Proofs.Ythfkbenkladonaa
open Go.RowKit

set_option maxHeartbeats 400000 in
theorem advance_any (cb : Nat) (now at' n : Int) (armed : Bool) (w : World) (h : Blk w cb #[.int .i64 now, .bool armed, .int .i64 at'] 78)
    (h0 : 0 ≤ n) (h1 : 0 ≤ now) (h2 : n ≤ 281474976710656 - now) :
    Calls Try.prog 29 #[.pointer (some ⟨cb, 0, none⟩), .int .i64 n] w fun e w' => e = .returned (.int .i64 0) ∧ w' = w.setCell ⟨cb, 0, none⟩ (.int .i64 (now + n)) := by
  have c0 := h.c0
  have f0 := h.free 0
  go_enter Try.func29, Try.ntmps29
  go_wp2
  go_ret
  exact ⟨rfl, rfl⟩

set_option maxHeartbeats 400000 in
theorem arm_any (cb : Nat) (now at' n : Int) (armed : Bool) (w : World) (h : Blk w cb #[.int .i64 now, .bool armed, .int .i64 at'] 78)
    (h0 : 0 ≤ n) (h2 : n ≤ 281474976710656) :
    Calls Try.prog 30 #[.pointer (some ⟨cb, 0, none⟩), .int .i64 n] w fun e w' => e = .returned (.int .i64 0) ∧ w' = (w.setCell ⟨cb, 1, none⟩ (.bool true)).setCell ⟨cb, 2, none⟩ (.int .i64 n) := by
  have c1 := h.c1
  have f1 := h.free 1
  have c2 := h.c2
  have f2 := h.free 2
  go_enter Try.func30, Try.ntmps30
  go_wp2
  go_ret
  exact ⟨rfl, rfl⟩

set_option maxHeartbeats 400000 in
theorem disarm_any (cb : Nat) (now at' : Int) (armed : Bool) (w : World) (h : Blk w cb #[.int .i64 now, .bool armed, .int .i64 at'] 78) :
    Calls Try.prog 34 #[.pointer (some ⟨cb, 0, none⟩)] w fun e w' => e = .returned (.tuple #[]) ∧ w' = (w.setCell ⟨cb, 1, none⟩ (.bool false)).setCell ⟨cb, 2, none⟩ (.int .i64 0) := by
  have c1 := h.c1
  have f1 := h.free 1
  have c2 := h.c2
  have f2 := h.free 2
  go_enter Try.func34, Try.ntmps34
  go_wp2
  go_end0
  exact ⟨rfl, rfl⟩
end Go.Proofs.Ythfkbenkladonaa
