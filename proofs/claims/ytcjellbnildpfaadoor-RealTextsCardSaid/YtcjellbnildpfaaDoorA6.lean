/-
  The chapter's examples hold. Conditions: the tables lie as their texts lay them.
-/
import Derived.Test.YtcjellbnildpfaaDoorA5
namespace Go.Proofs.YtcjellbnildpfaaDoor
open Go.RowKit

theorem ex_add (w : World) : Calls Tryd.prog 16 #[.int .i64 46, .int .u64 4607182418800017408, .int .u64 13830554455654793216] w fun e w' => e = .returned (.tuple #[.int .u64 0, .int .i64 0]) ∧ Upd [] w w' := by
  have h := arith_add 4607182418800017408 13830554455654793216 w
  rw [show canon (Ieee.double.add 4607182418800017408 13830554455654793216) = 0 by decide +kernel] at h
  refine h.mono ?_
  rintro e w' ⟨rfl, n, rfl⟩
  exact ⟨rfl, drew_upd w n⟩
theorem ex_div (w : World) : Calls Tryd.prog 16 #[.int .i64 49, .int .u64 4607182418800017408, .int .u64 9223372036854775808] w fun e w' => e = .returned (.tuple #[.int .u64 18442240474082181120, .int .i64 0]) ∧ Upd [] w w' := by
  have h := arith_div 4607182418800017408 9223372036854775808 w
  rw [show canon (Ieee.double.div 4607182418800017408 9223372036854775808) = 18442240474082181120 by decide +kernel] at h
  refine h.mono ?_
  rintro e w' ⟨rfl, n, rfl⟩
  exact ⟨rfl, drew_upd w n⟩
theorem ex_int (w : World) : Calls Tryd.prog 19 #[.int .u64 9221120237041090560] w fun e w' => e = .returned (.int .u32 2147483647) ∧ w = w' := by
  have h := to_any 9221120237041090560 w (by unfold W64; decide)
  rw [show toIntV 9221120237041090560 = 2147483647 by decide +kernel] at h
  exact h
theorem ex_cls (w : World) : Calls Tryd.prog 15 #[.int .u64 0] w fun e w' => e = .returned (.int .u32 16) ∧ w = w' := by
  have h := cls_any 0 w (by unfold W64; decide)
  rw [show clsV 0 = 16 by decide +kernel] at h
  exact h

set_option maxRecDepth 100000 in
set_option maxHeartbeats 2000000 in
theorem works_true (w : World) (ht : Tabs w) : Calls Tryd.prog 13 #[] w fun e w' => e = .returned (.bool true) ∧ Upd [] w w' := by
  have HT := Lib.hid ht
  clear ht
  go_enter Tryd.func13, Tryd.ntmps13
  go_wp2_with fail
  refine (ex_add w).mono ?_
  rintro e w1 ⟨rfl, hu1⟩
  have HU1 := Lib.hid hu1
  clear hu1
  go_wp2_with fail
  refine (ex_div w1).mono ?_
  rintro e w2 ⟨rfl, hu2⟩
  have HU2 := Lib.hid (HU1.out.trans hu2)
  clear hu2 HU1
  go_wp2_with fail
  refine (parse_one w2 (HT.out.upd HU2.out)).mono ?_
  rintro e w3 ⟨rfl, hu3⟩
  have HU3 := Lib.hid (HU2.out.trans hu3)
  clear hu3 HU2
  go_wp2_with (first | (go_at_call 14; refine (num_any _ _).mono ?_; rintro e w' ⟨rfl, rfl⟩) | (go_at_call 19; refine (ex_int _).mono ?_; rintro e w' ⟨rfl, rfl⟩) | (go_at_call 15; refine (ex_cls _).mono ?_; rintro e w' ⟨rfl, rfl⟩))
  go_ret
  exact ⟨rfl, HU3.out⟩
end Go.Proofs.YtcjellbnildpfaaDoor
