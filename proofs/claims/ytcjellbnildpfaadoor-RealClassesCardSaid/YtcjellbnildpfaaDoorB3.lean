/-
  The law RealClasses answers true. Conditions: the word is of 64 bits, the tables lie as their texts lay them.
-/
import Derived.Test.YtcjellbnildpfaaDoorA6
import Derived.Test.YtcjellbnildpfaaDoorXor
namespace Go.Proofs.YtcjellbnildpfaaDoor
open Go.RowKit

theorem cls_across {a : Nat} (h : W64 a) :
    (clsV a = 1 ∧ clsV (FP.flip a) = 128) ∨ (clsV a = 2 ∧ clsV (FP.flip a) = 64) ∨ (clsV a = 4 ∧ clsV (FP.flip a) = 32) ∨ (clsV a = 8 ∧ clsV (FP.flip a) = 16) ∨ (clsV a = 16 ∧ clsV (FP.flip a) = 8)
    ∨ (clsV a = 32 ∧ clsV (FP.flip a) = 4) ∨ (clsV a = 64 ∧ clsV (FP.flip a) = 2) ∨ (clsV a = 128 ∧ clsV (FP.flip a) = 1) ∨ (clsV a = 256 ∧ clsV (FP.flip a) = 256) ∨ (clsV a = 512 ∧ clsV (FP.flip a) = 512) := by
  unfold clsV
  rw [FP.neg_flip h, FP.rung_flip h]
  generalize FP.rung a = r
  cases FP.neg a
  all_goals
    simp only [Bool.not_true, Bool.not_false, if_true, if_false, Bool.false_eq_true]
    by_cases h1 : 9218868437227405312 < r
    · rw [if_pos h1, if_pos h1]
      by_cases h2 : r / 2251799813685248 % 2 = 1
      · rw [if_pos h2]; simp
      · rw [if_neg h2]; simp
    · rw [if_neg h1, if_neg h1]
      by_cases h2 : r = 9218868437227405312
      · rw [if_pos h2, if_pos h2]; simp
      · rw [if_neg h2, if_neg h2]
        by_cases h3 : 4503599627370496 ≤ r
        · rw [if_pos h3, if_pos h3]; simp
        · rw [if_neg h3, if_neg h3]
          by_cases h4 : 0 < r
          · rw [if_pos h4, if_pos h4]; simp
          · rw [if_neg h4, if_neg h4]; simp

set_option maxRecDepth 100000 in
set_option maxHeartbeats 4000000 in
theorem law_classes (a : Nat) (w : World) (h : W64 a) (ht : Tabs w) :
    Calls Tryd.prog 5 #[.int .u64 a] w fun e w' => e = .returned (.bool true) ∧ Upd [] w w' := by
  have HW := Lib.hid (works_true w ht)
  have HC := Lib.hid (fun w => cls_any a w h)
  have HD := Lib.hid (fun w => cls_any (FP.flip a) w (FP.flip_lt h))
  have HN := Lib.hid (show ∀ w, Calls Tryd.prog 16 #[.int .i64 53, .int .u64 a, .int .u64 0] w fun e w' => e = .returned (.tuple #[.int .u64 (FP.flip a : Nat), .int .i64 0]) ∧ ∃ n, w' = w.drewN n from fun w => by
    rw [← xor_sign h]; exact arith_neg a 0 w)
  have hx := cls_across h
  generalize clsV (FP.flip a) = d at *
  generalize clsV a = c at *
  generalize FP.flip a = fa at *
  clear h ht
  rcases hx with ⟨rfl, rfl⟩ | ⟨rfl, rfl⟩ | ⟨rfl, rfl⟩ | ⟨rfl, rfl⟩ | ⟨rfl, rfl⟩ | ⟨rfl, rfl⟩ | ⟨rfl, rfl⟩ | ⟨rfl, rfl⟩ | ⟨rfl, rfl⟩ | ⟨rfl, rfl⟩
  · go_enter Tryd.func5, Tryd.ntmps5
    go_wp2_with (first | (go_at_call 13; refine HW.out.mono ?_; rintro e w1 ⟨rfl, hu⟩; have HU := Lib.hid hu; clear hu) | ((with_reducible refine (HC.out _).mono ?_); rintro e w2 ⟨rfl, rfl⟩) | ((with_reducible refine (HD.out _).mono ?_); rintro e w2 ⟨rfl, rfl⟩) | ((with_reducible refine (HN.out _).mono ?_); rintro e w2 ⟨rfl, k, rfl⟩))
    go_loopw [8] (fun vi wr => ∃ (j : Nat), j ≤ 0 ∧ vi = .int .i64 j ∧ Upd [] w wr ∧ Blk wr w1.heap.size #[.int .i64 7, .int .i64 6, .int .i64 5, .int .i64 4, .int .i64 3, .int .i64 2, .int .i64 1, .int .i64 0, .int .i64 8, .int .i64 9] 30) (fun vi _ => 10 - (intOf vi).toNat)
    case atStart => exact ⟨0, by omega, rfl, by repeat (first | exact HU.out | refine Upd.drewN ?_ _ | refine Upd.drew ?_ | refine Upd.alloc ?_ _), by repeat (first | exact Blk.new _ _ _ | refine Blk.drewN ?_ _ | refine Blk.drew ?_)⟩
    case round =>
      obtain ⟨j, hj, rfl, hu, hblk⟩ := hrel
      have ci := hblk.cell 0 (.int .i64 7) rfl
      obtain rfl : j = 0 := by omega
      · go_wp2
        go_ret
        exact ⟨rfl, hu⟩
  · go_enter Tryd.func5, Tryd.ntmps5
    go_wp2_with (first | (go_at_call 13; refine HW.out.mono ?_; rintro e w1 ⟨rfl, hu⟩; have HU := Lib.hid hu; clear hu) | ((with_reducible refine (HC.out _).mono ?_); rintro e w2 ⟨rfl, rfl⟩) | ((with_reducible refine (HD.out _).mono ?_); rintro e w2 ⟨rfl, rfl⟩) | ((with_reducible refine (HN.out _).mono ?_); rintro e w2 ⟨rfl, k, rfl⟩))
    go_loopw [8] (fun vi wr => ∃ (j : Nat), j ≤ 1 ∧ vi = .int .i64 j ∧ Upd [] w wr ∧ Blk wr w1.heap.size #[.int .i64 7, .int .i64 6, .int .i64 5, .int .i64 4, .int .i64 3, .int .i64 2, .int .i64 1, .int .i64 0, .int .i64 8, .int .i64 9] 30) (fun vi _ => 10 - (intOf vi).toNat)
    case atStart => exact ⟨0, by omega, rfl, by repeat (first | exact HU.out | refine Upd.drewN ?_ _ | refine Upd.drew ?_ | refine Upd.alloc ?_ _), by repeat (first | exact Blk.new _ _ _ | refine Blk.drewN ?_ _ | refine Blk.drew ?_)⟩
    case round =>
      obtain ⟨j, hj, rfl, hu, hblk⟩ := hrel
      have ci := hblk.cell 1 (.int .i64 6) rfl
      obtain rfl | rfl : j = 0 ∨ j = 1 := by omega
      · go_wp2
        go_round
        case rel => exact ⟨1, by omega, rfl, hu, hblk⟩
        case measure => simp [intOf]
      · go_wp2
        go_ret
        exact ⟨rfl, hu⟩
  · go_enter Tryd.func5, Tryd.ntmps5
    go_wp2_with (first | (go_at_call 13; refine HW.out.mono ?_; rintro e w1 ⟨rfl, hu⟩; have HU := Lib.hid hu; clear hu) | ((with_reducible refine (HC.out _).mono ?_); rintro e w2 ⟨rfl, rfl⟩) | ((with_reducible refine (HD.out _).mono ?_); rintro e w2 ⟨rfl, rfl⟩) | ((with_reducible refine (HN.out _).mono ?_); rintro e w2 ⟨rfl, k, rfl⟩))
    go_loopw [8] (fun vi wr => ∃ (j : Nat), j ≤ 2 ∧ vi = .int .i64 j ∧ Upd [] w wr ∧ Blk wr w1.heap.size #[.int .i64 7, .int .i64 6, .int .i64 5, .int .i64 4, .int .i64 3, .int .i64 2, .int .i64 1, .int .i64 0, .int .i64 8, .int .i64 9] 30) (fun vi _ => 10 - (intOf vi).toNat)
    case atStart => exact ⟨0, by omega, rfl, by repeat (first | exact HU.out | refine Upd.drewN ?_ _ | refine Upd.drew ?_ | refine Upd.alloc ?_ _), by repeat (first | exact Blk.new _ _ _ | refine Blk.drewN ?_ _ | refine Blk.drew ?_)⟩
    case round =>
      obtain ⟨j, hj, rfl, hu, hblk⟩ := hrel
      have ci := hblk.cell 2 (.int .i64 5) rfl
      obtain rfl | rfl | rfl : j = 0 ∨ j = 1 ∨ j = 2 := by omega
      · go_wp2
        go_round
        case rel => exact ⟨1, by omega, rfl, hu, hblk⟩
        case measure => simp [intOf]
      · go_wp2
        go_round
        case rel => exact ⟨2, by omega, rfl, hu, hblk⟩
        case measure => simp [intOf]
      · go_wp2
        go_ret
        exact ⟨rfl, hu⟩
  · go_enter Tryd.func5, Tryd.ntmps5
    go_wp2_with (first | (go_at_call 13; refine HW.out.mono ?_; rintro e w1 ⟨rfl, hu⟩; have HU := Lib.hid hu; clear hu) | ((with_reducible refine (HC.out _).mono ?_); rintro e w2 ⟨rfl, rfl⟩) | ((with_reducible refine (HD.out _).mono ?_); rintro e w2 ⟨rfl, rfl⟩) | ((with_reducible refine (HN.out _).mono ?_); rintro e w2 ⟨rfl, k, rfl⟩))
    go_loopw [8] (fun vi wr => ∃ (j : Nat), j ≤ 3 ∧ vi = .int .i64 j ∧ Upd [] w wr ∧ Blk wr w1.heap.size #[.int .i64 7, .int .i64 6, .int .i64 5, .int .i64 4, .int .i64 3, .int .i64 2, .int .i64 1, .int .i64 0, .int .i64 8, .int .i64 9] 30) (fun vi _ => 10 - (intOf vi).toNat)
    case atStart => exact ⟨0, by omega, rfl, by repeat (first | exact HU.out | refine Upd.drewN ?_ _ | refine Upd.drew ?_ | refine Upd.alloc ?_ _), by repeat (first | exact Blk.new _ _ _ | refine Blk.drewN ?_ _ | refine Blk.drew ?_)⟩
    case round =>
      obtain ⟨j, hj, rfl, hu, hblk⟩ := hrel
      have ci := hblk.cell 3 (.int .i64 4) rfl
      obtain rfl | rfl | rfl | rfl : j = 0 ∨ j = 1 ∨ j = 2 ∨ j = 3 := by omega
      · go_wp2
        go_round
        case rel => exact ⟨1, by omega, rfl, hu, hblk⟩
        case measure => simp [intOf]
      · go_wp2
        go_round
        case rel => exact ⟨2, by omega, rfl, hu, hblk⟩
        case measure => simp [intOf]
      · go_wp2
        go_round
        case rel => exact ⟨3, by omega, rfl, hu, hblk⟩
        case measure => simp [intOf]
      · go_wp2
        go_ret
        exact ⟨rfl, hu⟩
  · go_enter Tryd.func5, Tryd.ntmps5
    go_wp2_with (first | (go_at_call 13; refine HW.out.mono ?_; rintro e w1 ⟨rfl, hu⟩; have HU := Lib.hid hu; clear hu) | ((with_reducible refine (HC.out _).mono ?_); rintro e w2 ⟨rfl, rfl⟩) | ((with_reducible refine (HD.out _).mono ?_); rintro e w2 ⟨rfl, rfl⟩) | ((with_reducible refine (HN.out _).mono ?_); rintro e w2 ⟨rfl, k, rfl⟩))
    go_loopw [8] (fun vi wr => ∃ (j : Nat), j ≤ 4 ∧ vi = .int .i64 j ∧ Upd [] w wr ∧ Blk wr w1.heap.size #[.int .i64 7, .int .i64 6, .int .i64 5, .int .i64 4, .int .i64 3, .int .i64 2, .int .i64 1, .int .i64 0, .int .i64 8, .int .i64 9] 30) (fun vi _ => 10 - (intOf vi).toNat)
    case atStart => exact ⟨0, by omega, rfl, by repeat (first | exact HU.out | refine Upd.drewN ?_ _ | refine Upd.drew ?_ | refine Upd.alloc ?_ _), by repeat (first | exact Blk.new _ _ _ | refine Blk.drewN ?_ _ | refine Blk.drew ?_)⟩
    case round =>
      obtain ⟨j, hj, rfl, hu, hblk⟩ := hrel
      have ci := hblk.cell 4 (.int .i64 3) rfl
      obtain rfl | rfl | rfl | rfl | rfl : j = 0 ∨ j = 1 ∨ j = 2 ∨ j = 3 ∨ j = 4 := by omega
      · go_wp2
        go_round
        case rel => exact ⟨1, by omega, rfl, hu, hblk⟩
        case measure => simp [intOf]
      · go_wp2
        go_round
        case rel => exact ⟨2, by omega, rfl, hu, hblk⟩
        case measure => simp [intOf]
      · go_wp2
        go_round
        case rel => exact ⟨3, by omega, rfl, hu, hblk⟩
        case measure => simp [intOf]
      · go_wp2
        go_round
        case rel => exact ⟨4, by omega, rfl, hu, hblk⟩
        case measure => simp [intOf]
      · go_wp2
        go_ret
        exact ⟨rfl, hu⟩
  · go_enter Tryd.func5, Tryd.ntmps5
    go_wp2_with (first | (go_at_call 13; refine HW.out.mono ?_; rintro e w1 ⟨rfl, hu⟩; have HU := Lib.hid hu; clear hu) | ((with_reducible refine (HC.out _).mono ?_); rintro e w2 ⟨rfl, rfl⟩) | ((with_reducible refine (HD.out _).mono ?_); rintro e w2 ⟨rfl, rfl⟩) | ((with_reducible refine (HN.out _).mono ?_); rintro e w2 ⟨rfl, k, rfl⟩))
    go_loopw [8] (fun vi wr => ∃ (j : Nat), j ≤ 5 ∧ vi = .int .i64 j ∧ Upd [] w wr ∧ Blk wr w1.heap.size #[.int .i64 7, .int .i64 6, .int .i64 5, .int .i64 4, .int .i64 3, .int .i64 2, .int .i64 1, .int .i64 0, .int .i64 8, .int .i64 9] 30) (fun vi _ => 10 - (intOf vi).toNat)
    case atStart => exact ⟨0, by omega, rfl, by repeat (first | exact HU.out | refine Upd.drewN ?_ _ | refine Upd.drew ?_ | refine Upd.alloc ?_ _), by repeat (first | exact Blk.new _ _ _ | refine Blk.drewN ?_ _ | refine Blk.drew ?_)⟩
    case round =>
      obtain ⟨j, hj, rfl, hu, hblk⟩ := hrel
      have ci := hblk.cell 5 (.int .i64 2) rfl
      obtain rfl | rfl | rfl | rfl | rfl | rfl : j = 0 ∨ j = 1 ∨ j = 2 ∨ j = 3 ∨ j = 4 ∨ j = 5 := by omega
      · go_wp2
        go_round
        case rel => exact ⟨1, by omega, rfl, hu, hblk⟩
        case measure => simp [intOf]
      · go_wp2
        go_round
        case rel => exact ⟨2, by omega, rfl, hu, hblk⟩
        case measure => simp [intOf]
      · go_wp2
        go_round
        case rel => exact ⟨3, by omega, rfl, hu, hblk⟩
        case measure => simp [intOf]
      · go_wp2
        go_round
        case rel => exact ⟨4, by omega, rfl, hu, hblk⟩
        case measure => simp [intOf]
      · go_wp2
        go_round
        case rel => exact ⟨5, by omega, rfl, hu, hblk⟩
        case measure => simp [intOf]
      · go_wp2
        go_ret
        exact ⟨rfl, hu⟩
  · go_enter Tryd.func5, Tryd.ntmps5
    go_wp2_with (first | (go_at_call 13; refine HW.out.mono ?_; rintro e w1 ⟨rfl, hu⟩; have HU := Lib.hid hu; clear hu) | ((with_reducible refine (HC.out _).mono ?_); rintro e w2 ⟨rfl, rfl⟩) | ((with_reducible refine (HD.out _).mono ?_); rintro e w2 ⟨rfl, rfl⟩) | ((with_reducible refine (HN.out _).mono ?_); rintro e w2 ⟨rfl, k, rfl⟩))
    go_loopw [8] (fun vi wr => ∃ (j : Nat), j ≤ 6 ∧ vi = .int .i64 j ∧ Upd [] w wr ∧ Blk wr w1.heap.size #[.int .i64 7, .int .i64 6, .int .i64 5, .int .i64 4, .int .i64 3, .int .i64 2, .int .i64 1, .int .i64 0, .int .i64 8, .int .i64 9] 30) (fun vi _ => 10 - (intOf vi).toNat)
    case atStart => exact ⟨0, by omega, rfl, by repeat (first | exact HU.out | refine Upd.drewN ?_ _ | refine Upd.drew ?_ | refine Upd.alloc ?_ _), by repeat (first | exact Blk.new _ _ _ | refine Blk.drewN ?_ _ | refine Blk.drew ?_)⟩
    case round =>
      obtain ⟨j, hj, rfl, hu, hblk⟩ := hrel
      have ci := hblk.cell 6 (.int .i64 1) rfl
      obtain rfl | rfl | rfl | rfl | rfl | rfl | rfl : j = 0 ∨ j = 1 ∨ j = 2 ∨ j = 3 ∨ j = 4 ∨ j = 5 ∨ j = 6 := by omega
      · go_wp2
        go_round
        case rel => exact ⟨1, by omega, rfl, hu, hblk⟩
        case measure => simp [intOf]
      · go_wp2
        go_round
        case rel => exact ⟨2, by omega, rfl, hu, hblk⟩
        case measure => simp [intOf]
      · go_wp2
        go_round
        case rel => exact ⟨3, by omega, rfl, hu, hblk⟩
        case measure => simp [intOf]
      · go_wp2
        go_round
        case rel => exact ⟨4, by omega, rfl, hu, hblk⟩
        case measure => simp [intOf]
      · go_wp2
        go_round
        case rel => exact ⟨5, by omega, rfl, hu, hblk⟩
        case measure => simp [intOf]
      · go_wp2
        go_round
        case rel => exact ⟨6, by omega, rfl, hu, hblk⟩
        case measure => simp [intOf]
      · go_wp2
        go_ret
        exact ⟨rfl, hu⟩
  · go_enter Tryd.func5, Tryd.ntmps5
    go_wp2_with (first | (go_at_call 13; refine HW.out.mono ?_; rintro e w1 ⟨rfl, hu⟩; have HU := Lib.hid hu; clear hu) | ((with_reducible refine (HC.out _).mono ?_); rintro e w2 ⟨rfl, rfl⟩) | ((with_reducible refine (HD.out _).mono ?_); rintro e w2 ⟨rfl, rfl⟩) | ((with_reducible refine (HN.out _).mono ?_); rintro e w2 ⟨rfl, k, rfl⟩))
    go_loopw [8] (fun vi wr => ∃ (j : Nat), j ≤ 7 ∧ vi = .int .i64 j ∧ Upd [] w wr ∧ Blk wr w1.heap.size #[.int .i64 7, .int .i64 6, .int .i64 5, .int .i64 4, .int .i64 3, .int .i64 2, .int .i64 1, .int .i64 0, .int .i64 8, .int .i64 9] 30) (fun vi _ => 10 - (intOf vi).toNat)
    case atStart => exact ⟨0, by omega, rfl, by repeat (first | exact HU.out | refine Upd.drewN ?_ _ | refine Upd.drew ?_ | refine Upd.alloc ?_ _), by repeat (first | exact Blk.new _ _ _ | refine Blk.drewN ?_ _ | refine Blk.drew ?_)⟩
    case round =>
      obtain ⟨j, hj, rfl, hu, hblk⟩ := hrel
      have ci := hblk.cell 7 (.int .i64 0) rfl
      obtain rfl | rfl | rfl | rfl | rfl | rfl | rfl | rfl : j = 0 ∨ j = 1 ∨ j = 2 ∨ j = 3 ∨ j = 4 ∨ j = 5 ∨ j = 6 ∨ j = 7 := by omega
      · go_wp2
        go_round
        case rel => exact ⟨1, by omega, rfl, hu, hblk⟩
        case measure => simp [intOf]
      · go_wp2
        go_round
        case rel => exact ⟨2, by omega, rfl, hu, hblk⟩
        case measure => simp [intOf]
      · go_wp2
        go_round
        case rel => exact ⟨3, by omega, rfl, hu, hblk⟩
        case measure => simp [intOf]
      · go_wp2
        go_round
        case rel => exact ⟨4, by omega, rfl, hu, hblk⟩
        case measure => simp [intOf]
      · go_wp2
        go_round
        case rel => exact ⟨5, by omega, rfl, hu, hblk⟩
        case measure => simp [intOf]
      · go_wp2
        go_round
        case rel => exact ⟨6, by omega, rfl, hu, hblk⟩
        case measure => simp [intOf]
      · go_wp2
        go_round
        case rel => exact ⟨7, by omega, rfl, hu, hblk⟩
        case measure => simp [intOf]
      · go_wp2
        go_ret
        exact ⟨rfl, hu⟩
  · go_enter Tryd.func5, Tryd.ntmps5
    go_wp2_with (first | (go_at_call 13; refine HW.out.mono ?_; rintro e w1 ⟨rfl, hu⟩; have HU := Lib.hid hu; clear hu) | ((with_reducible refine (HC.out _).mono ?_); rintro e w2 ⟨rfl, rfl⟩) | ((with_reducible refine (HD.out _).mono ?_); rintro e w2 ⟨rfl, rfl⟩) | ((with_reducible refine (HN.out _).mono ?_); rintro e w2 ⟨rfl, k, rfl⟩))
    go_loopw [8] (fun vi wr => ∃ (j : Nat), j ≤ 8 ∧ vi = .int .i64 j ∧ Upd [] w wr ∧ Blk wr w1.heap.size #[.int .i64 7, .int .i64 6, .int .i64 5, .int .i64 4, .int .i64 3, .int .i64 2, .int .i64 1, .int .i64 0, .int .i64 8, .int .i64 9] 30) (fun vi _ => 10 - (intOf vi).toNat)
    case atStart => exact ⟨0, by omega, rfl, by repeat (first | exact HU.out | refine Upd.drewN ?_ _ | refine Upd.drew ?_ | refine Upd.alloc ?_ _), by repeat (first | exact Blk.new _ _ _ | refine Blk.drewN ?_ _ | refine Blk.drew ?_)⟩
    case round =>
      obtain ⟨j, hj, rfl, hu, hblk⟩ := hrel
      have ci := hblk.cell 8 (.int .i64 8) rfl
      obtain rfl | rfl | rfl | rfl | rfl | rfl | rfl | rfl | rfl : j = 0 ∨ j = 1 ∨ j = 2 ∨ j = 3 ∨ j = 4 ∨ j = 5 ∨ j = 6 ∨ j = 7 ∨ j = 8 := by omega
      · go_wp2
        go_round
        case rel => exact ⟨1, by omega, rfl, hu, hblk⟩
        case measure => simp [intOf]
      · go_wp2
        go_round
        case rel => exact ⟨2, by omega, rfl, hu, hblk⟩
        case measure => simp [intOf]
      · go_wp2
        go_round
        case rel => exact ⟨3, by omega, rfl, hu, hblk⟩
        case measure => simp [intOf]
      · go_wp2
        go_round
        case rel => exact ⟨4, by omega, rfl, hu, hblk⟩
        case measure => simp [intOf]
      · go_wp2
        go_round
        case rel => exact ⟨5, by omega, rfl, hu, hblk⟩
        case measure => simp [intOf]
      · go_wp2
        go_round
        case rel => exact ⟨6, by omega, rfl, hu, hblk⟩
        case measure => simp [intOf]
      · go_wp2
        go_round
        case rel => exact ⟨7, by omega, rfl, hu, hblk⟩
        case measure => simp [intOf]
      · go_wp2
        go_round
        case rel => exact ⟨8, by omega, rfl, hu, hblk⟩
        case measure => simp [intOf]
      · go_wp2
        go_ret
        exact ⟨rfl, hu⟩
  · go_enter Tryd.func5, Tryd.ntmps5
    go_wp2_with (first | (go_at_call 13; refine HW.out.mono ?_; rintro e w1 ⟨rfl, hu⟩; have HU := Lib.hid hu; clear hu) | ((with_reducible refine (HC.out _).mono ?_); rintro e w2 ⟨rfl, rfl⟩) | ((with_reducible refine (HD.out _).mono ?_); rintro e w2 ⟨rfl, rfl⟩) | ((with_reducible refine (HN.out _).mono ?_); rintro e w2 ⟨rfl, k, rfl⟩))
    go_loopw [8] (fun vi wr => ∃ (j : Nat), j ≤ 9 ∧ vi = .int .i64 j ∧ Upd [] w wr ∧ Blk wr w1.heap.size #[.int .i64 7, .int .i64 6, .int .i64 5, .int .i64 4, .int .i64 3, .int .i64 2, .int .i64 1, .int .i64 0, .int .i64 8, .int .i64 9] 30) (fun vi _ => 10 - (intOf vi).toNat)
    case atStart => exact ⟨0, by omega, rfl, by repeat (first | exact HU.out | refine Upd.drewN ?_ _ | refine Upd.drew ?_ | refine Upd.alloc ?_ _), by repeat (first | exact Blk.new _ _ _ | refine Blk.drewN ?_ _ | refine Blk.drew ?_)⟩
    case round =>
      obtain ⟨j, hj, rfl, hu, hblk⟩ := hrel
      have ci := hblk.cell 9 (.int .i64 9) rfl
      obtain rfl | rfl | rfl | rfl | rfl | rfl | rfl | rfl | rfl | rfl : j = 0 ∨ j = 1 ∨ j = 2 ∨ j = 3 ∨ j = 4 ∨ j = 5 ∨ j = 6 ∨ j = 7 ∨ j = 8 ∨ j = 9 := by omega
      · go_wp2
        go_round
        case rel => exact ⟨1, by omega, rfl, hu, hblk⟩
        case measure => simp [intOf]
      · go_wp2
        go_round
        case rel => exact ⟨2, by omega, rfl, hu, hblk⟩
        case measure => simp [intOf]
      · go_wp2
        go_round
        case rel => exact ⟨3, by omega, rfl, hu, hblk⟩
        case measure => simp [intOf]
      · go_wp2
        go_round
        case rel => exact ⟨4, by omega, rfl, hu, hblk⟩
        case measure => simp [intOf]
      · go_wp2
        go_round
        case rel => exact ⟨5, by omega, rfl, hu, hblk⟩
        case measure => simp [intOf]
      · go_wp2
        go_round
        case rel => exact ⟨6, by omega, rfl, hu, hblk⟩
        case measure => simp [intOf]
      · go_wp2
        go_round
        case rel => exact ⟨7, by omega, rfl, hu, hblk⟩
        case measure => simp [intOf]
      · go_wp2
        go_round
        case rel => exact ⟨8, by omega, rfl, hu, hblk⟩
        case measure => simp [intOf]
      · go_wp2
        go_round
        case rel => exact ⟨9, by omega, rfl, hu, hblk⟩
        case measure => simp [intOf]
      · go_wp2
        go_ret
        exact ⟨rfl, hu⟩
end Go.Proofs.YtcjellbnildpfaaDoor
