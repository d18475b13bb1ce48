/-
  Parse at one example, and 'works'. Conditions: the tables lie as their texts lay them.
-/
import Derived.Test.YtcjellbnildpfaaDoorA4
namespace Go.Proofs.YtcjellbnildpfaaDoor
open Go.RowKit

theorem cut_p (w : World) : Calls Tryd.prog 36 #[.string ⟨#[49, 46, 56, 112, 48]⟩, .string ⟨#[112]⟩] w fun e w' => e = .returned (.tuple #[.string ⟨#[49, 46, 56]⟩, .string ⟨#[48]⟩, .bool true]) ∧ Upd [] w w' :=
  cut_out _ _ w _ (cut_hit ⟨#[49, 46, 56, 112, 48]⟩ 112 3 w (by decide) (by decide) (by decide)) _ _ _ rfl
theorem cut_dot (w : World) : Calls Tryd.prog 36 #[.string ⟨#[49, 46, 56]⟩, .string ⟨#[46]⟩] w fun e w' => e = .returned (.tuple #[.string ⟨#[49]⟩, .string ⟨#[56]⟩, .bool true]) ∧ Upd [] w w' :=
  cut_out _ _ w _ (cut_hit ⟨#[49, 46, 56]⟩ 46 1 w (by decide) (by decide) (by decide)) _ _ _ rfl

set_option maxRecDepth 100000 in
set_option maxHeartbeats 2000000 in
theorem number_one (w : World) (ht : Tabs w) : Calls Tryd.prog 21 #[.string ⟨#[49, 46, 56, 112, 48]⟩] w fun e w' => e = .returned (.tuple #[.int .u64 4609434218613702656, .bool true]) ∧ Upd [] w w' := by
  have HT := Lib.hid ht
  clear ht
  go_enter Tryd.func21, Tryd.ntmps21
  go_wp2_with fail
  refine (cut_p w).mono ?_
  rintro e w1 ⟨rfl, hu1⟩
  have HU1 := Lib.hid hu1
  clear hu1
  go_wp2_with fail
  refine (cut_dot w1).mono ?_
  rintro e w2 ⟨rfl, hu2⟩
  have HU2 := Lib.hid (HU1.out.trans hu2)
  clear hu2 HU1
  go_wp2_with fail
  refine (Tryd.strconv_Atoi ⟨#[48]⟩ 0 (by decide) (by decide) w2).mono ?_
  rintro e w3 ⟨rfl, t, rfl⟩
  have HU3 := Lib.hid (HU2.out.trans (bytes_upd w2 t))
  clear HU2
  go_wp2_with fail
  refine (Tryd.strings_Repeat ⟨#[48]⟩ 12 _ (by decide) (by decide)).mono ?_
  rintro e w4 ⟨rfl, hb⟩
  have HU4 := Lib.hid (HU3.out.trans (Upd.below hb []))
  clear hb HU3
  go_wp2_with fail
  refine (puint_ok _ 2251799813685248 w4 (by decide) (by decide) (by decide)).mono ?_
  rintro e w5 ⟨rfl, hu5⟩
  have HU5 := Lib.hid (HU4.out.trans hu5)
  clear hu5 HU4
  go_wp2_with fail
  go_ret2
  exact ⟨rfl, HU5.out⟩

theorem text_of_one : textV 4609434218613702656 = [48, 120, 49, 46, 56, 112, 48] := by
  unfold textV sgnV
  rw [if_neg (by decide), if_neg (by decide), if_neg (by decide), if_neg (by decide)]
  unfold bodyV fracV
  rw [show FP.rung 4609434218613702656 / 4503599627370496 = 1023 by decide, show FP.rung 4609434218613702656 % 4503599627370496 = 2251799813685248 by decide]
  rw [hexD_great (by decide), hexD_great (by decide), hexD_great (by decide), hexD_great (by decide), hexD_great (by decide), hexD_great (by decide), hexD_great (by decide), hexD_great (by decide), hexD_great (by decide), hexD_great (by decide), hexD_great (by decide), hexD_great (by decide), hexD_small (by decide)]
  rw [show (if (1023 : Nat) = 0 then 1 else ((1023 : Nat) : Int)) - 1023 = 0 by decide, show Lib.itoa 0 = Lib.decDigits 0 from rfl, Lib.decDigits_one (by omega)]
  decide

set_option maxRecDepth 100000 in
set_option maxHeartbeats 2000000 in
theorem parse_one (w : World) (ht : Tabs w) : Calls Tryd.prog 9 #[.string ⟨#[48, 120, 49, 46, 56, 112, 48]⟩] w fun e w' => e = .returned (.tuple #[.int .u64 4609434218613702656, .int .i64 0]) ∧ Upd [] w w' := by
  have HT := Lib.hid ht
  clear ht
  go_enter Tryd.func9, Tryd.ntmps9
  go_wp2_with fail
  refine (Tryd.strings_CutPrefix ⟨#[48, 120, 49, 46, 56, 112, 48]⟩ ⟨#[45]⟩ w).mono ?_
  rintro e w1 ⟨rfl, rfl⟩
  go_wp2_with fail
  refine (Tryd.strings_CutPrefix ⟨#[48, 120, 49, 46, 56, 112, 48]⟩ ⟨#[48, 120]⟩ w1).mono ?_
  rintro e w2 ⟨rfl, rfl⟩
  go_wp2_with fail
  refine (number_one w2 HT.out).mono ?_
  rintro e w3 ⟨rfl, hu3⟩
  have HU3 := Lib.hid hu3
  clear hu3
  go_wp2_with fail
  refine (text_any 4609434218613702656 w3 (HT.out.upd HU3.out) (by unfold W64; decide)).mono ?_
  rintro e w4 ⟨rfl, hu4⟩
  rw [text_of_one]
  have HU4 := Lib.hid (HU3.out.trans hu4)
  clear hu4 HU3
  go_wp2_with fail
  go_ret2
  exact ⟨rfl, HU4.out⟩

theorem num_any (e : Int) (w : World) : Calls Tryd.prog 14 #[.int .i64 e] w fun r w' => r = .returned (.int .i64 e) ∧ w = w' := by
  go_enter Tryd.func14, Tryd.ntmps14
  go_wp2_with fail
  go_ret
  exact ⟨rfl, rfl⟩
end Go.Proofs.YtcjellbnildpfaaDoor
