/-
  The law RealBack answers true. Conditions: the word is of 64 bits, the string is no longer than memory, the tables and the two errors lie as their texts lay them.
-/
import Derived.Test.YtcjellbnildpfaaDoorL2
namespace Go.Proofs.YtcjellbnildpfaaDoor
open Go.RowKit

set_option maxRecDepth 100000 in
set_option maxHeartbeats 4000000 in
theorem law_back (a : Nat) (s : ByteArray) (w : World) (h : W64 a) (hs : s.size ≤ 140737488355328) (he : Errs w) :
    Calls Tryd.prog 4 #[.int .u64 a, .string s] w fun e w' => e = .returned (.bool true) ∧ Upd [] w w' := by
  have HE := Lib.hid he
  have HW := Lib.hid (works_true w he.tabs)
  have pa : bits .andNot .u64 (a : Int) 9223372036854775808 = ((FP.rung a : Nat) : Int) := andNot_sign h
  have HT := Lib.hid (fun w ht => text_any a w ht h)
  have HP := Lib.hid (show ∀ w, Errs w → Calls Tryd.prog 9 #[.string ⟨(textV a).toArray⟩] w fun e w' => e = .returned (.tuple #[.int .u64 ((if FP.isNaN a then 9221120237041090560 else a : Nat)), .int .i64 0]) ∧ Upd [] w w' from fun w hw => by
    have := parse_any ⟨(textV a).toArray⟩ w (by show (textV a).toArray.size ≤ _; have := text_len a; simp; omega) hw
    rw [show ({ data := (textV a).toArray } : ByteArray).data.toList = textV a by simp, parse_text a h] at this
    exact this)
  have HS := Lib.hid (fun w hw => parse_any s w hs hw)
  have ho := @parse_out s.data.toList
  have hsl : s.toList = s.data.toList := ByteArray.toList_eq s
  generalize parseV s.data.toList = o at *
  have hb : decide (((FP.rung a : Nat) : Int) ≤ 9218868437227405312) = !FP.isNaN a := by
    unfold FP.isNaN; rw [Bool.eq_iff_iff]; simp; omega
  obtain ⟨k, hk⟩ : ∃ k, ((9221120237041090560 : Int) != (a : Int)) = k := ⟨_, rfl⟩
  generalize FP.rung a = ra at *
  generalize textV a = T at *
  generalize FP.isNaN a = na at *
  clear h he hs
  have key : ∀ (b : Nat), (((b : Int) != a) = false ∨ (((b : Int) != a) = true ∧ decide ((ra : Int) ≤ 9218868437227405312) = false)) →
      (∀ w, Errs w → Calls Tryd.prog 9 #[.string ⟨T.toArray⟩] w fun e w' => e = .returned (.tuple #[.int .u64 b, .int .i64 0]) ∧ Upd [] w w') →
      Calls Tryd.prog 4 #[.int .u64 a, .string s] w fun e w' => e = .returned (.bool true) ∧ Upd [] w w' := by
    clear HP hb hk
    intro b hq HP0
    have HP := Lib.hid HP0
    clear HP0
    cases o with
    | none =>
      have HS := Lib.hid (show ∀ w, Errs w → Calls Tryd.prog 9 #[.string s] w fun e w' => e = .returned (.tuple #[.int .u64 0, .int .i64 3]) ∧ Upd [] w w' from HS.out)
      clear ho hsl
      rcases hq with q1 | ⟨q1, q2⟩
      all_goals
        go_enter Tryd.func4, Tryd.ntmps4
        go_wp2_with (first | (go_at_call 13; refine HW.out.mono ?_; rintro e w1 ⟨rfl, hu⟩; have HU := Lib.hid hu; clear hu) | ((with_reducible refine (HT.out _ (HE.out.upd HU.out).tabs).mono ?_); rintro e w2 ⟨rfl, hu⟩; have HV := Lib.hid (HU.out.trans hu); clear hu HU) | ((with_reducible refine (HP.out _ (HE.out.upd HV.out)).mono ?_); rintro e w3 ⟨rfl, hu⟩; have HX := Lib.hid (HV.out.trans hu); clear hu HV) | ((with_reducible refine (HS.out _ (HE.out.upd HX.out)).mono ?_); rintro e w4 ⟨rfl, hu⟩; have HY := Lib.hid (HX.out.trans hu); clear hu HX) | (go_at_call 14; refine (num_any _ _).mono ?_; rintro e w5 ⟨rfl, rfl⟩))
        go_ret
        exact ⟨rfl, HY.out⟩
    | some c =>
      obtain ⟨hc, hc64⟩ := ho rfl
      have HS := Lib.hid (show ∀ w, Errs w → Calls Tryd.prog 9 #[.string s] w fun e w' => e = .returned (.tuple #[.int .u64 c, .int .i64 0]) ∧ Upd [] w w' from HS.out)
      have HC := Lib.hid (fun w ht => text_any c w ht hc64)
      have k1 : (textV c == s.toList) = true := by rw [hsl, hc]; simp
      have k2 : (({ data := (textV c).toArray } : ByteArray).toList == s.toList) = true := by rw [ByteArray.toList_eq, hsl]; simp [hc]
      clear ho hsl hc hc64
      generalize textV c = U at *
      rcases hq with q1 | ⟨q1, q2⟩
      all_goals
        go_enter Tryd.func4, Tryd.ntmps4
        go_wp2_with (first | (go_at_call 13; refine HW.out.mono ?_; rintro e w1 ⟨rfl, hu⟩; have HU := Lib.hid hu; clear hu) | ((with_reducible refine (HT.out _ (HE.out.upd HU.out).tabs).mono ?_); rintro e w2 ⟨rfl, hu⟩; have HV := Lib.hid (HU.out.trans hu); clear hu HU) | ((with_reducible refine (HP.out _ (HE.out.upd HV.out)).mono ?_); rintro e w3 ⟨rfl, hu⟩; have HX := Lib.hid (HV.out.trans hu); clear hu HV) | ((with_reducible refine (HS.out _ (HE.out.upd HX.out)).mono ?_); rintro e w4 ⟨rfl, hu⟩; have HY := Lib.hid (HX.out.trans hu); clear hu HX) | ((with_reducible refine (HC.out _ (HE.out.upd HY.out).tabs).mono ?_); rintro e w6 ⟨rfl, hu⟩; have HZ := Lib.hid (HY.out.trans hu); clear hu HY) | (go_at_call 14; refine (num_any _ _).mono ?_; rintro e w5 ⟨rfl, rfl⟩))
        go_ret
        exact ⟨rfl, HZ.out⟩
  cases na
  · exact key a (.inl (by simp)) HP.out
  · refine key 9221120237041090560 ?_ HP.out
    cases k
    · exact .inl hk
    · exact .inr ⟨hk, hb⟩
end Go.Proofs.YtcjellbnildpfaaDoor
