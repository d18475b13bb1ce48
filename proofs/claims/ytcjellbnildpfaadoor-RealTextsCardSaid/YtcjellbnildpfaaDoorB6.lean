/-
  The law RealTexts answers true. Conditions: the word is of 64 bits, the string is no longer than memory, the tables and the two errors lie as their texts lay them.
-/
import Derived.Test.YtcjellbnildpfaaDoorW9
import Derived.Test.YtcjellbnildpfaaDoorL5
namespace Go.Proofs.YtcjellbnildpfaaDoor
open Go.RowKit

set_option maxRecDepth 100000 in
set_option maxHeartbeats 4000000 in
theorem law_texts (a : Nat) (s : ByteArray) (w : World) (h : W64 a) (hs : s.size ≤ 140737488355328) (he : Errs w) :
    Calls Tryd.prog 3 #[.int .u64 a, .string s] w fun e w' => e = .returned (.bool true) ∧ Upd [] w w' := by
  have HE := Lib.hid he
  have P1 := Lib.hid (fun w hw => parse_any s w hs hw)
  have P2 := Lib.hid (fun w => rparse_any s w hs)
  have T1 := Lib.hid (fun w ht => text_any a w ht h)
  have T2 := Lib.hid (fun w => rtext_any a w h)
  rw [ref_same] at P2
  generalize parseV s.data.toList = o at *
  generalize textV a = T at *
  clear h hs he
  have key : ∀ (x y : Int), parseA o = .tuple #[.int .u64 x, .int .i64 y] → Calls Tryd.prog 3 #[.int .u64 a, .string s] w fun e w' => e = .returned (.bool true) ∧ Upd [] w w' := by
    intro x y hxy
    rw [hxy] at P1 P2
    clear hxy
    go_enter Tryd.func3, Tryd.ntmps3
    go_wp2_with fail
    refine (P1.out w HE.out).mono ?_
    rintro e w1 ⟨rfl, hu1⟩
    have HU1 := Lib.hid hu1
    clear hu1
    go_wp2_with fail
    refine (P2.out w1).mono ?_
    rintro e w2 ⟨rfl, hu2⟩
    have HU2 := Lib.hid (HU1.out.trans hu2)
    clear hu2 HU1
    go_wp2_with fail
    refine (T1.out w2 (HE.out.upd HU2.out).tabs).mono ?_
    rintro e w3 ⟨rfl, hu3⟩
    have HU3 := Lib.hid (HU2.out.trans hu3)
    clear hu3 HU2
    go_wp2_with fail
    refine (T2.out w3).mono ?_
    rintro e w4 ⟨rfl, hu4⟩
    have HU4 := Lib.hid (HU3.out.trans hu4)
    clear hu4 HU3
    go_wp2_with fail
    go_ret
    exact ⟨rfl, HU4.out⟩
  cases o with
  | none => exact key 0 3 rfl
  | some c => exact key c 0 rfl
end Go.Proofs.YtcjellbnildpfaaDoor
