/-
  strings.Cut at a separator of one byte, strconv.ParseUint at base 16, and Parse at one example. Conditions: the tables lie as their texts lay them.
-/
import Derived.Test.YtcjellbnildpfaaDoorA3
import Derived.Lib.IndexLaws
import Derived.Lib.CutLaws
import Derived.Lib.Slices
namespace Go.Proofs.YtcjellbnildpfaaDoor
open Go.RowKit

theorem drew_upd (w : World) (n : Nat) : Upd [] w (w.drewN n) := ⟨rfl, rfl, rfl, Nat.le_refl _, fun _ _ _ => rfl⟩

set_option maxRecDepth 100000 in
set_option maxHeartbeats 2000000 in
theorem cut_hit (s : ByteArray) (c : UInt8) (i : Nat) (w : World) (h : Lib.indexByte s.data.toList c = i) (hi : i < s.size) (hs : s.size < 4611686018427387904) :
    Calls Tryd.prog 55 #[.string s, .string ⟨#[c]⟩] w fun e w' => e = .returned (.tuple #[.string (s.extract 0 i), .string (s.extract (i + 1) s.size), .bool true]) ∧ Upd [] w w' := by
  have HI := Lib.hid (Tryd.stringslite_Index_one s c w)
  have c1 : (0 : Int) ≤ ↑i := by omega
  have c2 : (↑i : Int) ≤ ↑s.size := by omega
  have c3 : (0 : Int) ≤ ↑i + 1 := by omega
  have c4 : (↑i + 1 : Int) ≤ ↑s.size := by omega
  have c5 : (i : Int) < 4611686018427387904 := by omega
  go_enter Tryd.func55, Tryd.ntmps55
  go_wp2_with (go_at_call 72; refine HI.out.mono ?_; rintro e w' ⟨rfl, rfl⟩; rw [h])
  go_quiet (fail)
  go_wp2
  go_ret3
  exact ⟨rfl, drew_upd _ _⟩

set_option maxRecDepth 100000 in
set_option maxHeartbeats 2000000 in
theorem cut_miss (s : ByteArray) (c : UInt8) (w : World) (h : Lib.indexByte s.data.toList c = -1) :
    Calls Tryd.prog 55 #[.string s, .string ⟨#[c]⟩] w fun e w' => e = .returned (.tuple #[.string s, .string ⟨#[]⟩, .bool false]) ∧ Upd [] w w' := by
  have HI := Lib.hid (Tryd.stringslite_Index_one s c w)
  go_enter Tryd.func55, Tryd.ntmps55
  go_wp2_with (go_at_call 72; refine HI.out.mono ?_; rintro e w' ⟨rfl, rfl⟩; rw [h])
  go_ret3
  exact ⟨rfl, Upd.refl _ _⟩

/-- strings.Cut at a separator of one byte -/
theorem cut_out (s : ByteArray) (c : UInt8) (w : World) (v : Value) (h : Calls Tryd.prog 55 #[.string s, .string ⟨#[c]⟩] w fun e w' => e = .returned v ∧ Upd [] w w') (a b : ByteArray) (k : Bool) (hv : v = .tuple #[.string a, .string b, .bool k]) :
    Calls Tryd.prog 36 #[.string s, .string ⟨#[c]⟩] w fun e w' => e = .returned v ∧ Upd [] w w' := by
  subst hv
  have H := Lib.hid h
  clear h
  go_enter Tryd.func36, Tryd.ntmps36
  go_wp2_with (go_at_call 55; refine H.out.mono ?_; rintro e w' ⟨rfl, hu⟩)
  go_ret3
  exact ⟨rfl, hu⟩

/-- ParseUint at base 16 and a text that is right -/
theorem puint_ok (s : ByteArray) (v : Nat) (w : World) (h0 : 0 < s.size) (h1 : s.size ≤ 15) (hv : hexV 0 s.data.toList = some v) :
    Calls Tryd.prog 38 #[.string s, .int .i64 16, .int .i64 64] w fun e w' => e = .returned (.tuple #[.int .u64 v, .nilIface]) ∧ Upd [] w w' := by
  have H := parseIn s w h0 h1
  rw [hv] at H
  have H := Lib.hid (show Calls Tryd.prog 58 #[.string s, .int .i64 16, .int .i64 64] w fun e w' => e = .returned (.tuple #[.int .u64 v, .nilIface]) ∧ Upd [] w w' from H)
  clear hv
  go_enter Tryd.func38, Tryd.ntmps38
  go_wp2_with (go_at_call 58; refine H.out.mono ?_; rintro e w' ⟨rfl, hu⟩)
  go_ret2
  exact ⟨rfl, hu⟩
end Go.Proofs.YtcjellbnildpfaaDoor
