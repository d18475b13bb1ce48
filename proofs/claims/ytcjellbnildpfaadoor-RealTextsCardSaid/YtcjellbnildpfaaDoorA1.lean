/-
  The library's FormatUint at base 16: what it answers. Conditions: the table of bits lies as its text lays it.
-/
import Derived.Test.YtcjellbnildpfaaDoorBase
import Derived.PlainAid
import Derived.Laws.BytesString
import Derived.Shelf.Strconv.Itoa3
import Derived.WalkKit
import Derived.WalkSpells
import Derived.WalkLawsBesides
import Derived.Deep.QuietTactic
import Derived.BigQuiet
import Derived.Deep.RegionWith
import Derived.Lib.Hide
import Derived.Outline
import Derived.Below
namespace Go.Proofs.YtcjellbnildpfaaDoor
open Go.RowKit

/-- the one place of the table that is read -/
def Tab (w : World) : Prop := w.cell? ⟨6, 15, none⟩ = some (.int .u8 4)

theorem pow_16 (w : World) : Calls Tryd.prog 83 #[.int .i64 16] w fun e w' => e = .returned (.bool true) ∧ w = w' := by
  go_enter Tryd.func83, Tryd.ntmps83
  go_wp2
  go_ret
  exact ⟨congrArg (fun b => Ending.returned (.bool b)) (show (bits BinOp.and IntKind.i64 16 15 == 0) = true by decide +kernel), rfl⟩

theorem tz64_16 (w : World) (h : Tab w) : Calls Tryd.prog 97 #[.int .u64 16] w fun e w' => e = .returned (.int .i64 4) ∧ w = w' := by
  unfold Tab at h
  have e1 : IntKind.u64.wrap (bits BinOp.and IntKind.u64 16 (IntKind.u64.wrap (-16)) * 285870213051353865) / 288230376151711744 = 15 := by decide +kernel
  go_enter Tryd.func97, Tryd.ntmps97
  go_wp2_with fail
  go_ret
  exact ⟨rfl, rfl⟩

theorem tz_16 (w : World) (h : Tab w) : Calls Tryd.prog 84 #[.int .u64 16] w fun e w' => e = .returned (.int .i64 4) ∧ w = w' := by
  have H := Lib.hid (tz64_16 w h)
  clear h
  go_enter Tryd.func84, Tryd.ntmps84
  go_wp2_with (go_at_call 97; refine H.out.mono ?_; rintro e w' ⟨rfl, rfl⟩)
  go_ret
  exact ⟨rfl, rfl⟩

theorem Upd.setNew {S : List Nat} {a b : World} (h : Upd S a b) {p : Addr} (hp : a.heap.size ≤ p.block) (u : Value) : Upd S a (b.setCell p u) :=
  ⟨h.os, h.tape, h.output, by simpa [World.setCell] using h.size, fun k hk hs => (Below.heap_setCell _ _ _ _ (by omega)).trans (h.block k hk hs)⟩

theorem addr_add (b off j : Nat) : (⟨b, off, none⟩ : Addr).add j = ⟨b, off + j, none⟩ := by
  unfold Addr.add
  split <;> simp_all

theorem drop_set {α : Type} (l : List α) (m : Nat) (v : α) (h : m < l.length) : (l.set m v).drop m = v :: l.drop (m + 1) := by
  rw [List.drop_eq_getElem_cons (by simpa using h)]
  simp [List.drop_set]

theorem cells_of {w : World} {b : Nat} {cs : Array Value} {T : TypeId} (hb : Blk w b cs T) {m : Nat} {l : List UInt8} (h : cs.toList.drop m = l.map (fun c => Value.int .u8 c.toNat)) :
    ∀ j (hj : j < l.length), w.cell? ⟨b, m + j, none⟩ = some (.int .u8 (l[j].toNat : Int)) := by
  intro j hj
  refine hb.cell (m + j) _ ?_
  have h1 : (cs.toList.drop m)[j]? = (l.map (fun c => Value.int .u8 c.toNat))[j]? := by rw [h]
  rw [List.getElem?_drop, List.getElem?_map, List.getElem?_eq_getElem hj] at h1
  simpa using h1

/-- a digit more, in front -/
theorem digit_more {cs : Array Value} {m : Nat} {low : List UInt8} (c : UInt8) (hs : m < cs.size) (h : cs.toList.drop (m + 1) = low.map (fun c => Value.int .u8 c.toNat)) :
    (cs.setIfInBounds m (.int .u8 c.toNat)).toList.drop m = (c :: low).map (fun c => Value.int .u8 c.toNat) := by
  rw [Array.toList_setIfInBounds, drop_set _ _ _ (by simpa using hs), h]
  rfl

/-- a digit, as a letter -/
def dg (n : Nat) : Nat := if n < 10 then 48 + n else 87 + n

theorem Tab.below {w w' : World} (h : Tab w) (h6 : 6 < w.heap.size) (hb : Below w.heap.size w w') : Tab w' := (hb.cell (p := ⟨6, 15, none⟩) h6).trans h

/-- the digits of a number at base 16 -/
def dgB (n : Nat) : UInt8 := (dg n).toUInt8
def hexD (u : Nat) : List UInt8 := if u < 16 then [dgB u] else hexD (u / 16) ++ [dgB (u % 16)]
termination_by u
decreasing_by omega

theorem hexD_small {u : Nat} (h : u < 16) : hexD u = [dgB u] := by rw [hexD, if_pos h]
theorem hexD_great {u : Nat} (h : ¬ u < 16) : hexD u = hexD (u / 16) ++ [dgB (u % 16)] := by rw [hexD, if_neg h]

theorem digit_is (j : Nat) (hj : j < 16) (h : j < (ByteArray.mk #[48, 49, 50, 51, 52, 53, 54, 55, 56, 57, 97, 98, 99, 100, 101, 102, 103, 104, 105, 106, 107, 108, 109, 110, 111, 112, 113, 114, 115, 116, 117, 118, 119, 120, 121, 122]).size) :
    (ByteArray.mk #[48, 49, 50, 51, 52, 53, 54, 55, 56, 57, 97, 98, 99, 100, 101, 102, 103, 104, 105, 106, 107, 108, 109, 110, 111, 112, 113, 114, 115, 116, 117, 118, 119, 120, 121, 122])[j] = dgB j := by
  have : j = 0 ∨ j = 1 ∨ j = 2 ∨ j = 3 ∨ j = 4 ∨ j = 5 ∨ j = 6 ∨ j = 7 ∨ j = 8 ∨ j = 9 ∨ j = 10 ∨ j = 11 ∨ j = 12 ∨ j = 13 ∨ j = 14 ∨ j = 15 := by omega
  rcases this with rfl | rfl | rfl | rfl | rfl | rfl | rfl | rfl | rfl | rfl | rfl | rfl | rfl | rfl | rfl | rfl <;> rfl

set_option maxRecDepth 100000 in
set_option maxHeartbeats 1000000 in
theorem fmtBits (u : Nat) (w : World) (h : Tab w) (h6 : 6 < w.heap.size) (hu : u < 18446744073709551616) :
    Calls Tryd.prog 62 #[.slice none 0 0, .int .u64 u, .int .i64 16, .bool false, .bool false] w fun e w' => e = .returned (.tuple #[.slice none 0 0, .string ⟨(hexD u).toArray⟩]) ∧ Upd [] w w' := by
  have HT := Lib.hid (fun W hb => tz_16 W (h.below h6 hb))
  clear h
  go_enter Tryd.func62, Tryd.ntmps62
  go_wp2_with (first | (go_at_call 83; refine (pow_16 _).mono ?_; rintro e w' ⟨rfl, rfl⟩) | (go_at_call 84; refine (HT.out _ ((Below.refl _ _).alloc (Nat.le_refl _) _)).mono ?_; rintro e w' ⟨rfl, rfl⟩))
  go_loopw [1, 13] (fun v1 v13 wr => ∃ (m U : Nat) (cs : Array Value) (low : List UInt8), 49 ≤ m ∧ m ≤ 64 ∧ U < 18446744073709551616 ∧ Hid (U * 16 ^ (64 - m) ≤ u) ∧ v1 = .int .u64 U ∧ v13 = .int .i64 ((m : Int) + 1) ∧ Hid (Blk wr w.heap.size cs 112) ∧ Hid (cs.size = 65) ∧ Hid (cs.toList.drop (m + 1) = low.map (fun c => Value.int .u8 c.toNat)) ∧ Hid (low.length = 64 - m) ∧ Hid (hexD u = hexD U ++ low) ∧ Hid (Upd [] w wr)) (fun v1 _ _ => (intOf v1).toNat)
  case atStart =>
    exact ⟨64, u, Tryd.zeroCells112, [], by omega, by omega, hu, Lib.hid (by omega), rfl, rfl, Lib.hid (Blk.new _ _ _), Lib.hid (by kernel_rfl), Lib.hid (by kernel_rfl), Lib.hid rfl, Lib.hid (by simp), Lib.hid ((Upd.refl _ _).alloc _)⟩
  case round =>
    obtain ⟨m, U, cs, low, hm1, hm2, hU, HK, rfl, rfl, HB, HS, HL, HLL, HH, HU⟩ := hrel
    have hcell := HB.out.cell m (cs[m]'(by have := HS.out; omega)) (by simp)
    have hfree := HB.out.free m
    have hbl := HB.out.lt
    have hi0 : (0 : Int) ≤ m := by omega
    have hi1 : (m : Int) < 65 := by omega
    by_cases hlt : U < 16
    · have hd : decide ((16 : Int) ≤ U) = false := decide_eq_false (by omega)
      have hb0 : (0 : Int) ≤ U := by omega
      have hb1 : (U : Int) < 36 := by omega
      have hdi := digit_is U hlt
      have hal : Tryd.prog.arrayLen 112 = 65 := by kernel_rfl
      have hsl : ∀ W, (Instr.sliceAt 112 (.pointer (some ⟨w.heap.size, 0, none⟩)) (some (.int .i64 m)) none none).run Tryd.prog W = .ok (.slice (some ⟨w.heap.size, m, none⟩) (65 - m) (65 - m)) W := fun W => by
        rw [run_sliceAt_array_l W 112 ⟨w.heap.size, 0, none⟩ Tryd.underlying112 .i64 (m : Int) (by omega) (by rw [hal]; omega)]
        have hne : ¬ (65 = m) := by omega
        simp only [hal, Int.toNat_natCast, slicedAt, if_neg hne, show (sizeOf (Tryd.prog.elem 112)).run Tryd.prog W = .ok 1 W from by kernel_rfl, Result.andThen, addr_add, Nat.mul_one, Nat.zero_add]
      have hcv : (convert 69 9 (.slice (some ⟨w.heap.size, m, none⟩) (65 - m) (65 - m))).run Tryd.prog (wr.setCell ⟨w.heap.size, m, none⟩ (.int .u8 (dgB U).toNat)) = .ok (.string ⟨(hexD u).toArray⟩) (wr.setCell ⟨w.heap.size, m, none⟩ (.int .u8 (dgB U).toNat)) := by
        have hlen : (hexD u).length = 65 - m := by
          rw [HH.out, hexD_small hlt]; simp [HLL.out]; omega
        have := run_convert_bytes_back (P := Tryd.prog) (wr.setCell ⟨w.heap.size, m, none⟩ (.int .u8 (dgB U).toNat)) 69 9 5 ⟨w.heap.size, m, none⟩ (65 - m) (hexD u) Tryd.underlying69 Tryd.underlying5 Tryd.underlying9 (fun j hj => by
          rw [addr_add]
          have hn : hexD u = dgB U :: low := by rw [HH.out, hexD_small hlt]; rfl
          exact cells_of (HB.out.set m (.int .u8 (dgB U).toNat)) (by rw [hn]; exact digit_more _ (by have := HS.out; omega) HL.out) j hj)
        rw [hlen] at this
        exact this
      have HFIN := Lib.hid (HU.out.setNew (p := ⟨w.heap.size, m, none⟩) (Nat.le_refl _) (.int .u8 (dgB U).toNat))
      clear hal
      go_wp2_with fail
      go_ret2
      exact ⟨rfl, HFIN.out⟩
    · have hk2 : 49 ≤ m - 1 := by
        have := HK.out
        apply Nat.le_of_not_lt; intro hc
        obtain rfl : m = 49 := by omega
        have h2 : 16 * 16 ^ 15 ≤ U * 16 ^ 15 := Nat.mul_le_mul_right _ (by omega)
        omega
      have hd : decide ((16 : Int) ≤ U) = true := decide_eq_true (by omega)
      have hm := u64_and_nat U 15 hU (by omega)
      rw [nat_mask4, show ((15 : Nat) : Int) = 15 from rfl] at hm
      have hr := Nat.mod_lt U (show 0 < 16 by omega)
      have HG := Lib.hid (hexD_great hlt)
      generalize U % 16 = r at *
      have hb0 : (0 : Int) ≤ r := by omega
      have hb1 : (r : Int) < 36 := by omega
      have hdi := digit_is r hr
      have HR := Lib.hid hr
      clear hr
      go_wp2_with fail
      go_roundw
      case rel =>
        have hkk := HK.out
        have e : 16 ^ (64 - (m - 1)) = 16 * 16 ^ (64 - m) := by rw [show 64 - (m - 1) = (64 - m) + 1 by omega, Nat.pow_succ, Nat.mul_comm]
        exact ⟨m - 1, U / 16, _, dgB r :: low, hk2, by omega, by omega, Lib.hid (by rw [e]; calc U / 16 * (16 * 16 ^ (64 - m)) = (U / 16 * 16) * 16 ^ (64 - m) := by rw [Nat.mul_assoc]
                                                                      _ ≤ U * 16 ^ (64 - m) := Nat.mul_le_mul_right _ (by omega)
                                                                      _ ≤ u := hkk), congrArg (Value.int .u64) (by omega), congrArg (Value.int .i64) (by omega),
          Lib.hid (HB.out.set m _), Lib.hid (by simpa using HS.out), Lib.hid (by rw [show m - 1 + 1 = m by omega]; exact digit_more _ (by have := HS.out; omega) HL.out), Lib.hid (by simp [HLL.out]; omega),
          Lib.hid (by rw [HH.out, HG.out]; simp), Lib.hid (HU.out.setNew (Nat.le_refl _) _)⟩
      case measure => simp [intOf]; omega
end Go.Proofs.YtcjellbnildpfaaDoor
