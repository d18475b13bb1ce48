/-
  The library's ParseUint at base 16: what it answers. Conditions: the text has 1 to 15 bytes.
-/
import Derived.Test.YtcjellbnildpfaaDoorA1
import Derived.Shelf.Strconv.Atoi
namespace Go.Proofs.YtcjellbnildpfaaDoor
open Go.RowKit

/-- FormatUint, both doors -/
theorem fmtIn (u : Nat) (w : World) (h : Tab w) (h6 : 6 < w.heap.size) (hu : u < 18446744073709551616) :
    Calls Tryd.prog 39 #[.int .u64 u, .int .i64 16] w fun e w' => e = .returned (.string ⟨(hexD u).toArray⟩) ∧ Upd [] w w' := by
  have HF := Lib.hid (fmtBits u w h h6 hu)
  clear h
  generalize (hexD u).toArray = H at *
  go_enter Tryd.func39, Tryd.ntmps39
  go_wp2_with fail
  refine HF.out.mono ?_
  rintro e w1 ⟨rfl, hu1⟩
  have HU := Lib.hid hu1
  clear hu1
  go_wp2_with fail
  go_ret
  exact ⟨rfl, HU.out⟩
theorem fmtHex (u : Nat) (w : World) (h : Tab w) (h6 : 6 < w.heap.size) (hu : u < 18446744073709551616) :
    Calls Tryd.prog 25 #[.int .u64 u, .int .i64 16] w fun e w' => e = .returned (.string ⟨(hexD u).toArray⟩) ∧ Upd [] w w' := by
  have HF := Lib.hid (fmtIn u w h h6 hu)
  clear h
  generalize (hexD u).toArray = H at *
  go_enter Tryd.func25, Tryd.ntmps25
  go_wp2_with fail
  refine HF.out.mono ?_
  rintro e w1 ⟨rfl, hu1⟩
  have HU := Lib.hid hu1
  clear hu1
  go_wp2_with fail
  go_ret
  exact ⟨rfl, HU.out⟩

theorem lower_any (c lo : Nat) (w : World) (h : bits .or .u8 (c : Int) 32 = (lo : Int)) : Calls Tryd.prog 78 #[.int .u8 c] w fun e w' => e = .returned (.int .u8 lo) ∧ w = w' := by
  have H := Lib.hid h
  clear h
  go_enter Tryd.func78, Tryd.ntmps78
  go_wp2_with fail
  go_ret
  exact ⟨congrArg (fun v => Ending.returned (.int .u8 v)) H.out, rfl⟩

/-- a letter, as a digit at base 16 -/
def hxN (c lo : Nat) : Option Nat :=
  if 48 ≤ c ∧ c ≤ 57 then some (c - 48) else if 97 ≤ lo ∧ lo ≤ 102 then some (lo - 87) else none
def hx (c : UInt8) : Option Nat := hxN c.toNat (c.toNat ||| 32)
/-- letters, as a number at base 16 -/
def hexV (acc : Nat) : List UInt8 → Option Nat
  | [] => some acc
  | c :: r => match hx c with | some d => hexV (acc * 16 + d) r | none => none

/-- what ParseUint answers -/
def puA (o : Option Nat) : Value := match o with | some v => .tuple #[.int .u64 v, .nilIface] | none => .tuple #[.int .u64 0, .iface 101 (.int .i64 2)]

theorem bytes_upd (w : World) (s : ByteArray) : Upd [] w (Lib.bytesWorld w 5 s) :=
  ⟨rfl, rfl, rfl, by rw [Lib.bytesWorld_size]; omega, fun k hk _ => Lib.bytesWorld_at_old w 5 s k hk⟩

theorem hexV_take {acc : Nat} {l : List UInt8} {k : Nat} (hk : k < l.length) : hexV acc (l.drop k) = match hx (l[k]) with | some d => hexV (acc * 16 + d) (l.drop (k + 1)) | none => none := by
  rw [List.drop_eq_getElem_cons hk, hexV]

set_option maxRecDepth 100000 in
set_option maxHeartbeats 4000000 in
theorem parseIn (s : ByteArray) (w : World) (h0 : 0 < s.size) (h1 : s.size ≤ 15) :
    Calls Tryd.prog 58 #[.string s, .int .i64 16, .int .i64 64] w fun e w' => e = .returned (puA (hexV 0 s.data.toList)) ∧ Upd [] w w' := by
  have hcv := Lib.run_convert_string_bytes (P := Tryd.prog) w 9 69 5 s (u := .string) Tryd.underlying9 Tryd.underlying69 Tryd.underlying5
  have hB : ∀ j, j < s.size → (Lib.bytesWorld w 5 s).cell? ⟨w.heap.size, j, none⟩ = some (.int .u8 (s.data.toList.getD j 0).toNat) := fun j hj => Lib.bytesWorld_cell w 5 s j hj
  have hBelow := bytes_upd w s
  have hlw : w.heap.size < (Lib.bytesWorld w 5 s).heap.size := by rw [Lib.bytesWorld_size]; omega
  obtain ⟨W1, hW1⟩ : ∃ W1, W1 = Lib.bytesWorld w 5 s := ⟨_, rfl⟩
  rw [← hW1] at hcv hB hBelow hlw
  have HB := Lib.hid hB
  have HU := Lib.hid hBelow
  have hsl : s.data.toList.length = s.size := by rw [Array.length_toList]; rfl
  have hne : s.toList.isEmpty = false := by
    rw [ByteArray.toList_eq]
    cases hq : s.data.toList with
    | nil => rw [hq] at hsl; simp at hsl; omega
    | cons => rfl
  have HSL := Lib.hid hsl
  have hmx : IntKind.u64.wrap (IntKind.u64.wrap 18446744073709551616 - 1) = 18446744073709551615 := by decide +kernel
  clear hW1 hB hBelow hsl
  go_enter Tryd.func58, Tryd.ntmps58
  go_wp2_with fail
  clear hcv hmx
  go_loop [12, 101, 13] (fun vu vi vn => ∃ (k acc : Nat), k ≤ s.size ∧ acc < 18446744073709551616 ∧ vu = .bool false ∧ vi = .int .i64 k ∧ vn = .int .u64 acc ∧ Hid (acc < 16 ^ k) ∧ Hid (hexV 0 s.data.toList = hexV acc (s.data.toList.drop k))) (fun _ vi _ => s.size - (intOf vi).toNat)
  case atStart => exact ⟨0, 0, Nat.zero_le _, by omega, rfl, rfl, rfl, Lib.hid (by omega), Lib.hid rfl⟩
  case round =>
    obtain ⟨k, acc, hk, hacc, rfl, rfl, rfl, HA, HV⟩ := hrel
    by_cases hlt : k < s.size
    · have hc := HB.out k hlt
      have hstep := hexV_take (acc := acc) (l := s.data.toList) (k := k) (by rw [HSL.out]; exact hlt)
      have hg : s.data.toList.getD k 0 = s.data.toList[k]'(by rw [HSL.out]; exact hlt) := by simp [List.getD, HSL.out, hlt]
      rw [hg] at hc
      have HST := Lib.hid hstep
      clear hg hstep
      generalize s.data.toList[k]'(by rw [HSL.out]; exact hlt) = c at *
      have hc256 : c.toNat < 256 := c.toNat_lt
      have hcut : acc < 1152921504606846976 := by
        have := HA.out
        have h2 : 16 ^ k ≤ 16 ^ 15 := Nat.pow_le_pow_right (by omega) (by omega)
        omega
      have hlo := u8_or_nat c.toNat 32 hc256 (by omega)
      rw [show ((32 : Nat) : Int) = 32 from rfl] at hlo
      have hlo8 : c.toNat ||| 32 < 256 := Nat.or_lt_two_pow (n := 8) hc256 (by omega)
      have HLW := Lib.hid (fun w => lower_any c.toNat (c.toNat ||| 32) w hlo)
      have HX := Lib.hid (show hx c = hxN c.toNat (c.toNat ||| 32) from rfl)
      clear hlo
      have H95 := Lib.hid (show c.toNat = 95 → c.toNat ||| 32 = 127 from fun h => by rw [h]; rfl)
      generalize c.toNat ||| 32 = lo at *
      generalize c.toNat = cn at *
      by_cases hA : 48 ≤ cn ∧ cn ≤ 57
      · have hx1 : hx c = some (cn - 48) := by rw [HX.out]; exact if_pos hA
        have hst := HST.out
        rw [hx1] at hst
        simp only at hst
        have HS2 := Lib.hid hst
        obtain ⟨a1, a2⟩ := hA
        clear hst hx1
        have g1 : ((cn : Int) == 95) = false := by simp; omega
        have g2 : decide ((1152921504606846976 : Int) ≤ acc) = false := decide_eq_false (by omega)
        have g3 : decide ((18446744073709551615 : Int) < (acc : Int) * 16 + ((cn : Int) - 48)) = false := decide_eq_false (by omega)
        have g4 : acc * 16 + 15 < 18446744073709551616 := by omega
        clear hcut hacc
        go_wp2_with (refine (HLW.out _).mono ?_; rintro e w' ⟨rfl, rfl⟩)
        go_round
        case rel => exact ⟨k + 1, acc * 16 + (cn - 48), by omega, by omega, rfl, by go_num, congrArg (Value.int .u64) (by omega), Lib.hid (by have := HA.out; rw [Nat.pow_succ]; omega), Lib.hid (HV.out.trans HS2.out)⟩
        case measure => simp [intOf]; omega
      · by_cases hB2 : 97 ≤ lo ∧ lo ≤ 102
        · have hx1 : hx c = some (lo - 87) := by rw [HX.out]; unfold hxN; rw [if_neg hA, if_pos hB2]
          have hst := HST.out
          rw [hx1] at hst
          simp only at hst
          have HS2 := Lib.hid hst
          obtain ⟨a1, a2⟩ := hB2
          clear hst hx1
          have g1 : ((cn : Int) == 95) = false := by
            have := H95.out
            simp; omega
          rcases (show cn < 48 ∨ 57 < cn by omega) with hA1 | hA1
          all_goals
            clear hA
            have g2 : decide ((1152921504606846976 : Int) ≤ acc) = false := decide_eq_false (by omega)
            have g3 : decide ((18446744073709551615 : Int) < (acc : Int) * 16 + ((lo : Int) - 97 + 10)) = false := decide_eq_false (by omega)
            have g4 : acc * 16 + 15 < 18446744073709551616 := by omega
            clear hcut hacc
            go_wp2_with (refine (HLW.out _).mono ?_; rintro e w' ⟨rfl, rfl⟩)
            go_round
            case rel => exact ⟨k + 1, acc * 16 + (lo - 87), by omega, by omega, rfl, by go_num, congrArg (Value.int .u64) (by omega), Lib.hid (by have := HA.out; rw [Nat.pow_succ]; omega), Lib.hid (HV.out.trans HS2.out)⟩
            case measure => simp [intOf]; omega
        · have HF := Lib.hid (show hexV 0 s.data.toList = none by
            rw [HV.out, HST.out, HX.out]; unfold hxN; rw [if_neg hA, if_neg hB2])
          have HN := Lib.hid hB2
          have HNA := Lib.hid hA
          clear hcut hacc hB2
          rcases (show cn < 48 ∨ 57 < cn by omega) with hA1 | hA1
          all_goals
            clear hA
            by_cases q95 : cn = 95
            · have hl := H95.out q95
              have g1 : ((cn : Int) == 95) = true := by simp; omega
              clear q95
              go_wp2_with (refine (HLW.out _).mono ?_; rintro e w' ⟨rfl, rfl⟩)
              all_goals first
                | (go_ret2; exact ⟨by rw [HF.out]; rfl, HU.out⟩)
                | (exfalso; omega)
            · have g1 : ((cn : Int) == 95) = false := by simp; omega
              clear q95
              by_cases q1 : 97 ≤ lo
              · by_cases q2 : lo ≤ 122
                · have q3 : 103 ≤ lo := by have := HN.out; omega
                  go_wp2_with (refine (HLW.out _).mono ?_; rintro e w' ⟨rfl, rfl⟩)
                  all_goals first
                    | (go_ret2; exact ⟨by rw [HF.out]; rfl, HU.out⟩)
                    | (exfalso; omega)
                · go_wp2_with (refine (HLW.out _).mono ?_; rintro e w' ⟨rfl, rfl⟩)
                  all_goals first
                    | (go_ret2; exact ⟨by rw [HF.out]; rfl, HU.out⟩)
                    | (exfalso; omega)
              · go_wp2_with (refine (HLW.out _).mono ?_; rintro e w' ⟨rfl, rfl⟩)
                all_goals first
                  | (go_ret2; exact ⟨by rw [HF.out]; rfl, HU.out⟩)
                  | (exfalso; omega)
    · have hfin : hexV 0 s.data.toList = some acc := by
        rw [HV.out, List.drop_eq_nil_of_le (by rw [HSL.out]; omega)]; rfl
      have HF := Lib.hid hfin
      clear hfin hacc
      go_wp2_with fail
      go_ret2
      exact ⟨by rw [HF.out]; rfl, HU.out⟩
end Go.Proofs.YtcjellbnildpfaaDoor
