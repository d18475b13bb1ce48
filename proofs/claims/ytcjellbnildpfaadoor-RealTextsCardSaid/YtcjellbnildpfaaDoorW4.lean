/-
  The reference's number of every string. Condition: the string is no longer than memory.
-/
import Derived.Test.YtcjellbnildpfaaDoorW3
namespace Go.Proofs.YtcjellbnildpfaaDoor
open Go.RowKit

/-- what number answers -/
def nvA (o : Option Int) : Value := match o with | some n => .tuple #[.int .i64 n, .bool true] | none => .tuple #[.int .i64 0, .bool false]

theorem byte_at (s : ByteArray) (k : Nat) (h : k < s.size) : ∃ c : UInt8, s[k]'h = c ∧ s.data.toList[k]? = some c := by
  refine ⟨_, rfl, ?_⟩
  rw [List.getElem?_eq_getElem (by rw [Array.length_toList]; exact h)]
  rfl

theorem dec_round {acc k : Nat} {l : List UInt8} {c : UInt8} (h : l[k]? = some c) : decV acc (l.drop k) = if 48 ≤ c.toNat ∧ c.toNat ≤ 57 then decV (acc * 10 + (c.toNat - 48)) (l.drop (k + 1)) else none := by
  obtain ⟨hk, e⟩ := List.getElem?_eq_some_iff.1 h
  rw [decV_take hk, e]

set_option maxRecDepth 100000 in
set_option maxHeartbeats 4000000 in
theorem rnumber_any (s : ByteArray) (w : World) (hs : s.size ≤ 140737488355328) :
    Calls Tryd.prog 23 #[.string s] w fun e w' => e = .returned (nvA (nvR s.data.toList)) ∧ w = w' := by
  have hlen : s.data.toList.length = s.size := by rw [Array.length_toList]; rfl
  by_cases h0 : s.size = 0
  · have hn : nvR s.data.toList = none := by
      have : s.data.toList = [] := List.eq_nil_of_length_eq_zero (hlen.trans h0)
      rw [this]; rfl
    rw [hn]
    have g1 : decide ((0 : Int) < (s.size : Int)) = false := decide_eq_false (by omega)
    have g2 : ((s.size : Int) == 0) = true := by rw [beq_iff_eq]; omega
    clear hn
    go_enter Tryd.func23, Tryd.ntmps23
    go_wp2_with fail
    go_ret2
    exact ⟨rfl, rfl⟩
  · have h0' : 0 < s.size := by omega
    obtain ⟨c0, hc0, hl0⟩ := byte_at s 0 h0'
    have g1 : decide ((0 : Int) < (s.size : Int)) = true := decide_eq_true (by omega)
    have hhead : s.data.toList.head? = some c0 := by rw [List.head?_eq_getElem?, hl0]
    by_cases hneg : c0 = 45
    · have g3 : ((c0.toNat : Int) == 45) = true := by rw [hneg]; rfl
      have hR : nvR s.data.toList = if s.data.toList.length = 1 ∨ 6 < s.data.toList.length then none else (decV 0 (s.data.toList.drop 1)).map (fun n : Nat => -(n : Int)) := by
        unfold nvR
        rw [if_pos (by rw [hhead, hneg])]
      rw [hlen] at hR
      by_cases hz : s.size = 1
      · rw [if_pos (.inl hz)] at hR
        rw [hR]
        have g2 : ((s.size : Int) == 1) = true := by rw [beq_iff_eq]; omega
        clear hR
        go_enter Tryd.func23, Tryd.ntmps23
        go_wp2_with fail
        go_ret2
        exact ⟨rfl, rfl⟩
      · have g2 : ((s.size : Int) == 1) = false := by rw [beq_eq_false_iff_ne]; omega
        by_cases h6 : 6 < s.size
        · rw [if_pos (.inr h6)] at hR
          rw [hR]
          have g4 : decide ((6 : Int) < (s.size : Int)) = true := decide_eq_true (by omega)
          clear hR
          go_enter Tryd.func23, Tryd.ntmps23
          go_wp2_with fail
          go_ret2
          exact ⟨rfl, rfl⟩
        · have g4 : decide ((6 : Int) < (s.size : Int)) = false := decide_eq_false (by omega)
          rw [if_neg (by omega)] at hR
          rw [hR]
          have HL := Lib.hid hlen
          clear hR hlen
          obtain ⟨D, hD⟩ : ∃ D, D = decV 0 (s.data.toList.drop 1) := ⟨_, rfl⟩
          have HV0 := Lib.hid hD
          rw [← hD]
          clear hD
          go_enter Tryd.func23, Tryd.ntmps23
          go_wp2_with fail
          go_loop [4, 6] (fun vn vi => ∃ (k acc : Nat), k ≤ s.size ∧ vn = .int .i64 acc ∧ vi = .int .i64 k ∧ Hid (acc < 10 ^ k) ∧ Hid (D = decV acc (s.data.toList.drop k))) (fun _ vi => s.size - (intOf vi).toNat)
          case atStart => exact ⟨1, 0, by omega, rfl, rfl, Lib.hid (by decide), HV0⟩
          case round =>
            obtain ⟨k, acc, hk, rfl, rfl, HA, HV⟩ := hrel
            have ha : acc < 10000000 := by
              have h1 := HA.out
              have h2 : 10 ^ k ≤ 10 ^ 6 := Nat.pow_le_pow_right (by omega) (by omega)
              omega
            by_cases hlt : k < s.size
            · have b1 : decide ((k : Int) < (s.size : Int)) = true := decide_eq_true (by omega)
              obtain ⟨c, hc, hlc⟩ := byte_at s k hlt
              have HST := Lib.hid (dec_round (acc := acc) hlc)
              have hc256 : c.toNat < 256 := c.toNat_lt
              clear hlc
              by_cases d1 : 48 ≤ c.toNat
              · have e1 : decide ((c.toNat : Int) < 48) = false := decide_eq_false (by omega)
                by_cases d2 : c.toNat ≤ 57
                · have e2 : decide ((57 : Int) < (c.toNat : Int)) = false := decide_eq_false (by omega)
                  go_wp2_with fail
                  go_round
                  case rel =>
                    have hst := HST.out
                    rw [if_pos ⟨d1, d2⟩] at hst
                    exact ⟨k + 1, acc * 10 + (c.toNat - 48), by omega, congrArg (Value.int .i64) (by omega), congrArg (Value.int .i64) (by omega), Lib.hid (by have := HA.out; rw [Nat.pow_succ]; omega), Lib.hid (HV.out.trans hst)⟩
                  case measure => simp [intOf]; omega
                · have e2 : decide ((57 : Int) < (c.toNat : Int)) = true := decide_eq_true (by omega)
                  have hst := HST.out
                  rw [if_neg (by omega)] at hst
                  have HN := Lib.hid (HV.out.trans hst)
                  clear hst HST
                  go_wp2_with fail
                  go_ret2
                  rw [HN.out]
                  exact ⟨rfl, rfl⟩
              · have e1 : decide ((c.toNat : Int) < 48) = true := decide_eq_true (by omega)
                have hst := HST.out
                rw [if_neg (by omega)] at hst
                have HN := Lib.hid (HV.out.trans hst)
                clear hst HST
                go_wp2_with fail
                go_ret2
                rw [HN.out]
                exact ⟨rfl, rfl⟩
            · have b1 : decide ((k : Int) < (s.size : Int)) = false := decide_eq_false (by omega)
              have hv := HV.out
              rw [List.drop_eq_nil_of_le (by rw [HL.out]; omega)] at hv
              have HN := Lib.hid (hv.trans (show decV acc [] = some acc from rfl))
              clear hv
              go_wp2_with fail
              go_ret2
              rw [HN.out]
              exact ⟨rfl, rfl⟩
    · have g3 : ((c0.toNat : Int) == 45) = false := by
        rw [beq_eq_false_iff_ne]
        intro q
        apply hneg
        apply UInt8.toNat.inj
        show c0.toNat = 45
        omega
      have hR : nvR s.data.toList = if s.data.toList.length = 0 ∨ 6 < s.data.toList.length then none else (decV 0 s.data.toList).map (fun n : Nat => (n : Int)) := by
        unfold nvR
        rw [if_neg (by rw [hhead]; simpa using hneg)]
      rw [hlen] at hR
      by_cases hz : s.size = 0
      · rw [if_pos (.inl hz)] at hR
        rw [hR]
        have g2 : ((s.size : Int) == 0) = true := by rw [beq_iff_eq]; omega
        clear hR
        go_enter Tryd.func23, Tryd.ntmps23
        go_wp2_with fail
        go_ret2
        exact ⟨rfl, rfl⟩
      · have g2 : ((s.size : Int) == 0) = false := by rw [beq_eq_false_iff_ne]; omega
        by_cases h6 : 6 < s.size
        · rw [if_pos (.inr h6)] at hR
          rw [hR]
          have g4 : decide ((6 : Int) < (s.size : Int)) = true := decide_eq_true (by omega)
          clear hR
          go_enter Tryd.func23, Tryd.ntmps23
          go_wp2_with fail
          go_ret2
          exact ⟨rfl, rfl⟩
        · have g4 : decide ((6 : Int) < (s.size : Int)) = false := decide_eq_false (by omega)
          rw [if_neg (by omega)] at hR
          rw [hR]
          have HL := Lib.hid hlen
          clear hR hlen
          obtain ⟨D, hD⟩ : ∃ D, D = decV 0 s.data.toList := ⟨_, rfl⟩
          have HV0 := Lib.hid hD
          rw [← hD]
          clear hD
          go_enter Tryd.func23, Tryd.ntmps23
          go_wp2_with fail
          go_loop [4, 6] (fun vn vi => ∃ (k acc : Nat), k ≤ s.size ∧ vn = .int .i64 acc ∧ vi = .int .i64 k ∧ Hid (acc < 10 ^ k) ∧ Hid (D = decV acc (s.data.toList.drop k))) (fun _ vi => s.size - (intOf vi).toNat)
          case atStart => exact ⟨0, 0, by omega, rfl, rfl, Lib.hid (by decide), HV0⟩
          case round =>
            obtain ⟨k, acc, hk, rfl, rfl, HA, HV⟩ := hrel
            have ha : acc < 10000000 := by
              have h1 := HA.out
              have h2 : 10 ^ k ≤ 10 ^ 6 := Nat.pow_le_pow_right (by omega) (by omega)
              omega
            by_cases hlt : k < s.size
            · have b1 : decide ((k : Int) < (s.size : Int)) = true := decide_eq_true (by omega)
              obtain ⟨c, hc, hlc⟩ := byte_at s k hlt
              have HST := Lib.hid (dec_round (acc := acc) hlc)
              have hc256 : c.toNat < 256 := c.toNat_lt
              clear hlc
              by_cases d1 : 48 ≤ c.toNat
              · have e1 : decide ((c.toNat : Int) < 48) = false := decide_eq_false (by omega)
                by_cases d2 : c.toNat ≤ 57
                · have e2 : decide ((57 : Int) < (c.toNat : Int)) = false := decide_eq_false (by omega)
                  go_wp2_with fail
                  go_round
                  case rel =>
                    have hst := HST.out
                    rw [if_pos ⟨d1, d2⟩] at hst
                    exact ⟨k + 1, acc * 10 + (c.toNat - 48), by omega, congrArg (Value.int .i64) (by omega), congrArg (Value.int .i64) (by omega), Lib.hid (by have := HA.out; rw [Nat.pow_succ]; omega), Lib.hid (HV.out.trans hst)⟩
                  case measure => simp [intOf]; omega
                · have e2 : decide ((57 : Int) < (c.toNat : Int)) = true := decide_eq_true (by omega)
                  have hst := HST.out
                  rw [if_neg (by omega)] at hst
                  have HN := Lib.hid (HV.out.trans hst)
                  clear hst HST
                  go_wp2_with fail
                  go_ret2
                  rw [HN.out]
                  exact ⟨rfl, rfl⟩
              · have e1 : decide ((c.toNat : Int) < 48) = true := decide_eq_true (by omega)
                have hst := HST.out
                rw [if_neg (by omega)] at hst
                have HN := Lib.hid (HV.out.trans hst)
                clear hst HST
                go_wp2_with fail
                go_ret2
                rw [HN.out]
                exact ⟨rfl, rfl⟩
            · have b1 : decide ((k : Int) < (s.size : Int)) = false := decide_eq_false (by omega)
              have hv := HV.out
              rw [List.drop_eq_nil_of_le (by rw [HL.out]; omega)] at hv
              have HN := Lib.hid (hv.trans (show decV acc [] = some acc from rfl))
              clear hv
              go_wp2_with fail
              go_ret2
              rw [HN.out]
              exact ⟨rfl, rfl⟩
end Go.Proofs.YtcjellbnildpfaaDoor
