/-
  The reference's root, of any word: what it answers. Conditions: the word is of 64 bits.
-/
import Derived.Test.YtcioiilepjjfkaaR8
namespace Go.Proofs.Ytcioiilepjjfkaa
open Go.RowKit
attribute [local go_sem] call19 call20

theorem dbl_pow {m a k : Nat} (h : m = a * 2 ^ k) : 2 * m = a * 2 ^ (k + 1) := by
  rw [h, Nat.pow_succ, Nat.mul_left_comm, Nat.mul_comm 2]

set_option maxRecDepth 100000 in
set_option maxHeartbeats 2000000 in
theorem root_sub (a : Nat) (w : World) (h : W64 a) (hn : FP.isNaN a = false) (hz : decide (FP.rung a = 0) = false) (hi : ((a : Int) == 9218868437227405312) = false) (hs : decide ((9223372036854775808 : Int) ≤ a) = false)
    (hE : (a : Int) / 4503599627370496 = 0) (hf : bits .and .u64 (a : Int) 4503599627370495 = a) (ha0 : 0 < a) (hff : a < 4503599627370496)
    (hread : Ieee.double.read a = .number false a (-1074 + ((0 : Nat) : Int))) :
    Calls Try.prog 25 #[.int .u64 a] w fun e w' => e = .returned (.int .u64 (canon (Ieee.double.sqrt a))) ∧ w = w' := by
  have Ha := Lib.hid (fun w => rnan_any a w h)
  have Hz := Lib.hid (fun w => rzero_any a w h)
  rw [hn] at Ha
  rw [hz] at Hz
  have hQ : ∀ k m q mm : Nat, k ≤ 52 → m = a * 2 ^ k → 4503599627370496 ≤ m → m < 9007199254740992 → mm = mmOf ((1 : Int) - k - 1023) m → q * q ≤ mm * 18014398509481984 → mm * 18014398509481984 < (q + 1) * (q + 1) →
      canon (Ieee.double.sqrt a) = ((q + q % 2) / 2 : Nat) + (((1 : Int) - k - 1023) / 2 + 1022) * 4503599627370496 := fun k m q mm hk hm b1 b2 h1 h2 h3 =>
    @sqrt_parts a mm q k ((1 : Int) - k - 1023) a 0 hread (by omega) (by omega) ⟨by omega, by omega⟩ (by omega) (by rw [h1, hm]) (by omega) hk h2 h3
  generalize canon (Ieee.double.sqrt a) = v at *
  have HQ0 := Lib.hid hQ
  clear h hn hz hQ hread
  go_enter Try.func25, Try.ntmps25
  go_wp2_with (first | ((with_reducible refine (Ha.out _).mono ?_); rintro e w' ⟨rfl, rfl⟩) | ((with_reducible refine (Hz.out _).mono ?_); rintro e w' ⟨rfl, rfl⟩))
  clear hE hf hi hs
  go_loop [3, 4] (fun v3 v4 => ∃ k m : Nat, k ≤ 52 ∧ Hid (m = a * 2 ^ k) ∧ 0 < m ∧ m < 9007199254740992 ∧ v3 = .int .i64 (1 - (k : Int)) ∧ v4 = .int .u64 m) (fun _ m => 9007199254740992 - (intOf m).toNat)
  case atStart => exact ⟨0, a, by omega, Lib.hid (by omega), by omega, by omega, rfl, rfl⟩
  case round =>
    obtain ⟨k, m0, hk, HMk, hm0, hb1, rfl, rfl⟩ := hrel
    by_cases hlt : m0 < 4503599627370496
    · have hk2 : k + 1 ≤ 52 := by
        apply Nat.lt_of_not_le; intro hc
        have h1 : 2 ^ 52 ≤ 2 ^ k := Nat.pow_le_pow_right (by omega) hc
        have h2 : 1 * 2 ^ k ≤ a * 2 ^ k := Nat.mul_le_mul_right _ ha0
        have := HMk.out
        omega
      have hmk := HMk.out
      have hms : 2 * m0 = a * 2 ^ (k + 1) := dbl_pow hmk
      have HMS := Lib.hid hms
      have hd : decide ((m0 : Int) < 4503599627370496) = true := decide_eq_true (by omega)
      have HLT := Lib.hid hlt
      clear hms hmk HMk hlt
      go_wp2
      go_round
      case rel =>
        have hlt := HLT.out
        exact ⟨k + 1, 2 * m0, hk2, HMS, by omega, by omega, congrArg (Value.int .i64) (by omega), congrArg (Value.int .u64) (by omega)⟩
      case measure =>
        have hlt := HLT.out
        simp [intOf]; omega
    · have HQ := Lib.hid (fun q mm h1 => HQ0.out k m0 q mm hk HMk.out (by omega) hb1 h1)
      have hob : (bits BinOp.and IntKind.i64 ((1 : Int) - k - 1023) 1 != 0) = decide (¬ ((1 : Int) - k - 1023) % 2 = 0) := by
        rw [and_one, Bool.eq_iff_iff]; simp
      have hd : decide ((m0 : Int) < 4503599627370496) = false := decide_eq_false (by omega)
      clear HQ0 HMk hlt
      by_cases hpar : ((1 : Int) - k - 1023) % 2 = 0
      · rw [decide_eq_false (fun q => q hpar)] at hob
        have hmm : m0 = mmOf ((1 : Int) - k - 1023) m0 := by unfold mmOf; rw [if_pos hpar]
        have HM := Lib.hid hmm
        have HP := Lib.hid hpar
        clear hmm hpar
        go_wp2
        clear hob hd
        have HS := Lib.hid (RInv.start (M := (2 * m0)) (by omega))
        go_loop [4, 5, 6, 7] (fun v4 v5 v6 v7 => ∃ q m p r s : Nat, Hid (RInv ((2 * m0) * 9007199254740992) q m p) ∧ Hid (Pw p) ∧ Hid (r = p / 2) ∧ Hid (s = 2 * q) ∧ m < 288230376151711744 ∧ q ≤ 18014398509481984 ∧ s ≤ 36028797018963968 ∧ r ≤ 9007199254740992 ∧ v4 = .int .u64 m ∧ v5 = .int .u64 q ∧ v6 = .int .u64 s ∧ v7 = .int .u64 r) (fun _ _ _ r => (intOf r).toNat)
        case atStart => exact ⟨0, (2 * m0), 18014398509481984, 9007199254740992, 0, HS, Lib.hid Pw.start, Lib.hid rfl, Lib.hid rfl, by omega, by omega, by omega, by omega, congrArg (Value.int .u64) (by omega), rfl, rfl, rfl⟩
        case round =>
          obtain ⟨q, m, p, r, s, HI, HPw, HR, HSq, hm, hq, hs', hr', rfl, rfl, rfl, rfl⟩ := hrel
          by_cases hp1 : p = 1
          · have hr0 : ((r : Int) != 0) = false := by have := HR.out; subst hp1; simp; omega
            have hi1 := HI.out
            rw [hp1] at hi1
            obtain ⟨l1, l2, l3⟩ := hi1.last
            have hfin := HQ.out q (m0) HM.out l1 l2
            have hqq := and_one_u q (by omega)
            have hq2 : q % 2 ≤ 1 := by omega
            have HF := Lib.hid hfin
            have HL := Lib.hid l3
            clear hfin l1 l2 l3 hi1 hp1 HR HSq HPw HI HM
            by_cases hmz : m = 0
            · have hm1 : ((m : Int) != 0) = false := by simp; omega
              have HL2 := Lib.hid (HL.out hmz)
              clear HL hmz
              go_wp2
              go_ret
              exact ⟨congrArg (fun v => Ending.returned (.int .u64 v)) (by rw [HF.out]; have := HL2.out; omega), rfl⟩
            · have hm1 : ((m : Int) != 0) = true := by simp; omega
              clear HL hmz
              go_wp2
              go_ret
              exact ⟨congrArg (fun v => Ending.returned (.int .u64 v)) (by rw [HF.out]; omega), rfl⟩
          · obtain ⟨r', hp2, hr1, hPr, hr9⟩ := HPw.out.two hp1
            obtain rfl : r = r' := by have := HR.out; omega
            have hI := HI.out
            rw [hp2] at hI
            have hm57 := hI.le hr1
            have hne : ((r : Int) != 0) = true := by simp; omega
            by_cases ht : 2 * q + r ≤ m
            · have HI2 := Lib.hid (hI.take ht)
              have hd := HI2.out.d
              have ht' : s + r ≤ m := by have := HSq.out; omega
              have HPr := Lib.hid hPr
              clear hI hp1 hp2 HI HPw HR hPr ht
              go_wp2
              go_round
              case rel =>
                have hs2 := HSq.out
                exact ⟨q + r, 2 * (m - (2 * q + r)), r, r / 2, 2 * (q + r), HI2, HPr, Lib.hid rfl, Lib.hid rfl, by omega, by omega, by omega, by omega, congrArg (Value.int .u64) (by omega), congrArg (Value.int .u64) (by omega), congrArg (Value.int .u64) (by omega), congrArg (Value.int .u64) (by omega)⟩
              case measure => simp [intOf]; omega
            · have HI2 := Lib.hid (hI.skip hr1 (by omega))
              have hd := HI2.out.d
              have ht' : m < s + r := by have := HSq.out; omega
              have HPr := Lib.hid hPr
              clear hI hp1 hp2 HI HPw HR hPr ht
              go_wp2
              go_round
              case rel =>
                have hs2 := HSq.out
                exact ⟨q, 2 * m, r, r / 2, s, HI2, HPr, Lib.hid rfl, HSq, by omega, by omega, by omega, by omega, congrArg (Value.int .u64) (by omega), rfl, rfl, congrArg (Value.int .u64) (by omega)⟩
              case measure => simp [intOf]; omega
      · rw [decide_eq_true hpar] at hob
        have hmm : m0 * 2 = mmOf ((1 : Int) - k - 1023) m0 := by unfold mmOf; rw [if_neg hpar]
        have HM := Lib.hid hmm
        have HP := Lib.hid hpar
        clear hmm hpar
        go_wp2
        clear hob hd
        have HS := Lib.hid (RInv.start (M := (2 * (m0 * 2))) (by omega))
        go_loop [4, 5, 6, 7] (fun v4 v5 v6 v7 => ∃ q m p r s : Nat, Hid (RInv ((2 * (m0 * 2)) * 9007199254740992) q m p) ∧ Hid (Pw p) ∧ Hid (r = p / 2) ∧ Hid (s = 2 * q) ∧ m < 288230376151711744 ∧ q ≤ 18014398509481984 ∧ s ≤ 36028797018963968 ∧ r ≤ 9007199254740992 ∧ v4 = .int .u64 m ∧ v5 = .int .u64 q ∧ v6 = .int .u64 s ∧ v7 = .int .u64 r) (fun _ _ _ r => (intOf r).toNat)
        case atStart => exact ⟨0, (2 * (m0 * 2)), 18014398509481984, 9007199254740992, 0, HS, Lib.hid Pw.start, Lib.hid rfl, Lib.hid rfl, by omega, by omega, by omega, by omega, congrArg (Value.int .u64) (by omega), rfl, rfl, rfl⟩
        case round =>
          obtain ⟨q, m, p, r, s, HI, HPw, HR, HSq, hm, hq, hs', hr', rfl, rfl, rfl, rfl⟩ := hrel
          by_cases hp1 : p = 1
          · have hr0 : ((r : Int) != 0) = false := by have := HR.out; subst hp1; simp; omega
            have hi1 := HI.out
            rw [hp1] at hi1
            obtain ⟨l1, l2, l3⟩ := hi1.last
            have hfin := HQ.out q (m0 * 2) HM.out l1 l2
            have hqq := and_one_u q (by omega)
            have hq2 : q % 2 ≤ 1 := by omega
            have HF := Lib.hid hfin
            have HL := Lib.hid l3
            clear hfin l1 l2 l3 hi1 hp1 HR HSq HPw HI HM
            by_cases hmz : m = 0
            · have hm1 : ((m : Int) != 0) = false := by simp; omega
              have HL2 := Lib.hid (HL.out hmz)
              clear HL hmz
              go_wp2
              go_ret
              exact ⟨congrArg (fun v => Ending.returned (.int .u64 v)) (by rw [HF.out]; have := HL2.out; omega), rfl⟩
            · have hm1 : ((m : Int) != 0) = true := by simp; omega
              clear HL hmz
              go_wp2
              go_ret
              exact ⟨congrArg (fun v => Ending.returned (.int .u64 v)) (by rw [HF.out]; omega), rfl⟩
          · obtain ⟨r', hp2, hr1, hPr, hr9⟩ := HPw.out.two hp1
            obtain rfl : r = r' := by have := HR.out; omega
            have hI := HI.out
            rw [hp2] at hI
            have hm57 := hI.le hr1
            have hne : ((r : Int) != 0) = true := by simp; omega
            by_cases ht : 2 * q + r ≤ m
            · have HI2 := Lib.hid (hI.take ht)
              have hd := HI2.out.d
              have ht' : s + r ≤ m := by have := HSq.out; omega
              have HPr := Lib.hid hPr
              clear hI hp1 hp2 HI HPw HR hPr ht
              go_wp2
              go_round
              case rel =>
                have hs2 := HSq.out
                exact ⟨q + r, 2 * (m - (2 * q + r)), r, r / 2, 2 * (q + r), HI2, HPr, Lib.hid rfl, Lib.hid rfl, by omega, by omega, by omega, by omega, congrArg (Value.int .u64) (by omega), congrArg (Value.int .u64) (by omega), congrArg (Value.int .u64) (by omega), congrArg (Value.int .u64) (by omega)⟩
              case measure => simp [intOf]; omega
            · have HI2 := Lib.hid (hI.skip hr1 (by omega))
              have hd := HI2.out.d
              have ht' : m < s + r := by have := HSq.out; omega
              have HPr := Lib.hid hPr
              clear hI hp1 hp2 HI HPw HR hPr ht
              go_wp2
              go_round
              case rel =>
                have hs2 := HSq.out
                exact ⟨q, 2 * m, r, r / 2, s, HI2, HPr, Lib.hid rfl, HSq, by omega, by omega, by omega, by omega, congrArg (Value.int .u64) (by omega), rfl, rfl, congrArg (Value.int .u64) (by omega)⟩
              case measure => simp [intOf]; omega

theorem root_any (a : Nat) (w : World) (h : W64 a) :
    Calls Try.prog 25 #[.int .u64 a] w fun e w' => e = .returned (.int .u64 (canon (Ieee.double.sqrt a))) ∧ w = w' := by
  by_cases hn : FP.isNaN a = true
  · rw [FP.sqrt_nan h hn]
    exact root_nan a w h hn
  · rw [Bool.not_eq_true] at hn
    have hn' := hn
    unfold FP.isNaN at hn'
    simp only [decide_eq_false_iff_not] at hn'
    unfold W64 at h
    have hp := parts_of (a := a) h
    by_cases hz : FP.rung a = 0
    · rw [FP.sqrt_zero h hz]
      exact root_self a true _ w h hn (decide_eq_true hz) rfl rfl
    · by_cases hi : a = 9218868437227405312
      · subst hi
        rw [FP.sqrt_inf]
        exact root_self 9218868437227405312 _ true w h hn rfl (by decide) (by simp)
      · have hi' : ((a : Int) == 9218868437227405312) = false := by simp; omega
        by_cases hs : 9223372036854775808 ≤ a
        · have hneg : FP.neg a = true := decide_eq_true hs
          rw [FP.sqrt_neg h hneg hz]
          exact root_neg a w h hn (decide_eq_false hz) hi' (decide_eq_true (by omega))
        · have hneg : FP.neg a = false := decide_eq_false hs
          have hra : FP.rung a = a := by unfold FP.rung; omega
          rw [hra] at hn' hz
          have hread := FP.read_eq a h
          rw [hra, hneg] at hread
          by_cases hsub : a < 4503599627370496
          · rw [if_pos hsub] at hread
            refine root_sub a w h hn (decide_eq_false (by rw [hra]; exact hz)) hi' (decide_eq_false (by omega)) (by omega) ?_ (by omega) hsub hread
            rw [and_frac h, hra]; congr 1; omega
          · rw [if_neg hsub, if_pos (by omega)] at hread
            refine root_norm a (a / 4503599627370496) (a % 4503599627370496) w h hn (decide_eq_false (by rw [hra]; exact hz)) hi' (decide_eq_false (by omega)) (by omega) ?_ (by omega) (by omega) (by omega) hread
            rw [and_frac h, hra]
end Go.Proofs.Ytcioiilepjjfkaa
