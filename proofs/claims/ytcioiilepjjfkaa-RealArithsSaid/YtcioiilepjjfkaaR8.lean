/-
  The reference's root: what it answers. Conditions: the word is of 64 bits.
-/
import Derived.Test.YtcioiilepjjfkaaR6
import Derived.Test.YtcioiilepjjfkaaR7
namespace Go.Proofs.Ytcioiilepjjfkaa
open Go.RowKit
attribute [local go_sem] call19 call20

theorem root_nan (a : Nat) (w : World) (h : W64 a) (hn : FP.isNaN a = true) :
    Calls Try.prog 25 #[.int .u64 a] w fun e w' => e = .returned (.int .u64 9221120237041090560) ∧ w = w' := by
  have Ha := Lib.hid (fun w => rnan_any a w h)
  rw [hn] at Ha
  clear h hn
  go_enter Try.func25, Try.ntmps25
  go_wp2_with ((with_reducible refine (Ha.out _).mono ?_); rintro e w' ⟨rfl, rfl⟩)
  go_ret
  exact ⟨rfl, rfl⟩

theorem root_self (a : Nat) (z i : Bool) (w : World) (h : W64 a) (hn : FP.isNaN a = false) (hz : decide (FP.rung a = 0) = z) (hi : ((a : Int) == 9218868437227405312) = i) (ho : (z || i) = true) :
    Calls Try.prog 25 #[.int .u64 a] w fun e w' => e = .returned (.int .u64 a) ∧ w = w' := by
  have Ha := Lib.hid (fun w => rnan_any a w h)
  have Hz := Lib.hid (fun w => rzero_any a w h)
  rw [hn] at Ha
  rw [hz] at Hz
  clear h hn hz
  cases z <;> cases i <;> simp at ho
  all_goals
    go_enter Try.func25, Try.ntmps25
    go_wp2_with (first | ((with_reducible refine (Ha.out _).mono ?_); rintro e w' ⟨rfl, rfl⟩) | ((with_reducible refine (Hz.out _).mono ?_); rintro e w' ⟨rfl, rfl⟩))
    go_ret
    exact ⟨rfl, rfl⟩

theorem root_neg (a : Nat) (w : World) (h : W64 a) (hn : FP.isNaN a = false) (hz : decide (FP.rung a = 0) = false) (hi : ((a : Int) == 9218868437227405312) = false) (hs : decide ((9223372036854775808 : Int) ≤ a) = true) :
    Calls Try.prog 25 #[.int .u64 a] w fun e w' => e = .returned (.int .u64 9221120237041090560) ∧ w = w' := by
  have Ha := Lib.hid (fun w => rnan_any a w h)
  have Hz := Lib.hid (fun w => rzero_any a w h)
  rw [hn] at Ha
  rw [hz] at Hz
  clear h hn hz
  go_enter Try.func25, Try.ntmps25
  go_wp2_with (first | ((with_reducible refine (Ha.out _).mono ?_); rintro e w' ⟨rfl, rfl⟩) | ((with_reducible refine (Hz.out _).mono ?_); rintro e w' ⟨rfl, rfl⟩))
  go_ret
  exact ⟨rfl, rfl⟩

theorem and_one (e : Int) : bits .and .i64 e 1 = e % 2 := by
  show IntKind.i64.wrap ((BitVec.ofInt 64 e &&& BitVec.ofInt 64 1).toNat : Int) = _
  rw [BitVec.toNat_and, show (BitVec.ofInt 64 1).toNat = 1 from rfl, Nat.and_one_is_mod, IntKind.wrap_i64, BitVec.toNat_ofInt]
  omega
theorem and_one_u (q : Nat) (h : q < 18446744073709551616) : bits .and .u64 (q : Int) 1 = ((q % 2 : Nat) : Int) := by
  have := u64_and_nat q 1 h (by omega)
  rw [nat_mask1] at this
  exact this
theorem or_lead (f : Nat) (h : f < 4503599627370496) : bits .or .u64 (f : Int) 4503599627370496 = ((4503599627370496 + f : Nat) : Int) := by
  have := u64_or_nat f 4503599627370496 (by omega) (by omega)
  rw [show ((4503599627370496 : Nat) : Int) = 4503599627370496 from rfl] at this
  rw [this]
  congr 1
  rw [Nat.or_comm, nat_join 52 4503599627370496 f (by decide) (by omega)]

/-- a place -/
def Pw (p : Nat) : Prop := ∃ n, n ≤ 54 ∧ p = 2 ^ n
theorem Pw.two {p : Nat} (h : Pw p) (h1 : p ≠ 1) : ∃ r, p = 2 * r ∧ 0 < r ∧ Pw r ∧ r ≤ 9007199254740992 := by
  obtain ⟨n, hn, rfl⟩ := h
  cases n with
  | zero => exact absurd rfl h1
  | succ n =>
    refine ⟨2 ^ n, by rw [Nat.pow_succ]; omega, Nat.two_pow_pos n, ⟨n, by omega, rfl⟩, ?_⟩
    exact Nat.pow_le_pow_right (by omega : 0 < 2) (by omega : n ≤ 53)
theorem Pw.start : Pw 18014398509481984 := ⟨54, by omega, rfl⟩

/-- the number's digits, ahead of the rounds -/
def mmOf (e : Int) (m : Nat) : Nat := if e % 2 = 0 then m else m * 2

theorem sqrt_parts {a mm q k : Nat} {e : Int} (m0 p : Nat)
    (hr : Ieee.double.read a = .number false m0 (-1074 + (p : Nat))) (hm : m0 ≠ 0) (hm2 : m0 < 9007199254740992) (hk : 4503599627370496 ≤ m0 * 2 ^ k ∧ m0 * 2 ^ k < 9007199254740992)
    (he : e = (p : Int) + 1 - k - 1023) (hmm : mm = mmOf e (m0 * 2 ^ k)) (hp : p ≤ 2046) (hk52 : k ≤ 52)
    (hq1 : q * q ≤ mm * 18014398509481984) (hq2 : mm * 18014398509481984 < (q + 1) * (q + 1)) :
    canon (Ieee.double.sqrt a) = ((q + q % 2) / 2 : Nat) + (e / 2 + 1022) * 4503599627370496 := by
  rw [FP.sqrt_pos m0 p hr hm hm2 hk he rfl hmm hp hk52 hq1 hq2]
  simp only [canon]
  omega

set_option maxHeartbeats 1000000 in
theorem root_norm (a E f : Nat) (w : World) (h : W64 a) (hn : FP.isNaN a = false) (hz : decide (FP.rung a = 0) = false) (hi : ((a : Int) == 9218868437227405312) = false) (hs : decide ((9223372036854775808 : Int) ≤ a) = false)
    (hE : (a : Int) / 4503599627370496 = E) (hf : bits .and .u64 (a : Int) 4503599627370495 = f) (hE1 : 1 ≤ E) (hE2 : E ≤ 2046) (hff : f < 4503599627370496)
    (hread : Ieee.double.read a = .number false (4503599627370496 + f) (-1074 + ((E - 1 : Nat) : Int))) :
    Calls Try.prog 25 #[.int .u64 a] w fun e w' => e = .returned (.int .u64 (canon (Ieee.double.sqrt a))) ∧ w = w' := by
  have Ha := Lib.hid (fun w => rnan_any a w h)
  have Hz := Lib.hid (fun w => rzero_any a w h)
  rw [hn] at Ha
  rw [hz] at Hz
  have e1 : ((E : Int) == 0) = false := by simp; omega
  have hor := or_lead f hff
  have hQ : ∀ q mm : Nat, mm = mmOf ((E : Int) - 1023) (4503599627370496 + f) → q * q ≤ mm * 18014398509481984 → mm * 18014398509481984 < (q + 1) * (q + 1) →
      canon (Ieee.double.sqrt a) = ((q + q % 2) / 2 : Nat) + (((E : Int) - 1023) / 2 + 1022) * 4503599627370496 := fun q mm h1 h2 h3 =>
    @sqrt_parts a mm q 0 ((E : Int) - 1023) (4503599627370496 + f) (E - 1) hread (by omega) (by omega) ⟨by omega, by omega⟩ (by omega) (by rw [h1, Nat.pow_zero, Nat.mul_one]) (by omega) (by omega) h2 h3
  generalize canon (Ieee.double.sqrt a) = v at *
  obtain ⟨m0, hm0⟩ : ∃ m0, 4503599627370496 + f = m0 := ⟨_, rfl⟩
  rw [hm0] at hor hQ
  have hb1 : m0 < 9007199254740992 := by omega
  have hob : (bits BinOp.and IntKind.i64 ((E : Int) - 1023) 1 != 0) = decide (¬ ((E : Int) - 1023) % 2 = 0) := by
    rw [and_one, Bool.eq_iff_iff]; simp
  have HQ := Lib.hid hQ
  clear h hn hz hQ hread hm0 hff
  by_cases hpar : ((E : Int) - 1023) % 2 = 0
  · rw [decide_eq_false (fun q => q hpar)] at hob
    have hmm : m0 = mmOf ((E : Int) - 1023) m0 := by unfold mmOf; rw [if_pos hpar]
    have HM := Lib.hid hmm
    have HP := Lib.hid hpar
    clear hmm hpar
    go_enter Try.func25, Try.ntmps25
    go_wp2_with (first | ((with_reducible refine (Ha.out _).mono ?_); rintro e w' ⟨rfl, rfl⟩) | ((with_reducible refine (Hz.out _).mono ?_); rintro e w' ⟨rfl, rfl⟩))
    clear hob hor hE hf hi hs e1
    have HS := Lib.hid (RInv.start (M := (2 * m0)) (by omega))
    go_loop [4, 5, 6, 7] (fun v4 v5 v6 v7 => ∃ q m p r s : Nat, Hid (RInv ((2 * m0) * 9007199254740992) q m p) ∧ Hid (Pw p) ∧ Hid (r = p / 2) ∧ Hid (s = 2 * q) ∧ m < 288230376151711744 ∧ q ≤ 18014398509481984 ∧ s ≤ 36028797018963968 ∧ r ≤ 9007199254740992 ∧ v4 = .int .u64 m ∧ v5 = .int .u64 q ∧ v6 = .int .u64 s ∧ v7 = .int .u64 r) (fun _ _ _ r => (intOf r).toNat)
    case atStart => exact ⟨0, (2 * m0), 18014398509481984, 9007199254740992, 0, HS, Lib.hid Pw.start, Lib.hid rfl, Lib.hid rfl, by omega, by omega, by omega, by omega, congrArg (Value.int .u64) (by omega), rfl, rfl, rfl⟩
    case round =>
      obtain ⟨q, m, p, r, s, HI, HPw, HR, HSq, hm, hq, hs', hr', rfl, rfl, rfl, rfl⟩ := hrel
      by_cases hp1 : p = 1
      · have hr0 : ((r : Int) != 0) = false := by have := HR.out; subst hp1; simp; omega
        have hi1 := HI.out
        rw [hp1] at hi1
        obtain ⟨l1, l2, l3⟩ := hi1.last
        have hfin := HQ.out q (m0) HM.out l1 l2
        have hqq := and_one_u q (by omega)
        have hq2 : q % 2 ≤ 1 := by omega
        have HF := Lib.hid hfin
        have HL := Lib.hid l3
        clear hfin l1 l2 l3 hi1 hp1 HR HSq HPw HI HM
        by_cases hmz : m = 0
        · have hm1 : ((m : Int) != 0) = false := by simp; omega
          have HL2 := Lib.hid (HL.out hmz)
          clear HL hmz
          go_wp2
          go_ret
          exact ⟨congrArg (fun v => Ending.returned (.int .u64 v)) (by rw [HF.out]; have := HL2.out; omega), rfl⟩
        · have hm1 : ((m : Int) != 0) = true := by simp; omega
          clear HL hmz
          go_wp2
          go_ret
          exact ⟨congrArg (fun v => Ending.returned (.int .u64 v)) (by rw [HF.out]; omega), rfl⟩
      · obtain ⟨r', hp2, hr1, hPr, hr9⟩ := HPw.out.two hp1
        obtain rfl : r = r' := by have := HR.out; omega
        have hI := HI.out
        rw [hp2] at hI
        have hm57 := hI.le hr1
        have hne : ((r : Int) != 0) = true := by simp; omega
        by_cases ht : 2 * q + r ≤ m
        · have HI2 := Lib.hid (hI.take ht)
          have hd := HI2.out.d
          have ht' : s + r ≤ m := by have := HSq.out; omega
          have HPr := Lib.hid hPr
          clear hI hp1 hp2 HI HPw HR hPr ht
          go_wp2
          go_round
          case rel =>
            have hs2 := HSq.out
            exact ⟨q + r, 2 * (m - (2 * q + r)), r, r / 2, 2 * (q + r), HI2, HPr, Lib.hid rfl, Lib.hid rfl, by omega, by omega, by omega, by omega, congrArg (Value.int .u64) (by omega), congrArg (Value.int .u64) (by omega), congrArg (Value.int .u64) (by omega), congrArg (Value.int .u64) (by omega)⟩
          case measure => simp [intOf]; omega
        · have HI2 := Lib.hid (hI.skip hr1 (by omega))
          have hd := HI2.out.d
          have ht' : m < s + r := by have := HSq.out; omega
          have HPr := Lib.hid hPr
          clear hI hp1 hp2 HI HPw HR hPr ht
          go_wp2
          go_round
          case rel =>
            have hs2 := HSq.out
            exact ⟨q, 2 * m, r, r / 2, s, HI2, HPr, Lib.hid rfl, HSq, by omega, by omega, by omega, by omega, congrArg (Value.int .u64) (by omega), rfl, rfl, congrArg (Value.int .u64) (by omega)⟩
          case measure => simp [intOf]; omega
  · rw [decide_eq_true hpar] at hob
    have hmm : m0 * 2 = mmOf ((E : Int) - 1023) m0 := by unfold mmOf; rw [if_neg hpar]
    have HM := Lib.hid hmm
    have HP := Lib.hid hpar
    clear hmm hpar
    go_enter Try.func25, Try.ntmps25
    go_wp2_with (first | ((with_reducible refine (Ha.out _).mono ?_); rintro e w' ⟨rfl, rfl⟩) | ((with_reducible refine (Hz.out _).mono ?_); rintro e w' ⟨rfl, rfl⟩))
    clear hob hor hE hf hi hs e1
    have HS := Lib.hid (RInv.start (M := (2 * (m0 * 2))) (by omega))
    go_loop [4, 5, 6, 7] (fun v4 v5 v6 v7 => ∃ q m p r s : Nat, Hid (RInv ((2 * (m0 * 2)) * 9007199254740992) q m p) ∧ Hid (Pw p) ∧ Hid (r = p / 2) ∧ Hid (s = 2 * q) ∧ m < 288230376151711744 ∧ q ≤ 18014398509481984 ∧ s ≤ 36028797018963968 ∧ r ≤ 9007199254740992 ∧ v4 = .int .u64 m ∧ v5 = .int .u64 q ∧ v6 = .int .u64 s ∧ v7 = .int .u64 r) (fun _ _ _ r => (intOf r).toNat)
    case atStart => exact ⟨0, (2 * (m0 * 2)), 18014398509481984, 9007199254740992, 0, HS, Lib.hid Pw.start, Lib.hid rfl, Lib.hid rfl, by omega, by omega, by omega, by omega, congrArg (Value.int .u64) (by omega), rfl, rfl, rfl⟩
    case round =>
      obtain ⟨q, m, p, r, s, HI, HPw, HR, HSq, hm, hq, hs', hr', rfl, rfl, rfl, rfl⟩ := hrel
      by_cases hp1 : p = 1
      · have hr0 : ((r : Int) != 0) = false := by have := HR.out; subst hp1; simp; omega
        have hi1 := HI.out
        rw [hp1] at hi1
        obtain ⟨l1, l2, l3⟩ := hi1.last
        have hfin := HQ.out q (m0 * 2) HM.out l1 l2
        have hqq := and_one_u q (by omega)
        have hq2 : q % 2 ≤ 1 := by omega
        have HF := Lib.hid hfin
        have HL := Lib.hid l3
        clear hfin l1 l2 l3 hi1 hp1 HR HSq HPw HI HM
        by_cases hmz : m = 0
        · have hm1 : ((m : Int) != 0) = false := by simp; omega
          have HL2 := Lib.hid (HL.out hmz)
          clear HL hmz
          go_wp2
          go_ret
          exact ⟨congrArg (fun v => Ending.returned (.int .u64 v)) (by rw [HF.out]; have := HL2.out; omega), rfl⟩
        · have hm1 : ((m : Int) != 0) = true := by simp; omega
          clear HL hmz
          go_wp2
          go_ret
          exact ⟨congrArg (fun v => Ending.returned (.int .u64 v)) (by rw [HF.out]; omega), rfl⟩
      · obtain ⟨r', hp2, hr1, hPr, hr9⟩ := HPw.out.two hp1
        obtain rfl : r = r' := by have := HR.out; omega
        have hI := HI.out
        rw [hp2] at hI
        have hm57 := hI.le hr1
        have hne : ((r : Int) != 0) = true := by simp; omega
        by_cases ht : 2 * q + r ≤ m
        · have HI2 := Lib.hid (hI.take ht)
          have hd := HI2.out.d
          have ht' : s + r ≤ m := by have := HSq.out; omega
          have HPr := Lib.hid hPr
          clear hI hp1 hp2 HI HPw HR hPr ht
          go_wp2
          go_round
          case rel =>
            have hs2 := HSq.out
            exact ⟨q + r, 2 * (m - (2 * q + r)), r, r / 2, 2 * (q + r), HI2, HPr, Lib.hid rfl, Lib.hid rfl, by omega, by omega, by omega, by omega, congrArg (Value.int .u64) (by omega), congrArg (Value.int .u64) (by omega), congrArg (Value.int .u64) (by omega), congrArg (Value.int .u64) (by omega)⟩
          case measure => simp [intOf]; omega
        · have HI2 := Lib.hid (hI.skip hr1 (by omega))
          have hd := HI2.out.d
          have ht' : m < s + r := by have := HSq.out; omega
          have HPr := Lib.hid hPr
          clear hI hp1 hp2 HI HPw HR hPr ht
          go_wp2
          go_round
          case rel =>
            have hs2 := HSq.out
            exact ⟨q, 2 * m, r, r / 2, s, HI2, HPr, Lib.hid rfl, HSq, by omega, by omega, by omega, by omega, congrArg (Value.int .u64) (by omega), rfl, rfl, congrArg (Value.int .u64) (by omega)⟩
          case measure => simp [intOf]; omega
end Go.Proofs.Ytcioiilepjjfkaa
