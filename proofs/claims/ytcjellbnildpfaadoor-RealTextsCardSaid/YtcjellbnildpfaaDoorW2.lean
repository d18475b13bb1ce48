/-
  The reference's Text of every float is the program's. Condition: a word of 64 bits.
-/
import Derived.Test.YtcjellbnildpfaaDoorW1
import Derived.Test.YtcjellbnildpfaaDoorL3
namespace Go.Proofs.YtcjellbnildpfaaDoor
open Go.RowKit

theorem digits_any (n : Int) (w : World) (h0 : -1023 ≤ n) (h1 : n ≤ 1023) :
    Calls Tryd.prog 29 #[.int .i64 n] w fun e w' => e = .returned (.string ⟨(Lib.itoa n).toArray⟩) ∧ Upd [] w w' := by
  unfold Lib.itoa
  by_cases hn : n < 0
  · rw [if_pos hn]
    exact digits_neg n.natAbs (by omega) n h0 hn (by omega) w
  · rw [if_neg hn]
    have := digits_pos n.toNat (by omega) w
    rw [show ((n.toNat : Nat) : Int) = n by omega] at this
    exact this

theorem letter_at (d : Nat) (h : d < 16) : (ByteArray.mk #[48, 49, 50, 51, 52, 53, 54, 55, 56, 57, 97, 98, 99, 100, 101, 102]).extract d (d + 1) = ⟨#[dgB d]⟩ := by
  have key : ∀ d : Fin 16, ((ByteArray.mk #[48, 49, 50, 51, 52, 53, 54, 55, 56, 57, 97, 98, 99, 100, 101, 102]).extract d.val (d.val + 1)) = ⟨#[dgB d.val]⟩ := by decide
  exact key ⟨d, h⟩

theorem shl_mask (f : Nat) (h : f < 4503599627370496) : bits .and .u64 ((f : Int) * 16) 4503599627370495 = ((f * 16 % 4503599627370496 : Nat) : Int) := by
  have := u64_and_nat (f * 16) 4503599627370495 (by omega) (by omega)
  rw [nat_mask52] at this
  rw [show ((4503599627370495 : Nat) : Int) = 4503599627370495 from rfl, show ((f * 16 : Nat) : Int) = (f : Int) * 16 by omega] at this
  exact this

theorem frL_nil (k : Nat) : frL k 0 = [] := by cases k <;> rfl

/-- one letter more -/
theorem frL_step {k f g d : Nat} (hf0 : f ≠ 0) (hk : k ≤ 13) (h1 : f = g * 16 ^ (13 - k)) (h2 : g < 16 ^ k) (hd : f / 281474976710656 = d) :
    ∃ j, k = j + 1 ∧ frL k f = dgB d :: frL j (f * 16 % 4503599627370496) ∧ f * 16 % 4503599627370496 = (g % 16 ^ j) * 16 ^ (13 - j) ∧ g % 16 ^ j < 16 ^ j := by
  cases k with
  | zero =>
    have : g = 0 := by simpa using h2
    rw [this, Nat.zero_mul] at h1
    exact absurd h1 hf0
  | succ j =>
    obtain ⟨_, p2, p3⟩ := pow16 j (by omega)
    refine ⟨j, rfl, ?_, ?_, Nat.mod_lt _ (Nat.pow_pos (by omega))⟩
    · show (if f = 0 then [] else dgB (f / 281474976710656) :: frL j (f * 16 % 4503599627370496)) = _
      rw [if_neg hf0, hd]
    · rw [h1, show 13 - (j + 1) = 12 - j by omega, Nat.mul_assoc, p3, ← p2, Nat.mul_mod_mul_right]

set_option maxRecDepth 100000 in
set_option maxHeartbeats 4000000 in
theorem rtext_one (a r E R : Nat) (s : Bool) (w : World) (hA : bits .andNot .u64 (a : Int) 9223372036854775808 = (r : Int)) (hS : decide ((9223372036854775808 : Int) ≤ (a : Int)) = s)
    (hr : r < 9218868437227405312) (hr0 : r ≠ 0) (hE : (r : Int) / 4503599627370496 = (E : Int)) (hR : bits .and .u64 (r : Int) 4503599627370495 = (R : Int)) (hE1 : 1 ≤ E) (hE2 : E ≤ 2046) (hR2 : R < 4503599627370496) (hR0 : R ≠ 0) :
    Calls Tryd.prog 12 #[.int .u64 a] w fun e w' => e = .returned (.string ⟨((if s then [45] else []) ++ bodyV E R).toArray⟩) ∧ Upd [] w w' := by
  have g1 : decide ((9218868437227405312 : Int) < (r : Int)) = false := decide_eq_false (by omega)
  have g2 : ((r : Int) == 9218868437227405312) = false := by simp; omega
  have g3 : ((r : Int) == 0) = false := by simp; omega
  have HB := Lib.hid (show bodyV E R = [48, 120, 49] ++ (46 :: frL 13 R) ++ [112] ++ Lib.itoa ((E : Int) - 1023) from by unfold bodyV; rw [if_neg (by omega), if_neg (by omega), frac_letters R hR2 hR0])
  have g4 : (((E : Int) - 1023) == -1023) = false := by simp; omega
  have g5 : ((R : Int) != 0) = true := by simp; omega
  have HD := Lib.hid (digits_any ((E : Int) - 1023) w (by omega) (by omega))
  have hil := itoa_len ((E : Int) - 1023) (by omega) (by omega)
  clear hr hr0
  cases s
  all_goals
    go_enter Tryd.func12, Tryd.ntmps12
    go_wp2_with fail
  · go_loop [4, 6, 9] (fun vs vf vd => ∃ (k f g : Nat) (t : List UInt8), k ≤ 13 ∧ f < 4503599627370496 ∧ vs = .string ⟨t.toArray⟩ ∧ vf = .int .u64 f ∧ Hid (f = g * 16 ^ (13 - k) ∧ g < 16 ^ k) ∧ Hid (t ++ frL k f = [48, 120, 49, 46] ++ frL 13 R) ∧ t.length + k ≤ 30) (fun vs _ _ => match vs with | .string s => 30 - s.size | _ => 0)
    case atStart => exact ⟨13, R, R, [48, 120, 49, 46], by omega, hR2, rfl, rfl, Lib.hid ⟨by simp, hR2⟩, Lib.hid rfl, by simp⟩
    case round =>
      obtain ⟨k, f, g, t, hk, hf, rfl, rfl, HG, HT, hl⟩ := hrel
      by_cases hf0 : f = 0
      · subst hf0
        have ht := HT.out
        rw [frL_nil, List.append_nil] at ht
        have HTT := Lib.hid ht
        clear ht HT
        go_wp2_with fail
        refine HD.out.mono ?_
        rintro e w2 ⟨rfl, hu⟩
        have HU := Lib.hid hu
        clear hu
        generalize Lib.itoa ((E : Int) - 1023) = I at *
        go_wp2_with fail
        go_ret
        refine ⟨congrArg Ending.returned (congrArg Value.string (ByteArray.ext ?_)), HU.out⟩
        rw [HB.out, HTT.out]
        simp
      · have c1 : ((f : Int) != 0) = true := by simp; omega
        obtain ⟨d, hd⟩ : ∃ d, f / 281474976710656 = d := ⟨_, rfl⟩
        have e1 : (f : Int) / 281474976710656 = (d : Int) := by omega
        have hd16 : d < 16 := by omega
        have e2 := shl_mask f hf
        have e3 := letter_at d hd16
        have d1 : (0 : Int) ≤ (d : Int) := by omega
        have d2 : (d : Int) ≤ (d : Int) + 1 := by omega
        have d3 : (d : Int) + 1 ≤ 16 := by omega
        have HST := Lib.hid (frL_step hf0 hk HG.out.1 HG.out.2 hd)
        clear hd hf0
        go_wp2_with fail
        go_round
        case rel =>
          obtain ⟨j, rfl, h1, h2, h3⟩ := HST.out
          have ht := HT.out
          rw [h1] at ht
          exact ⟨j, f * 16 % 4503599627370496, g % 16 ^ j, t ++ [dgB d], by omega, Nat.mod_lt _ (by omega), congrArg Value.string (ByteArray.ext (by simp)), congrArg (Value.int .u64) (by omega), Lib.hid ⟨h2, h3⟩, Lib.hid (by rw [List.append_assoc]; exact ht), by simp; omega⟩
        case measure =>
          obtain ⟨j, rfl, _⟩ := HST.out
          show 30 - (({ data := t.toArray } : ByteArray) ++ { data := #[dgB d] }).size < 30 - ({ data := t.toArray } : ByteArray).size
          rw [ByteArray.size_append]
          show 30 - (t.toArray.size + 1) < 30 - t.toArray.size
          simp; omega
  · go_loop [4, 6, 9] (fun vs vf vd => ∃ (k f g : Nat) (t : List UInt8), k ≤ 13 ∧ f < 4503599627370496 ∧ vs = .string ⟨t.toArray⟩ ∧ vf = .int .u64 f ∧ Hid (f = g * 16 ^ (13 - k) ∧ g < 16 ^ k) ∧ Hid (t ++ frL k f = [45, 48, 120, 49, 46] ++ frL 13 R) ∧ t.length + k ≤ 30) (fun vs _ _ => match vs with | .string s => 30 - s.size | _ => 0)
    case atStart => exact ⟨13, R, R, [45, 48, 120, 49, 46], by omega, hR2, rfl, rfl, Lib.hid ⟨by simp, hR2⟩, Lib.hid rfl, by simp⟩
    case round =>
      obtain ⟨k, f, g, t, hk, hf, rfl, rfl, HG, HT, hl⟩ := hrel
      by_cases hf0 : f = 0
      · subst hf0
        have ht := HT.out
        rw [frL_nil, List.append_nil] at ht
        have HTT := Lib.hid ht
        clear ht HT
        go_wp2_with fail
        refine HD.out.mono ?_
        rintro e w2 ⟨rfl, hu⟩
        have HU := Lib.hid hu
        clear hu
        generalize Lib.itoa ((E : Int) - 1023) = I at *
        go_wp2_with fail
        go_ret
        refine ⟨congrArg Ending.returned (congrArg Value.string (ByteArray.ext ?_)), HU.out⟩
        rw [HB.out, HTT.out]
        simp
      · have c1 : ((f : Int) != 0) = true := by simp; omega
        obtain ⟨d, hd⟩ : ∃ d, f / 281474976710656 = d := ⟨_, rfl⟩
        have e1 : (f : Int) / 281474976710656 = (d : Int) := by omega
        have hd16 : d < 16 := by omega
        have e2 := shl_mask f hf
        have e3 := letter_at d hd16
        have d1 : (0 : Int) ≤ (d : Int) := by omega
        have d2 : (d : Int) ≤ (d : Int) + 1 := by omega
        have d3 : (d : Int) + 1 ≤ 16 := by omega
        have HST := Lib.hid (frL_step hf0 hk HG.out.1 HG.out.2 hd)
        clear hd hf0
        go_wp2_with fail
        go_round
        case rel =>
          obtain ⟨j, rfl, h1, h2, h3⟩ := HST.out
          have ht := HT.out
          rw [h1] at ht
          exact ⟨j, f * 16 % 4503599627370496, g % 16 ^ j, t ++ [dgB d], by omega, Nat.mod_lt _ (by omega), congrArg Value.string (ByteArray.ext (by simp)), congrArg (Value.int .u64) (by omega), Lib.hid ⟨h2, h3⟩, Lib.hid (by rw [List.append_assoc]; exact ht), by simp; omega⟩
        case measure =>
          obtain ⟨j, rfl, _⟩ := HST.out
          show 30 - (({ data := t.toArray } : ByteArray) ++ { data := #[dgB d] }).size < 30 - ({ data := t.toArray } : ByteArray).size
          rw [ByteArray.size_append]
          show 30 - (t.toArray.size + 1) < 30 - t.toArray.size
          simp; omega

set_option maxRecDepth 100000 in
set_option maxHeartbeats 4000000 in
theorem rtext_sub (a r R : Nat) (s : Bool) (w : World) (hA : bits .andNot .u64 (a : Int) 9223372036854775808 = (r : Int)) (hS : decide ((9223372036854775808 : Int) ≤ (a : Int)) = s)
    (hr : r < 9218868437227405312) (hr0 : r ≠ 0) (hE : (r : Int) / 4503599627370496 = 0) (hR : bits .and .u64 (r : Int) 4503599627370495 = (R : Int)) (hR2 : R < 4503599627370496) (hR0 : R ≠ 0) :
    Calls Tryd.prog 12 #[.int .u64 a] w fun e w' => e = .returned (.string ⟨((if s then [45] else []) ++ bodyV 0 R).toArray⟩) ∧ Upd [] w w' := by
  have g1 : decide ((9218868437227405312 : Int) < (r : Int)) = false := decide_eq_false (by omega)
  have g2 : ((r : Int) == 9218868437227405312) = false := by simp; omega
  have g3 : ((r : Int) == 0) = false := by simp; omega
  have HB := Lib.hid (show bodyV 0 R = [48, 120, 48] ++ (46 :: frL 13 R) ++ [112] ++ Lib.itoa (-1022) from by unfold bodyV; rw [if_pos rfl, if_pos rfl, frac_letters R hR2 hR0]; rfl)
  have g5 : ((R : Int) != 0) = true := by simp; omega
  have HD := Lib.hid (digits_any (-1022) w (by omega) (by omega))
  have hil := itoa_len (-1022) (by omega) (by omega)
  clear hr hr0
  cases s
  all_goals
    go_enter Tryd.func12, Tryd.ntmps12
    go_wp2_with fail
  · go_loop [4, 6, 9] (fun vs vf vd => ∃ (k f g : Nat) (t : List UInt8), k ≤ 13 ∧ f < 4503599627370496 ∧ vs = .string ⟨t.toArray⟩ ∧ vf = .int .u64 f ∧ Hid (f = g * 16 ^ (13 - k) ∧ g < 16 ^ k) ∧ Hid (t ++ frL k f = [48, 120, 48, 46] ++ frL 13 R) ∧ t.length + k ≤ 30) (fun vs _ _ => match vs with | .string s => 30 - s.size | _ => 0)
    case atStart => exact ⟨13, R, R, [48, 120, 48, 46], by omega, hR2, rfl, rfl, Lib.hid ⟨by simp, hR2⟩, Lib.hid rfl, by simp⟩
    case round =>
      obtain ⟨k, f, g, t, hk, hf, rfl, rfl, HG, HT, hl⟩ := hrel
      by_cases hf0 : f = 0
      · subst hf0
        have ht := HT.out
        rw [frL_nil, List.append_nil] at ht
        have HTT := Lib.hid ht
        clear ht HT
        go_wp2_with fail
        refine HD.out.mono ?_
        rintro e w2 ⟨rfl, hu⟩
        have HU := Lib.hid hu
        clear hu
        generalize Lib.itoa (-1022) = I at *
        go_wp2_with fail
        go_ret
        refine ⟨congrArg Ending.returned (congrArg Value.string (ByteArray.ext ?_)), HU.out⟩
        rw [HB.out, HTT.out]
        simp
      · have c1 : ((f : Int) != 0) = true := by simp; omega
        obtain ⟨d, hd⟩ : ∃ d, f / 281474976710656 = d := ⟨_, rfl⟩
        have e1 : (f : Int) / 281474976710656 = (d : Int) := by omega
        have hd16 : d < 16 := by omega
        have e2 := shl_mask f hf
        have e3 := letter_at d hd16
        have d1 : (0 : Int) ≤ (d : Int) := by omega
        have d2 : (d : Int) ≤ (d : Int) + 1 := by omega
        have d3 : (d : Int) + 1 ≤ 16 := by omega
        have HST := Lib.hid (frL_step hf0 hk HG.out.1 HG.out.2 hd)
        clear hd hf0
        go_wp2_with fail
        go_round
        case rel =>
          obtain ⟨j, rfl, h1, h2, h3⟩ := HST.out
          have ht := HT.out
          rw [h1] at ht
          exact ⟨j, f * 16 % 4503599627370496, g % 16 ^ j, t ++ [dgB d], by omega, Nat.mod_lt _ (by omega), congrArg Value.string (ByteArray.ext (by simp)), congrArg (Value.int .u64) (by omega), Lib.hid ⟨h2, h3⟩, Lib.hid (by rw [List.append_assoc]; exact ht), by simp; omega⟩
        case measure =>
          obtain ⟨j, rfl, _⟩ := HST.out
          show 30 - (({ data := t.toArray } : ByteArray) ++ { data := #[dgB d] }).size < 30 - ({ data := t.toArray } : ByteArray).size
          rw [ByteArray.size_append]
          show 30 - (t.toArray.size + 1) < 30 - t.toArray.size
          simp; omega
  · go_loop [4, 6, 9] (fun vs vf vd => ∃ (k f g : Nat) (t : List UInt8), k ≤ 13 ∧ f < 4503599627370496 ∧ vs = .string ⟨t.toArray⟩ ∧ vf = .int .u64 f ∧ Hid (f = g * 16 ^ (13 - k) ∧ g < 16 ^ k) ∧ Hid (t ++ frL k f = [45, 48, 120, 48, 46] ++ frL 13 R) ∧ t.length + k ≤ 30) (fun vs _ _ => match vs with | .string s => 30 - s.size | _ => 0)
    case atStart => exact ⟨13, R, R, [45, 48, 120, 48, 46], by omega, hR2, rfl, rfl, Lib.hid ⟨by simp, hR2⟩, Lib.hid rfl, by simp⟩
    case round =>
      obtain ⟨k, f, g, t, hk, hf, rfl, rfl, HG, HT, hl⟩ := hrel
      by_cases hf0 : f = 0
      · subst hf0
        have ht := HT.out
        rw [frL_nil, List.append_nil] at ht
        have HTT := Lib.hid ht
        clear ht HT
        go_wp2_with fail
        refine HD.out.mono ?_
        rintro e w2 ⟨rfl, hu⟩
        have HU := Lib.hid hu
        clear hu
        generalize Lib.itoa (-1022) = I at *
        go_wp2_with fail
        go_ret
        refine ⟨congrArg Ending.returned (congrArg Value.string (ByteArray.ext ?_)), HU.out⟩
        rw [HB.out, HTT.out]
        simp
      · have c1 : ((f : Int) != 0) = true := by simp; omega
        obtain ⟨d, hd⟩ : ∃ d, f / 281474976710656 = d := ⟨_, rfl⟩
        have e1 : (f : Int) / 281474976710656 = (d : Int) := by omega
        have hd16 : d < 16 := by omega
        have e2 := shl_mask f hf
        have e3 := letter_at d hd16
        have d1 : (0 : Int) ≤ (d : Int) := by omega
        have d2 : (d : Int) ≤ (d : Int) + 1 := by omega
        have d3 : (d : Int) + 1 ≤ 16 := by omega
        have HST := Lib.hid (frL_step hf0 hk HG.out.1 HG.out.2 hd)
        clear hd hf0
        go_wp2_with fail
        go_round
        case rel =>
          obtain ⟨j, rfl, h1, h2, h3⟩ := HST.out
          have ht := HT.out
          rw [h1] at ht
          exact ⟨j, f * 16 % 4503599627370496, g % 16 ^ j, t ++ [dgB d], by omega, Nat.mod_lt _ (by omega), congrArg Value.string (ByteArray.ext (by simp)), congrArg (Value.int .u64) (by omega), Lib.hid ⟨h2, h3⟩, Lib.hid (by rw [List.append_assoc]; exact ht), by simp; omega⟩
        case measure =>
          obtain ⟨j, rfl, _⟩ := HST.out
          show 30 - (({ data := t.toArray } : ByteArray) ++ { data := #[dgB d] }).size < 30 - ({ data := t.toArray } : ByteArray).size
          rw [ByteArray.size_append]
          show 30 - (t.toArray.size + 1) < 30 - t.toArray.size
          simp; omega

set_option maxRecDepth 100000 in
set_option maxHeartbeats 4000000 in
theorem rtext_whole (a r E : Nat) (s : Bool) (w : World) (hA : bits .andNot .u64 (a : Int) 9223372036854775808 = (r : Int)) (hS : decide ((9223372036854775808 : Int) ≤ (a : Int)) = s)
    (hr : r < 9218868437227405312) (hr0 : r ≠ 0) (hE : (r : Int) / 4503599627370496 = (E : Int)) (hR : bits .and .u64 (r : Int) 4503599627370495 = 0) (hE1 : 1 ≤ E) (hE2 : E ≤ 2046) :
    Calls Tryd.prog 12 #[.int .u64 a] w fun e w' => e = .returned (.string ⟨((if s then [45] else []) ++ bodyV E 0).toArray⟩) ∧ Upd [] w w' := by
  have g1 : decide ((9218868437227405312 : Int) < (r : Int)) = false := decide_eq_false (by omega)
  have g2 : ((r : Int) == 9218868437227405312) = false := by simp; omega
  have g3 : ((r : Int) == 0) = false := by simp; omega
  have HB := Lib.hid (show bodyV E 0 = [48, 120, 49] ++ [] ++ [112] ++ Lib.itoa ((E : Int) - 1023) from by unfold bodyV; rw [if_neg (by omega), if_neg (by omega)]; rfl)
  have g4 : (((E : Int) - 1023) == -1023) = false := by simp; omega
  have HD := Lib.hid (digits_any ((E : Int) - 1023) w (by omega) (by omega))
  have hil := itoa_len ((E : Int) - 1023) (by omega) (by omega)
  clear hr hr0
  cases s
  all_goals
    go_enter Tryd.func12, Tryd.ntmps12
    go_wp2_with fail
  · go_loop [4, 6, 9] (fun vs vf _ => vs = .string ⟨([48, 120, 49] : List UInt8).toArray⟩ ∧ vf = .int .u64 0) (fun _ _ _ => 0)
    case atStart => exact ⟨rfl, rfl⟩
    case round =>
      obtain ⟨rfl, rfl⟩ := hrel
      go_wp2_with fail
      refine HD.out.mono ?_
      rintro e w2 ⟨rfl, hu⟩
      have HU := Lib.hid hu
      clear hu
      generalize Lib.itoa ((E : Int) - 1023) = I at *
      go_wp2_with fail
      go_ret
      refine ⟨congrArg Ending.returned (congrArg Value.string (ByteArray.ext ?_)), HU.out⟩
      rw [HB.out]
      simp
  · go_loop [4, 6, 9] (fun vs vf _ => vs = .string ⟨([45, 48, 120, 49] : List UInt8).toArray⟩ ∧ vf = .int .u64 0) (fun _ _ _ => 0)
    case atStart => exact ⟨rfl, rfl⟩
    case round =>
      obtain ⟨rfl, rfl⟩ := hrel
      go_wp2_with fail
      refine HD.out.mono ?_
      rintro e w2 ⟨rfl, hu⟩
      have HU := Lib.hid hu
      clear hu
      generalize Lib.itoa ((E : Int) - 1023) = I at *
      go_wp2_with fail
      go_ret
      refine ⟨congrArg Ending.returned (congrArg Value.string (ByteArray.ext ?_)), HU.out⟩
      rw [HB.out]
      simp

end Go.Proofs.YtcjellbnildpfaaDoor
