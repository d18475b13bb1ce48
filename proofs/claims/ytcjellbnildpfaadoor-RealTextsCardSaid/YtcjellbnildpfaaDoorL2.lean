/-
  Plain law: the text of a float that is no NaN is parsed as the float was; what is parsed is the text of what comes of it. Condition: a word of 64 bits.
-/
import Derived.Test.YtcjellbnildpfaaDoorL1
namespace Go.Proofs.YtcjellbnildpfaaDoor
open Go.RowKit

/-- the fraction's part: trimmed digits, that are filled up again -/
theorem frac_parts (R : Nat) (h : R < 4503599627370496) (h0 : R ≠ 0) : ∃ T : List UInt8, fracV R = 46 :: T ∧ T.length ≤ 13 ∧ (∀ c ∈ T, hexB c) ∧ hexV 0 (48 :: T ++ Lib.repeatL [48] (13 - T.length)) = some R := by
  have hl := hexD_len R 13 (by omega) h
  refine ⟨_, by unfold fracV; rw [if_neg h0], ?_, ?_, ?_⟩
  · refine Nat.le_trans (trim_len _ _) ?_
    rw [List.length_append, Lib.repeatL_length]
    simp; omega
  · intro c hc
    have := trim_mem _ c hc
    rw [rep_is] at this
    rcases List.mem_append.1 this with m | m
    · rw [(List.mem_replicate.1 m).2]
      left; decide
    · exact hexD_hexB R c m
  · have hP : (Lib.repeatL [48] (13 - (hexD R).length) ++ hexD R).length = 13 := by
      rw [List.length_append, Lib.repeatL_length]; simp; omega
    have hf := trim_fill (Lib.repeatL [48] (13 - (hexD R).length) ++ hexD R)
    rw [hP] at hf
    rw [rep_is (13 - (Lib.trimRightB (Lib.repeatL [48] (13 - (hexD R).length) ++ hexD R) 48).length), List.cons_append, hf]
    have e : hexV 0 (48 :: (Lib.repeatL [48] (13 - (hexD R).length) ++ hexD R)) = hexV 0 (Lib.repeatL [48] (1 + (13 - (hexD R).length)) ++ hexD R) := by
      rw [Nat.add_comm]; rfl
    rw [e, hex_zeros, hex_back]

theorem not_letter {c : UInt8} (h : hexB c) : c ≠ 112 ∧ c ≠ 46 := by
  refine ⟨?_, ?_⟩
  · rintro rfl; rcases h with ⟨_, h⟩ | ⟨_, h⟩ <;> revert h <;> decide
  · rintro rfl; rcases h with ⟨h, _⟩ | ⟨h, _⟩ <;> revert h <;> decide

/-- what stands behind 0x in a text is read back -/
theorem num_back (E R : Nat) (hE : E ≤ 2046) (hR : R < 4503599627370496) :
    numR ⟨((if E = 0 then [48] else [49]) ++ fracV R ++ [112] ++ Lib.itoa ((if E = 0 then 1 else (E : Int)) - 1023)).toArray⟩ = some (E * 4503599627370496 + R) := by
  obtain ⟨X, hX⟩ : ∃ X : Int, (if E = 0 then 1 else (E : Int)) - 1023 = X := ⟨_, rfl⟩
  have hX1 : -1022 ≤ X := by rw [← hX]; split <;> omega
  have hX2 : X ≤ 1023 := by rw [← hX]; split <;> omega
  have hX3 : X + 1023 = if E = 0 then 1 else (E : Int) := by rw [← hX]; omega
  obtain ⟨ld, hld⟩ : ∃ ld : UInt8, (if E = 0 then [48] else [49]) = [ld] ∧ (ld = 48 ↔ E = 0) ∧ hexB ld := by
    by_cases h : E = 0
    · exact ⟨48, by rw [if_pos h], by simp [h], by left; decide⟩
    · exact ⟨49, by rw [if_neg h], by simp [h], by left; decide⟩
  obtain ⟨l1, l2, l3⟩ := hld
  rw [hX, l1]
  have hA : atoiV ⟨(Lib.itoa X).toArray⟩ = some X := by
    unfold atoiV
    rw [show ({ data := (Lib.itoa X).toArray } : ByteArray).data.toList = Lib.itoa X by simp, atoi_itoa X (by omega) (by omega)]
  have hval : (if ld = 48 then R else (X + 1023).toNat * 4503599627370496 + R) = E * 4503599627370496 + R := by
    by_cases h : E = 0
    · rw [if_pos (l2.2 h), h]; omega
    · rw [if_neg (fun e => h (l2.1 e)), hX3, if_neg h]; omega
  have hdig : (({ data := [ld].toArray } : ByteArray) = { data := #[48] }) ↔ ld = 48 := by
    constructor
    · intro e
      have := congrArg (fun b : ByteArray => b.data.toList) e
      simpa using this
    · rintro rfl; rfl
  by_cases hR0 : R = 0
  · have hf : fracV R = [] := by unfold fracV; rw [if_pos hR0]
    rw [hf, List.append_nil, List.append_assoc]
    have c1 := cutV_at [ld] (Lib.itoa X) 112 (by simp; exact fun e => (not_letter l3).1 e.symm)
    have c2 := cutV_not [ld] 46 (by simp; exact fun e => (not_letter l3).2 e.symm)
    unfold numR
    rw [show ([ld] ++ ([112] ++ Lib.itoa X)) = [ld] ++ 112 :: Lib.itoa X from rfl, c1]
    simp only
    rw [hA, c2]
    simp only
    rw [if_pos ⟨trivial, by decide, hX1, hX2⟩]
    have hz : hexV 0 (48 :: ({ data := #[] } : ByteArray).data.toList ++ Lib.repeatL [48] (13 - ({ data := #[] } : ByteArray).size)) = some 0 := by decide
    rw [hz]
    simp only
    simp only [hdig]
    rw [← hval, hR0]
  · obtain ⟨T, hT, hTl, hTh, hTv⟩ := frac_parts R hR hR0
    rw [hT]
    have c1 := cutV_at ([ld] ++ 46 :: T) (Lib.itoa X) 112 (by
      intro m
      rcases List.mem_append.1 m with m | m
      · exact (not_letter l3).1 (List.mem_singleton.1 m).symm
      · rcases List.mem_cons.1 m with m | m
        · revert m; decide
        · exact (not_letter (hTh _ m)).1 rfl)
    have c2 := cutV_at [ld] T 46 (by simp; exact fun e => (not_letter l3).2 e.symm)
    unfold numR
    rw [show ([ld] ++ 46 :: T ++ [112] ++ Lib.itoa X) = ([ld] ++ 46 :: T) ++ 112 :: Lib.itoa X by simp, c1]
    simp only
    rw [hA, c2]
    simp only
    have hTs : ({ data := T.toArray } : ByteArray).size = T.length := by show T.toArray.size = _; simp
    rw [if_pos ⟨trivial, by rw [hTs]; exact hTl, hX1, hX2⟩, hTs, hTv]
    simp only
    simp only [hdig]
    rw [hval]

/-- the text's own part, without a sign -/
def coreV (r : Nat) : List UInt8 := if r = 9218868437227405312 then [105, 110, 102] else if r = 0 then [48] else bodyV (r / 4503599627370496) (r % 4503599627370496)

theorem core_base (r : Nat) (h : r ≤ 9218868437227405312) : baseV (coreV r) = some r ∧ (∃ c q, coreV r = c :: q ∧ (c = 105 ∨ c = 48)) := by
  unfold coreV
  by_cases h1 : r = 9218868437227405312
  · rw [if_pos h1, h1]
    exact ⟨rfl, _, _, rfl, .inl rfl⟩
  · rw [if_neg h1]
    by_cases h2 : r = 0
    · rw [if_pos h2, h2]
      exact ⟨rfl, _, _, rfl, .inr rfl⟩
    · rw [if_neg h2]
      have hn := num_back (r / 4503599627370496) (r % 4503599627370496) (by omega) (Nat.mod_lt _ (by omega))
      have hsum : r / 4503599627370496 * 4503599627370496 + r % 4503599627370496 = r := by omega
      rw [hsum] at hn
      generalize r / 4503599627370496 = E at *
      generalize r % 4503599627370496 = R at *
      obtain ⟨t, ht⟩ : ∃ t, t = (if E = 0 then [48] else [49]) ++ fracV R ++ [112] ++ Lib.itoa ((if E = 0 then 1 else (E : Int)) - 1023) := ⟨_, rfl⟩
      rw [← ht] at hn
      have hb : bodyV E R = 48 :: 120 :: t := by
        rw [ht]
        unfold bodyV
        by_cases hE : E = 0
        · simp [hE]
        · simp [hE]
      rw [hb]
      refine ⟨?_, _, _, rfl, .inr rfl⟩
      unfold baseV
      rw [if_neg (by simp), if_neg (by simp)]
      have hp : Lib.hasPrefix (48 :: 120 :: t) [48, 120] = true := by simp [Lib.hasPrefix]
      rw [if_pos hp]
      unfold Lib.trimPrefix
      rw [if_pos hp]
      exact hn

theorem text_core (a : Nat) (hn : FP.isNaN a = false) : textV a = sgnV a ++ coreV (FP.rung a) := by
  unfold textV coreV
  rw [hn, if_neg (by simp)]

/-- THERE AND BACK -/
theorem parse_text (a : Nat) (h : W64 a) : parseV (textV a) = some (if FP.isNaN a then 9221120237041090560 else a) := by
  cases hn : FP.isNaN a
  · have hr : FP.rung a ≤ 9218868437227405312 := by
      unfold FP.isNaN at hn
      simpa using hn
    obtain ⟨hb, c, q, hc, hc2⟩ := core_base (FP.rung a) hr
    have ht := text_core a hn
    unfold parseV
    have hcand : candV (textV a) = some a := by
      rw [ht]
      unfold candV sgnV
      rcases parts_of h with ⟨hs, ha⟩ | ⟨hs, ha⟩
      · rw [hs]
        simp only [if_true]
        have hp : Lib.hasPrefix ([45] ++ coreV (FP.rung a)) [45] = true := by simp [Lib.hasPrefix]
        unfold Lib.trimPrefix
        rw [if_pos hp, show List.drop ([45] : List UInt8).length ([45] ++ coreV (FP.rung a)) = coreV (FP.rung a) from rfl, hb, hp, Option.map_some, if_pos rfl]
        congr 1; omega
      · rw [hs]
        simp only [Bool.false_eq_true, if_false, List.nil_append]
        have hp : Lib.hasPrefix (coreV (FP.rung a)) [45] = false := by
          rw [hc]
          rcases hc2 with rfl | rfl <;> rfl
        unfold Lib.trimPrefix
        rw [hp, if_neg (by simp), hb, Option.map_some, if_neg (by simp)]
        congr 1; exact ha.symm
    rw [if_neg ?_, hcand]
    · simp
    · rw [ht]
      unfold sgnV
      rw [hc]
      split
      · simp
      · rcases hc2 with rfl | rfl <;> simp
  · unfold textV parseV
    rw [hn, if_pos rfl, if_pos rfl]
    rfl

theorem num_lt' {l : List UInt8} {a : Nat} (h : candV l = some a) : W64 a := by
  unfold candV at h
  obtain ⟨b, hb, rfl⟩ := Option.map_eq_some_iff.1 h
  have := base_lt hb
  unfold W64
  split <;> omega

/-- what is parsed is the text of what comes of it -/
theorem parse_out {l : List UInt8} {a : Nat} (h : parseV l = some a) : textV a = l ∧ W64 a := by
  unfold parseV at h
  split at h
  · rename_i hl
    cases h
    rw [hl]
    exact ⟨by decide, by unfold W64; omega⟩
  · split at h
    · cases h
    · rename_i b hb
      split at h
      · rename_i ht
        cases h
        exact ⟨ht, num_lt' hb⟩
      · cases h

theorem text_len (a : Nat) : (textV a).length ≤ 30 := by
  unfold textV sgnV
  split
  · simp
  · rw [List.length_append]
    have h1 : (if FP.neg a then [45] else [] : List UInt8).length ≤ 1 := by split <;> simp
    have h2 : (if FP.rung a = 9218868437227405312 then [105, 110, 102] else if FP.rung a = 0 then [48] else bodyV (FP.rung a / 4503599627370496) (FP.rung a % 4503599627370496)).length ≤ 29 := by
      split
      · simp
      · split
        · simp
        · unfold bodyV
          have h3 : (fracV (FP.rung a % 4503599627370496)).length ≤ 14 := by
            by_cases hR : FP.rung a % 4503599627370496 = 0
            · unfold fracV; rw [if_pos hR]; simp
            · obtain ⟨T, hT, hl, _⟩ := frac_parts _ (Nat.mod_lt _ (by omega)) hR
              rw [hT]; simp; omega
          have hE : FP.rung a / 4503599627370496 ≤ 2047 := by unfold FP.rung; omega
          have h4 := itoa_len ((if FP.rung a / 4503599627370496 = 0 then 1 else ((FP.rung a / 4503599627370496 : Nat) : Int)) - 1023) (by split <;> omega) (by split <;> omega)
          have h5 : (if FP.rung a / 4503599627370496 = 0 then [48, 120, 48] else [48, 120, 49] : List UInt8).length = 3 := by split <;> rfl
          simp only [List.length_append, List.length_cons, List.length_nil]
          omega
    omega
end Go.Proofs.YtcjellbnildpfaaDoor
