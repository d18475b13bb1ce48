/-
  Plain law: the reference reads every text as the program does. No condition.
-/
import Derived.Test.YtcjellbnildpfaaDoorL4
namespace Go.Proofs.YtcjellbnildpfaaDoor
open Go.RowKit

theorem refB_core (r : Nat) (h : r ≤ 9218868437227405312) (hl : (coreV r).length ≤ 30) : refB (coreV r) = some r := by
  unfold coreV at hl ⊢
  by_cases h1 : r = 9218868437227405312
  · rw [if_pos h1, h1]; rfl
  · rw [if_neg h1] at hl ⊢
    by_cases h2 : r = 0
    · rw [if_pos h2, h2]; rfl
    · rw [if_neg h2] at hl ⊢
      obtain ⟨b1, b2, b3, b4, b5⟩ := hexR_body (r / 4503599627370496) (r % 4503599627370496) (by omega) (Nat.mod_lt _ (by omega))
      have hsum : r / 4503599627370496 * 4503599627370496 + r % 4503599627370496 = r := by omega
      rw [hsum] at b1
      unfold refB
      rw [if_neg b4, if_neg b5, if_pos ⟨b2, by omega, b3⟩]
      exact b1

theorem ref_text (s : ByteArray) (a : Nat) (h : W64 a) (hn : FP.isNaN a = false) (hl : s.data.toList = textV a) : refV s = some a := by
  have hr : FP.rung a ≤ 9218868437227405312 := by
    unfold FP.isNaN at hn
    simpa using hn
  obtain ⟨_, c, q, hc, hc2⟩ := core_base (FP.rung a) hr
  have ht := text_core a hn
  have hlen := text_len a
  rw [ht, List.length_append] at hlen
  have hB := refB_core (FP.rung a) hr (by omega)
  unfold refV
  rw [hl]
  have hck : ∀ sg b, sg + b = a → chk s sg (some b) = some a := by
    rintro sg b rfl
    show (if textV (sg + b) = s.data.toList then some (sg + b) else none) = _
    rw [if_pos hl.symm]
  rw [if_neg (by
    rw [ht]
    unfold sgnV
    rw [hc]
    split
    · simp
    · rcases hc2 with rfl | rfl <;> simp)]
  rw [ht]
  unfold sgnV
  rcases parts_of h with ⟨hs, ha⟩ | ⟨hs, ha⟩
  · rw [hs]
    simp only [if_true]
    rw [if_pos (show (([45] : List UInt8) ++ coreV (FP.rung a)).head? = some 45 from rfl), show List.drop 1 (([45] : List UInt8) ++ coreV (FP.rung a)) = coreV (FP.rung a) from rfl, hB]
    exact hck _ _ ha.symm
  · rw [hs]
    simp only [Bool.false_eq_true, if_false, List.nil_append]
    rw [if_neg (by rw [hc]; rcases hc2 with rfl | rfl <;> simp), hB]
    exact hck _ _ (by rw [Nat.zero_add]; exact ha.symm)

theorem text_nan_is (a : Nat) (h : FP.isNaN a = true) : textV a = [110, 97, 110] := by unfold textV; rw [if_pos h]

/-- a number and its word of 64 bits have the same text -/
theorem text_word (c : Nat) : ∃ c', W64 c' ∧ textV c' = textV c ∧ FP.isNaN c' = FP.isNaN c := by
  refine ⟨(if FP.neg c then 9223372036854775808 else 0) + FP.rung c, ?_, ?_, ?_⟩
  · have : FP.rung c < 9223372036854775808 := Nat.mod_lt _ (by omega)
    unfold W64
    split <;> omega
  all_goals
    have hr : FP.rung ((if FP.neg c then 9223372036854775808 else 0) + FP.rung c) = FP.rung c := by
      unfold FP.rung
      split <;> omega
    have hn : FP.neg ((if FP.neg c then 9223372036854775808 else 0) + FP.rung c) = FP.neg c := by
      have hlt : FP.rung c < 9223372036854775808 := Nat.mod_lt _ (by omega)
      cases hq : FP.neg c
      · unfold FP.neg; simp; omega
      · unfold FP.neg; simp
  · unfold textV sgnV
    have : FP.isNaN ((if FP.neg c then 9223372036854775808 else 0) + FP.rung c) = FP.isNaN c := by unfold FP.isNaN; rw [hr]
    rw [this, hr, hn]
  · unfold FP.isNaN; rw [hr]

theorem chk_text {s : ByteArray} {sg : Nat} {o : Option Nat} {c : Nat} (h : chk s sg o = some c) : textV c = s.data.toList := by
  unfold chk at h
  split at h
  · cases h
  · split at h
    · rename_i ht
      cases h
      exact ht
    · cases h

/-- BOTH READ ALIKE -/
theorem ref_same (s : ByteArray) : refV s = parseV s.data.toList := by
  by_cases hl : s.data.toList = [110, 97, 110]
  · unfold refV parseV
    rw [if_pos hl, if_pos hl]
  · by_cases hx : ∃ a, W64 a ∧ FP.isNaN a = false ∧ s.data.toList = textV a
    · obtain ⟨a, h, hn, ht⟩ := hx
      rw [ref_text s a h hn ht, ht, parse_text a h, hn, if_neg (by simp)]
    · have h1 : parseV s.data.toList = none := by
        cases hp : parseV s.data.toList with
        | none => rfl
        | some c =>
          obtain ⟨ht, hw⟩ := parse_out hp
          cases hn : FP.isNaN c
          · exact absurd ⟨c, hw, hn, ht.symm⟩ hx
          · exact absurd (ht.symm.trans (text_nan_is c hn)) hl
      have h2 : refV s = none := by
        cases hp : refV s with
        | none => rfl
        | some c =>
          have ht : textV c = s.data.toList := by
            unfold refV at hp
            rw [if_neg hl] at hp
            split at hp
            · exact chk_text hp
            · exact chk_text hp
          obtain ⟨c', hw, ht', hn'⟩ := text_word c
          cases hn : FP.isNaN c
          · exact absurd ⟨c', hw, hn'.trans hn, ht.symm.trans ht'.symm⟩ hx
          · exact absurd (ht.symm.trans (text_nan_is c hn)) hl
      rw [h1, h2]
end Go.Proofs.YtcjellbnildpfaaDoor
