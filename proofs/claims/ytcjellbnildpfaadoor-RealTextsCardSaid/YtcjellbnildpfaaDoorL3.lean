/-
  Plain facts: the letters that the reference's Text writes one by one are the trimmed digits. Conditions: as each states.
-/
import Derived.Test.YtcjellbnildpfaaDoorL2
namespace Go.Proofs.YtcjellbnildpfaaDoor
open Go.RowKit

/-- the letters of a fraction, one by one, till nothing is left -/
def frL : Nat → Nat → List UInt8
  | 0, _ => []
  | k + 1, f => if f = 0 then [] else dgB (f / 281474976710656) :: frL k (f * 16 % 4503599627370496)
/-- k digits of a number -/
def qL : Nat → Nat → List UInt8
  | 0, _ => []
  | k + 1, g => dgB (g / 16 ^ k) :: qL k (g % 16 ^ k)

theorem trim_cons (c : UInt8) (l : List UInt8) (h : c ≠ 48 ∨ Lib.trimRightB l 48 ≠ []) : Lib.trimRightB (c :: l) 48 = c :: Lib.trimRightB l 48 := by
  unfold Lib.trimRightB at h ⊢
  rw [List.reverse_cons, List.dropWhile_append]
  by_cases hd : (List.dropWhile (fun x => x == 48) l.reverse) = []
  · rw [hd] at h ⊢
    have hc : c ≠ 48 := by
      rcases h with h | h
      · exact h
      · simp at h
    rw [if_pos (by simp), List.dropWhile_cons, if_neg (by simpa using hc)]
    simp
  · rw [if_neg (by simpa using hd)]
    simp
theorem trim_zeros (k : Nat) : Lib.trimRightB (List.replicate k 48) 48 = [] := by
  unfold Lib.trimRightB
  rw [List.reverse_replicate]
  have : ∀ k, List.dropWhile (fun x => x == (48 : UInt8)) (List.replicate k 48) = [] := by
    intro k
    induction k with
    | zero => rfl
    | succ k ih => rw [List.replicate_succ, List.dropWhile_cons, if_pos (by decide), ih]
  rw [this]; rfl
theorem qL_zero (k : Nat) : qL k 0 = List.replicate k 48 := by
  induction k with
  | zero => rfl
  | succ k ih =>
    unfold qL
    rw [Nat.zero_div, Nat.zero_mod, ih, List.replicate_succ]
    rfl
theorem dg_not48 (d : Nat) (h : d < 16) (h0 : d ≠ 0) : dgB d ≠ 48 := by
  have key : ∀ d : Fin 16, d.val ≠ 0 → dgB d.val ≠ 48 := by decide
  exact key ⟨d, h⟩ h0

theorem pow16 (j : Nat) (h : j ≤ 12) : 16 ^ j * 16 ^ (12 - j) = 281474976710656 ∧ 16 ^ j * 16 ^ (13 - j) = 4503599627370496 ∧ 16 ^ (12 - j) * 16 = 16 ^ (13 - j) := by
  refine ⟨?_, ?_, ?_⟩
  · rw [← Nat.pow_add, show j + (12 - j) = 12 by omega]
  · rw [← Nat.pow_add, show j + (13 - j) = 13 by omega]
  · rw [← Nat.pow_succ]; congr 1; omega

theorem frL_is (k : Nat) (hk : k ≤ 13) : ∀ g, g < 16 ^ k → frL k (g * 16 ^ (13 - k)) = Lib.trimRightB (qL k g) 48 := by
  induction k with
  | zero => intro g _; rfl
  | succ j ih =>
    intro g hg
    obtain ⟨p1, p2, p3⟩ := pow16 j (by omega)
    rw [show 13 - (j + 1) = 12 - j by omega]
    have hp : 0 < 16 ^ (12 - j) := Nat.pow_pos (by omega)
    have hpj : 0 < 16 ^ j := Nat.pow_pos (by omega)
    by_cases h0 : g = 0
    · subst h0
      rw [qL_zero, trim_zeros, Nat.zero_mul]
      rfl
    · unfold frL
      rw [if_neg (by intro q; rcases Nat.mul_eq_zero.1 q with q | q <;> omega)]
      have e1 : g * 16 ^ (12 - j) / 281474976710656 = g / 16 ^ j := by
        rw [← p1, Nat.mul_div_mul_right _ _ hp]
      have e2 : g * 16 ^ (12 - j) * 16 % 4503599627370496 = (g % 16 ^ j) * 16 ^ (13 - j) := by
        rw [Nat.mul_assoc, p3, ← p2, Nat.mul_mod_mul_right]
      rw [e1, e2, ih (by omega) _ (Nat.mod_lt _ hpj)]
      show _ = Lib.trimRightB (dgB (g / 16 ^ j) :: qL j (g % 16 ^ j)) 48
      rw [trim_cons]
      by_cases hm : g % 16 ^ j = 0
      · left
        apply dg_not48
        · rw [Nat.pow_succ, Nat.mul_comm] at hg
          exact (Nat.div_lt_iff_lt_mul hpj).2 hg
        · intro q
          have := Nat.div_add_mod g (16 ^ j)
          rw [q, hm] at this
          omega
      · right
        rw [← ih (by omega) _ (Nat.mod_lt _ hpj)]
        cases j with
        | zero => rw [Nat.pow_zero, Nat.mod_one] at hm; exact absurd rfl hm
        | succ i =>
          unfold frL
          rw [if_neg (by
            intro q
            have hp3 : 0 < 16 ^ (13 - (i + 1)) := Nat.pow_pos (by omega)
            rcases Nat.mul_eq_zero.1 q with q | q <;> omega)]
          simp

theorem qL_snoc (k : Nat) : ∀ g, qL (k + 1) g = qL k (g / 16) ++ [dgB (g % 16)] ∨ ¬ g < 16 ^ (k + 1) := by
  induction k with
  | zero =>
    intro g
    by_cases h : g < 16
    · left
      show [dgB (g / 16 ^ 0)] = [dgB (g % 16)]
      rw [Nat.pow_zero, Nat.div_one, Nat.mod_eq_of_lt h]
    · right; simpa using h
  | succ k ih =>
    intro g
    by_cases h : g < 16 ^ (k + 1 + 1)
    · left
      have hm : g % 16 ^ (k + 1) < 16 ^ (k + 1) := Nat.mod_lt _ (Nat.pow_pos (by omega))
      have h1 := (ih (g % 16 ^ (k + 1))).resolve_right (fun q => q hm)
      show dgB (g / 16 ^ (k + 1)) :: qL (k + 1) (g % 16 ^ (k + 1)) = (dgB (g / 16 / 16 ^ k) :: qL k (g / 16 % 16 ^ k)) ++ [dgB (g % 16)]
      rw [h1, Nat.div_div_eq_div_mul, show 16 * 16 ^ k = 16 ^ (k + 1) by rw [Nat.pow_succ, Nat.mul_comm]]
      have e1 : g % 16 ^ (k + 1) / 16 = g / 16 % 16 ^ k := by
        rw [Nat.pow_succ, Nat.mul_comm, Nat.mod_mul_right_div_self]
      have e2 : g % 16 ^ (k + 1) % 16 = g % 16 := by
        rw [Nat.pow_succ, Nat.mod_mul_left_mod]
      rw [e1, e2]
      rfl
    · right; exact h

theorem qL_hexD (k : Nat) : ∀ g, g < 16 ^ (k + 1) → qL (k + 1) g = List.replicate (k + 1 - (hexD g).length) 48 ++ hexD g := by
  induction k with
  | zero =>
    intro g h
    have hg : g < 16 := by simpa using h
    rw [hexD_small hg]
    show [dgB (g / 16 ^ 0)] = _
    rw [Nat.pow_zero, Nat.div_one]
    rfl
  | succ k ih =>
    intro g h
    rw [(qL_snoc (k + 1) g).resolve_right (fun q => q h)]
    by_cases hg : g < 16
    · rw [hexD_small hg, Nat.div_eq_of_lt hg, qL_zero, Nat.mod_eq_of_lt hg]
      rfl
    · rw [hexD_great hg, ih (g / 16) (by rw [Nat.pow_succ] at h; omega)]
      rw [List.length_append, List.append_assoc]
      congr 2
      simp

theorem frac_letters (R : Nat) (h : R < 4503599627370496) (h0 : R ≠ 0) : fracV R = 46 :: frL 13 R := by
  unfold fracV
  rw [if_neg h0]
  have h1 := frL_is 13 (by omega) R h
  rw [show R * 16 ^ (13 - 13) = R by simp] at h1
  rw [h1, qL_hexD 12 R h, rep_is]
end Go.Proofs.YtcjellbnildpfaaDoor
