/-
  The reference's Text of every float, and its number of every string. Conditions: a word of 64 bits.
-/
import Derived.Test.YtcjellbnildpfaaDoorW2
namespace Go.Proofs.YtcjellbnildpfaaDoor
open Go.RowKit

set_option maxRecDepth 100000 in
theorem rtext_nan (a r : Nat) (s : Bool) (w : World) (hA : bits .andNot .u64 (a : Int) 9223372036854775808 = (r : Int)) (hS : decide ((9223372036854775808 : Int) ≤ (a : Int)) = s) (g1 : decide ((9218868437227405312 : Int) < (r : Int)) = true) :
    Calls Tryd.prog 12 #[.int .u64 a] w fun e w' => e = .returned (.string ⟨#[110, 97, 110]⟩) ∧ Upd [] w w' := by
  cases s
  all_goals
    go_enter Tryd.func12, Tryd.ntmps12
    go_wp2_with fail
    go_ret
    exact ⟨rfl, Upd.refl _ _⟩
set_option maxRecDepth 100000 in
theorem rtext_inf (a : Nat) (s : Bool) (w : World) (hA : bits .andNot .u64 (a : Int) 9223372036854775808 = 9218868437227405312) (hS : decide ((9223372036854775808 : Int) ≤ (a : Int)) = s) :
    Calls Tryd.prog 12 #[.int .u64 a] w fun e w' => e = .returned (.string ⟨((if s then [45] else []) ++ [105, 110, 102] : List UInt8).toArray⟩) ∧ Upd [] w w' := by
  cases s
  all_goals
    go_enter Tryd.func12, Tryd.ntmps12
    go_wp2_with fail
    go_ret
    exact ⟨rfl, Upd.refl _ _⟩
set_option maxRecDepth 100000 in
theorem rtext_zero (a : Nat) (s : Bool) (w : World) (hA : bits .andNot .u64 (a : Int) 9223372036854775808 = 0) (hS : decide ((9223372036854775808 : Int) ≤ (a : Int)) = s) :
    Calls Tryd.prog 12 #[.int .u64 a] w fun e w' => e = .returned (.string ⟨((if s then [45] else []) ++ [48] : List UInt8).toArray⟩) ∧ Upd [] w w' := by
  cases s
  all_goals
    go_enter Tryd.func12, Tryd.ntmps12
    go_wp2_with fail
    go_ret
    exact ⟨rfl, Upd.refl _ _⟩

/-- the reference's text -/
theorem rtext_any (a : Nat) (w : World) (h : W64 a) :
    Calls Tryd.prog 12 #[.int .u64 a] w fun e w' => e = .returned (.string ⟨(textV a).toArray⟩) ∧ Upd [] w w' := by
  have hA : bits .andNot .u64 (a : Int) 9223372036854775808 = ((FP.rung a : Nat) : Int) := andNot_sign h
  have hS : decide ((9223372036854775808 : Int) ≤ (a : Int)) = FP.neg a := by unfold FP.neg; exact decide_eq_decide.2 (by omega)
  have hlt : FP.rung a < 9223372036854775808 := by unfold FP.rung; omega
  have hw : W64 (FP.rung a) := by unfold W64; omega
  have hrr : FP.rung (FP.rung a) = FP.rung a := by unfold FP.rung; omega
  have hR := and_frac hw
  rw [hrr] at hR
  cases hn : FP.isNaN a
  · rw [text_core a hn]
    have hr : FP.rung a ≤ 9218868437227405312 := by
      unfold FP.isNaN at hn
      simpa using hn
    unfold coreV sgnV
    generalize FP.rung a = r at *
    by_cases h1 : r = 9218868437227405312
    · subst h1
      rw [if_pos rfl]
      exact rtext_inf a _ w hA hS
    · rw [if_neg h1]
      by_cases h2 : r = 0
      · subst h2
        rw [if_pos rfl]
        exact rtext_zero a _ w hA hS
      · rw [if_neg h2]
        by_cases hE0 : r / 4503599627370496 = 0
        · have hE : (r : Int) / 4503599627370496 = 0 := by omega
          rw [hE0]
          exact rtext_sub a r _ _ w hA hS (by omega) h2 hE hR (Nat.mod_lt _ (by omega)) (by omega)
        · have hE : (r : Int) / 4503599627370496 = ((r / 4503599627370496 : Nat) : Int) := by omega
          by_cases hR0 : r % 4503599627370496 = 0
          · rw [hR0] at hR ⊢
            exact rtext_whole a r _ _ w hA hS (by omega) h2 hE hR (by omega) (by omega)
          · exact rtext_one a r _ _ _ w hA hS (by omega) h2 hE hR (by omega) (by omega) (Nat.mod_lt _ (by omega)) hR0
  · have ht : textV a = [110, 97, 110] := by unfold textV; rw [if_pos hn]
    rw [ht]
    exact rtext_nan a _ _ w hA hS (by unfold FP.isNaN at hn; exact decide_eq_true (by have := of_decide_eq_true hn; omega))

/-- decimal letters -/
def decV (acc : Nat) : List UInt8 → Option Nat
  | [] => some acc
  | c :: r => if 48 ≤ c.toNat ∧ c.toNat ≤ 57 then decV (acc * 10 + (c.toNat - 48)) r else none
/-- decimal letters with a sign, of a few -/
def nvR (l : List UInt8) : Option Int :=
  if l.head? = some 45 then (if l.length = 1 ∨ 6 < l.length then none else (decV 0 (l.drop 1)).map (fun n : Nat => -(n : Int)))
  else (if l.length = 0 ∨ 6 < l.length then none else (decV 0 l).map (fun n : Nat => (n : Int)))

theorem decV_take {acc : Nat} {l : List UInt8} {k : Nat} (hk : k < l.length) : decV acc (l.drop k) = if 48 ≤ (l[k]).toNat ∧ (l[k]).toNat ≤ 57 then decV (acc * 10 + ((l[k]).toNat - 48)) (l.drop (k + 1)) else none := by
  rw [List.drop_eq_getElem_cons hk, decV]

end Go.Proofs.YtcjellbnildpfaaDoor
