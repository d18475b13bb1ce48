/-
  The time's New, where it refuses. Conditions: the windows lie in memory.
-/
import Derived.Test.YthfkbenkladonaaT8
namespace Go.Proofs.Ythfkbenkladonaa
open Go.RowKit

theorem winErr_good {M : Int} (ws : List Sc.Win) : ∀ e, winErr M e ws = 0 →
    (∀ i, i < ws.length → 0 ≤ (ws.getD i default).s ∧ 1 ≤ (ws.getD i default).l ∧ (ws.getD i default).s + (ws.getD i default).l ≤ M) ∧
    (0 < ws.length → e ≤ (ws.getD 0 default).s) ∧ (∀ i, i + 1 < ws.length → (ws.getD i default).s + (ws.getD i default).l ≤ (ws.getD (i + 1) default).s) := by
  induction ws with
  | nil => intro e _; exact ⟨fun i hi => by simp at hi, fun h => by simp at h, fun i hi => by simp at hi⟩
  | cons x r ih =>
    intro e he
    rw [winErr] at he
    split at he
    · omega
    · rename_i h1
      split at he
      · omega
      · rename_i h2
        obtain ⟨a, b, c⟩ := ih _ he
        refine ⟨fun i hi => ?_, fun _ => by simp only [List.getD_cons_zero]; omega, fun i hi => ?_⟩
        · cases i with
          | zero => simp only [List.getD_cons_zero]; omega
          | succ i => simpa using a i (by simpa using hi)
        · cases i with
          | zero => simpa using b (by simpa using hi)
          | succ i => simpa using c i (by simpa using hi)

theorem good_of {M G : Int} {ws : List Sc.Win} (h1 : 1 ≤ M) (h2 : M ≤ 16777216) (h3 : 0 ≤ G) (h4 : G ≤ 16777216) (hn : ws.length ≤ 32) (he : winErr M 0 ws = 0) : Sc.Good M G ws := by
  obtain ⟨a, b, c⟩ := winErr_good ws 0 he
  exact ⟨h1, h2, h3, h4, hn, a, c⟩

/-- a time at its begin -/
def St.init : St := { now := 0, armed := false, at' := 0, pend := 0, inside := false, window := 0, major := 0, last := 0 }

/-- all that a time has of its own lies behind a place -/
def Ids.above (x : Ids) (n : Nat) (B : Nat) : Prop := B ≤ x.sb ∧ B ≤ x.cb ∧ B ≤ x.lb ∧ B ≤ x.pb ∧ (0 < n → B ≤ x.wb)

set_option maxHeartbeats 1000000 in
theorem new_bad (f M G s l d : Int) (P : Value) (A : Option Addr) (cap : Nat) (C : Value) (ws : List Sc.Win) (w : World) (h : WinsAt w A ws) (he : planErr M G ws ≠ 0) :
    Calls Try.prog 8 #[cfgV f M G s l d P A ws.length cap C] w fun e w' => e = .returned (.tuple #[.pointer none, .int .i64 (planErr M G ws)]) ∧ Upd [] w w' := by
  have HP : ∀ W, Upd [] w W → Calls Try.prog 23 #[cfgV f M G s l d P A ws.length cap C] W fun e w' => e = .returned (.tuple #[.pointer none, .int .i64 (planErr M G ws)]) ∧ Upd [] W w' := by
    intro W u
    have hW := h.upd u (fun _ _ _ => by simp)
    unfold planErr at he ⊢
    by_cases hb : M < 1 ∨ 16777216 < M ∨ G < 0 ∨ 16777216 < G
    · rw [if_pos hb]; exact plannew_bad f M G s l d P A _ cap C W hb
    · rw [if_neg hb] at he ⊢
      by_cases hl : 32 < ws.length
      · rw [if_pos hl]; exact plannew_long f M G s l d P A _ cap C W (by omega) (by omega) (by omega) (by omega) hl
      · rw [if_neg hl] at he ⊢
        exact plannew_err f M G s l d P A cap C ws W hW (by omega) (by omega) (by omega) (by omega) (by omega) he
  have HPH := Lib.hid HP
  have he0 : (planErr M G ws == 0) = false := by simpa using he
  have he1 : (planErr M G ws != 0) = true := by simpa using he
  clear HP h he
  generalize planErr M G ws = E at *
  unfold cfgV at HPH ⊢
  go_enter Try.func8, Try.ntmps8
  go_wp2_with fail
  refine (HPH.out _ ((Upd.refl _ _).alloc _)).mono ?_
  rintro e w1 ⟨rfl, hu⟩
  have HU := Lib.hid hu
  clear hu
  go_wp2_with fail
  go_ret2
  exact ⟨rfl, ((Upd.refl [] w).alloc _).trans HU.out⟩
end Go.Proofs.Ythfkbenkladonaa
