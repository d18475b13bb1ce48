/-
  Plain facts on the rounds of the schedule. Conditions: a good table.
-/
import Derived.Test.YthfkbenkladonaaPl1
namespace Go.Proofs.Ythfkbenkladonaa.Sc

theorem mul_add_mod_lt {n q r : Nat} (h : r < n) : (n * q + r) % n = r := by rw [Nat.mul_add_mod, Nat.mod_eq_of_lt h]

theorem div_succ (j n : Nat) (hn : 0 < n) : (if j % n + 1 < n then (j / n, j % n + 1) else (j / n + 1, 0)) = ((j + 1) / n, (j + 1) % n) := by
  obtain ⟨q, r, hr, rfl⟩ : ∃ q r, r < n ∧ j = n * q + r := ⟨j / n, j % n, Nat.mod_lt j hn, (Nat.div_add_mod j n).symm⟩
  rw [mul_add_mod_lt hr, show (n * q + r) / n = q by rw [Nat.mul_add_div hn, Nat.div_eq_of_lt hr, Nat.add_zero]]
  split
  · rename_i h
    rw [show n * q + r + 1 = n * q + (r + 1) by omega, mul_add_mod_lt h, Nat.mul_add_div hn, Nat.div_eq_of_lt h]; rfl
  · rename_i h
    rw [show n * q + r + 1 = n * (q + 1) by rw [Nat.mul_add]; omega, Nat.mul_mod_right, Nat.mul_div_cancel_left _ hn]

/-- the time at the head of round k -/
def nowAt (M : Int) (ws : List Win) : Nat → Int
  | 0 => 0
  | k + 1 => ((k / ws.length : Nat) : Int) * M + ((ws.getD (k % ws.length) default).s + (ws.getD (k % ws.length) default).l)

theorem next_round {M G : Int} {ws : List Win} (h : Good M G ws) (hn : 0 < ws.length) (k : Nat) :
    next M ws (nowAt M ws k) = (((k / ws.length : Nat) : Int), k % ws.length) := by
  cases k with
  | zero =>
    rw [nowAt, next_zero h (by rintro rfl; simp at hn)]
    simp
  | succ j =>
    rw [nowAt, next_after h _ (Nat.mod_lt j hn)]
    have := div_succ j ws.length hn
    split at this <;> rename_i hc
    · rw [if_pos hc]
      have h1 := congrArg Prod.fst this; have h2 := congrArg Prod.snd this
      simp only at h1 h2
      rw [← h1, ← h2]
    · rw [if_neg hc]
      have h1 := congrArg Prod.fst this; have h2 := congrArg Prod.snd this
      simp only at h1 h2
      rw [← h1, ← h2]
      rfl

/-- the cycles of the first k windows, round and round -/
def tot (ws : List Win) : Nat → Int
  | 0 => 0
  | k + 1 => tot ws k + (ws.getD (k % ws.length) default).l

def allTo (ws : List Win) : Nat → Int
  | 0 => 0
  | k + 1 => allTo ws k + (ws.getD k default).l

theorem tot_part (ws : List Win) (q : Nat) : ∀ r, r ≤ ws.length → tot ws (ws.length * q + r) = tot ws (ws.length * q) + allTo ws r := by
  intro r
  induction r with
  | zero => intro _; simp [allTo]
  | succ r ih =>
    intro hr
    rw [show ws.length * q + (r + 1) = (ws.length * q + r) + 1 by omega, tot, ih (by omega), allTo, mul_add_mod_lt (by omega)]
    omega

theorem tot_rounds (ws : List Win) (q : Nat) : tot ws (ws.length * q) = q * allTo ws ws.length := by
  induction q with
  | zero => simp [tot]
  | succ q ih =>
    rw [Nat.mul_add, Nat.mul_one, tot_part ws q ws.length (Nat.le_refl _), ih]
    push_cast
    rw [Int.add_mul, Int.one_mul]
end Go.Proofs.Ythfkbenkladonaa.Sc
