/-
  Entering, spending and leaving in terms of the schedule. Conditions: the place is one of the schedule.
-/
import Derived.Test.YthfkbenkladonaaT13
namespace Go.Proofs.Ythfkbenkladonaa
open Go.RowKit

/-- where the owner of a window may begin -/
def beginAt (M : Int) (ws : List Sc.Win) (k : Int) (i : Nat) : Int := k * M + (ws.getD i default).s + min 40 (ws.getD i default).l
/-- its budget -/
def budgetOf (G : Int) (ws : List Sc.Win) (i : Nat) : Int := max 0 ((ws.getD i default).l - 40 - G)
/-- a window's end -/
def endAt (M : Int) (ws : List Sc.Win) (k : Int) (i : Nat) : Int := k * M + (ws.getD i default).s + (ws.getD i default).l

/-- in a window, so much of it being used -/
def St.inWin (M G : Int) (ws : List Sc.Win) (k : Int) (i : Nat) (last used : Int) : St :=
  ⟨beginAt M ws k i + used, true, beginAt M ws k i + budgetOf G ws i, if budgetOf G ws i ≤ used then 1 else 0, true, i, k, last⟩

/-- what may be used of it -/
def UsedOk (ws : List Sc.Win) (i : Nat) (used : Int) : Prop := 0 ≤ used ∧ (used = 0 ∨ used ≤ (ws.getD i default).l - 40)

theorem inWin_may (M G : Int) (ws : List Sc.Win) (k : Int) (i : Nat) (last used : Int) : (St.inWin M G ws k i last used).may = decide (used < budgetOf G ws i) := by
  unfold St.may St.inWin
  by_cases h : budgetOf G ws i ≤ used
  · simp [h]
  · simp [h]; omega

theorem enter_inWin (M G : Int) (ws : List Sc.Win) (k : Int) (i : Nat) (s : St) : s.enter ws M G k i = St.inWin M G ws k i s.last 0 := by
  unfold St.enter St.inWin beginAt budgetOf
  simp

theorem spend_inWin (M G : Int) (ws : List Sc.Win) (k : Int) (i : Nat) (last used n : Int) (hu : used < budgetOf G ws i) :
    St.ticked { St.inWin M G ws k i last used with now := (St.inWin M G ws k i last used).now + n } = St.inWin M G ws k i last (used + n) := by
  unfold St.ticked St.inWin
  simp only [true_and]
  have e : beginAt M ws k i + used + n = beginAt M ws k i + (used + n) := by omega
  rw [e]
  by_cases h : budgetOf G ws i ≤ used + n
  · rw [if_pos (by omega), if_pos h]
  · rw [if_neg (by omega), if_neg h, if_neg (by omega)]

theorem used_step {G : Int} {ws : List Sc.Win} {i : Nat} {used n : Int} (h : UsedOk ws i used) (hu : used < budgetOf G ws i) (h0 : 0 ≤ n) (h1 : n ≤ G) : UsedOk ws i (used + n) := by
  unfold UsedOk budgetOf at *
  omega

theorem inWin_now_le {M G : Int} {ws : List Sc.Win} (hg : Sc.Good M G ws) {k : Int} {i : Nat} (hi : i < ws.length) {last used : Int} (h : UsedOk ws i used) :
    (St.inWin M G ws k i last used).now ≤ endAt M ws k i := by
  have hw := hg.w i hi
  unfold UsedOk at h
  simp only [St.inWin, beginAt, endAt]
  omega

/-- a place in the schedule that a run comes to -/
structure Place (M G : Int) (ws : List Sc.Win) (k : Int) (i : Nat) : Prop where
  good : Sc.Good M G ws
  hi : i < ws.length
  hk : 0 ≤ k
  hkM : 0 ≤ k * M
  hend : endAt M ws k i ≤ 281474976710656

theorem Place.of {M G : Int} {ws : List Sc.Win} (hg : Sc.Good M G ws) (hn : 0 < ws.length) (k : Nat) (hk : k ≤ 1000) : Place M G ws ((k / ws.length : Nat) : Int) (k % ws.length) := by
  have hi := Nat.mod_lt k hn
  have hw := hg.w _ hi
  have h1 := hg.m1
  have h2 := hg.m2
  have hq : k / ws.length ≤ 1000 := Nat.le_trans (Nat.div_le_self _ _) hk
  have hkM : 0 ≤ ((k / ws.length : Nat) : Int) * M := Int.mul_nonneg (Int.natCast_nonneg _) (by omega)
  have hkM2 : ((k / ws.length : Nat) : Int) * M ≤ 1000 * 16777216 := Int.mul_le_mul (Int.ofNat_le.2 hq) h2 (by omega) (by omega)
  exact ⟨hg, hi, Int.natCast_nonneg _, hkM, by unfold endAt; omega⟩

theorem nowAt_next (M : Int) (ws : List Sc.Win) (k : Nat) : Sc.nowAt M ws (k + 1) = endAt M ws ((k / ws.length : Nat) : Int) (k % ws.length) := by
  rw [Sc.nowAt, endAt]; omega

theorem nowAt_le {M G : Int} {ws : List Sc.Win} (hg : Sc.Good M G ws) (hn : 0 < ws.length) (k : Nat) :
    0 ≤ Sc.nowAt M ws k ∧ Sc.nowAt M ws k ≤ ((k / ws.length : Nat) : Int) * M + (ws.getD (k % ws.length) default).s := by
  have hm := hg.m1
  cases k with
  | zero =>
    have := (hg.w 0 hn).1
    simp [Sc.nowAt]
    exact this
  | succ j =>
    have hi := Nat.mod_lt j hn
    have hw := hg.w _ hi
    have hd := Sc.div_succ j ws.length hn
    have hjM : 0 ≤ ((j / ws.length : Nat) : Int) * M := Int.mul_nonneg (Int.natCast_nonneg _) (by omega)
    refine ⟨by rw [Sc.nowAt]; omega, ?_⟩
    split at hd <;> rename_i hc
    · have h1 := congrArg Prod.fst hd; have h2 := congrArg Prod.snd hd
      simp only at h1 h2
      rw [← h1, ← h2, Sc.nowAt]
      have := hg.ord _ hc
      omega
    · have h1 := congrArg Prod.fst hd; have h2 := congrArg Prod.snd hd
      simp only at h1 h2
      rw [← h1, ← h2, Sc.nowAt]
      have := (hg.w 0 hn).1
      have e : ((j / ws.length + 1 : Nat) : Int) * M = ((j / ws.length : Nat) : Int) * M + M := by
        push_cast; rw [Int.add_mul, Int.one_mul]
      rw [e]
      omega

/-- ENTERING, in the k-th round -/
theorem enter_round (x : Ids) (M G : Int) (ws : List Sc.Win) (w : World) (k : Nat) (hg : Sc.Good M G ws) (hn : 0 < ws.length) (hk : k ≤ 1000) (h : SchedAt w x M G ws (St.leave (Sc.nowAt M ws k))) :
    Calls Try.prog 9 #[.pointer (some ⟨x.sb, 0, none⟩)] w fun e w' => e = .returned (.tuple #[.int .i64 ((k % ws.length : Nat) : Int), .int .i64 ((k / ws.length : Nat) : Int), .int .i64 0]) ∧
      SchedAt w' x M G ws (St.inWin M G ws ((k / ws.length : Nat) : Int) (k % ws.length) (Sc.nowAt M ws k) 0) ∧ Upd x.own w w' := by
  have hp := Place.of hg hn k hk
  obtain ⟨n0, n1⟩ := nowAt_le hg hn k
  have hw := hg.w _ hp.hi
  have he := hp.hend
  unfold endAt at he
  have := enter_ok x M G ws (St.leave (Sc.nowAt M ws k)) w h hg hn rfl rfl n0 (by simp only [St.leave]; omega) ((k / ws.length : Nat) : Int) (k % ws.length) (Sc.next_round hg hn k) hp.hi hp.hk hp.hkM he n1
  rw [enter_inWin] at this
  exact this

/-- LEAVING -/
theorem leave_win (x : Ids) (M G : Int) (ws : List Sc.Win) (w : World) (k : Int) (i : Nat) (last used : Int) (hp : Place M G ws k i) (hu : UsedOk ws i used) (h : SchedAt w x M G ws (St.inWin M G ws k i last used)) :
    Calls Try.prog 14 #[.pointer (some ⟨x.sb, 0, none⟩)] w fun e w' => e = .returned (.tuple #[.int .i64 (endAt M ws k i), .int .i64 0]) ∧ SchedAt w' x M G ws (St.leave (endAt M ws k i)) ∧ Upd x.own w w' := by
  have hw := hp.good.w i hp.hi
  have hk := hp.hkM
  have h0 : 0 ≤ (St.inWin M G ws k i last used).now := by
    unfold UsedOk at hu
    simp only [St.inWin, beginAt]; omega
  exact leave_ok x M G ws _ w h hp.good rfl h0 k i hp.hi rfl rfl hp.hk hp.hkM hp.hend (inWin_now_le hp.good hp.hi hu)

/-- SPENDING, of what the owner may -/
theorem spend_win (x : Ids) (M G : Int) (ws : List Sc.Win) (w : World) (k : Int) (i : Nat) (last used n : Int) (hp : Place M G ws k i) (hu : UsedOk ws i used) (hm : used < budgetOf G ws i) (h0 : 0 ≤ n) (h1 : n ≤ G)
    (h : SchedAt w x M G ws (St.inWin M G ws k i last used)) :
    Calls Try.prog 12 #[.pointer (some ⟨x.sb, 0, none⟩), .int .i64 n] w fun e w' => e = .returned (.int .i64 0) ∧ SchedAt w' x M G ws (St.inWin M G ws k i last (used + n)) ∧ UsedOk ws i (used + n) ∧ Upd x.own w w' := by
  have hw := hp.good.w i hp.hi
  have hk := hp.hkM
  have hst := used_step hu hm h0 h1
  have hle := @inWin_now_le M G ws hp.good k i hp.hi last (used + n) hst
  have hend := hp.hend
  have h2 : 0 ≤ (St.inWin M G ws k i last used).now := by
    unfold UsedOk at hu
    simp only [St.inWin, beginAt]; omega
  have h3 : n ≤ 281474976710656 - (St.inWin M G ws k i last used).now := by
    simp only [St.inWin] at hle ⊢; omega
  refine (spend_ok x M G n ws _ w h (by rw [inWin_may]; simpa using hm) h0 h1 rfl h2 h3).mono ?_
  rintro e w' ⟨he, hs, hu'⟩
  rw [spend_inWin _ _ _ _ _ _ _ _ hm] at hs
  exact ⟨he, hs, hst, hu'⟩

/-- SPENDING, whether the owner may or not -/
theorem spend_any (x : Ids) (M G : Int) (ws : List Sc.Win) (w : World) (k : Int) (i : Nat) (last used n : Int) (hp : Place M G ws k i) (hu : UsedOk ws i used) (h0 : 0 ≤ n) (h1 : n ≤ G)
    (h : SchedAt w x M G ws (St.inWin M G ws k i last used)) :
    Calls Try.prog 12 #[.pointer (some ⟨x.sb, 0, none⟩), .int .i64 n] w fun e w' => e = .returned (.int .i64 (if used < budgetOf G ws i then 0 else 8)) ∧
      SchedAt w' x M G ws (St.inWin M G ws k i last (if used < budgetOf G ws i then used + n else used)) ∧ UsedOk ws i (if used < budgetOf G ws i then used + n else used) ∧ Upd x.own w w' := by
  by_cases hm : used < budgetOf G ws i
  · rw [if_pos hm, if_pos hm]
    exact spend_win x M G ws w k i last used n hp hu hm h0 h1 h
  · rw [if_neg hm, if_neg hm]
    refine (spend_state x M G n ws _ w h (by rw [inWin_may]; simpa using hm)).mono ?_
    rintro e w' ⟨he, n', rfl⟩
    exact ⟨he, h.drewN n', hu, (Upd.refl _ _).drewN n'⟩

/-- may the owner? -/
theorem may_win (x : Ids) (M G : Int) (ws : List Sc.Win) (w : World) (k : Int) (i : Nat) (last used : Int) (h : SchedAt w x M G ws (St.inWin M G ws k i last used)) :
    Calls Try.prog 11 #[.pointer (some ⟨x.sb, 0, none⟩)] w fun e w' => e = .returned (.bool (decide (used < budgetOf G ws i))) ∧ ∃ n, w' = w.drewN n := by
  have := may_any x M G ws _ w h
  have e := inWin_may M G ws k i last used
  unfold St.may at e
  rw [e] at this
  exact this
end Go.Proofs.Ythfkbenkladonaa
