/-
  The two sides of the law SchedPlays, act by act: what each answers and leaves. Conditions: both lie in memory at one place of the schedule.
-/
import Derived.Test.YthfkbenkladonaaT31
namespace Go.Proofs.Ythfkbenkladonaa
open Go.RowKit
attribute [local go_sem] max2_max min2_min max_two min_two

theorem SchedAt.upd2 {S : List Nat} {w w' : World} {x : Ids} {M G : Int} {ws : List Sc.Win} {s : St} (h : SchedAt w x M G ws s) (u : Upd S w w') (hS : ∀ k, k ∈ S → k ≠ x.sb ∧ k ≠ x.cb ∧ k ≠ x.lb ∧ k ≠ x.pb ∧ (0 < ws.length → k ≠ x.wb)) : SchedAt w' x M G ws s := by
  obtain ⟨hsc, hcl, hpi, ⟨⟨A, cap, hb, hc, ha⟩, hcells, hsm⟩, hpe, n1, n2, n3⟩ := h
  refine ⟨u.blk hsc (fun hm => (hS _ hm).1 rfl), u.blk hcl (fun hm => (hS _ hm).2.1 rfl), u.blk hpi (fun hm => (hS _ hm).2.2.1 rfl), ⟨⟨A, cap, u.blk hb (fun hm => (hS _ hm).2.2.2.1 rfl), hc, ha⟩, fun i hi => ?_, hsm⟩, hpe, n1, n2, n3⟩
  obtain ⟨c0, c1, c2⟩ := hcells i hi
  have hlt := World.block_lt_of_cell? w _ c0
  have e : w'.heap[x.wb]? = w.heap[x.wb]? := u.block x.wb hlt (fun hm => (hS _ hm).2.2.2.2 (by omega) rfl)
  exact ⟨(World.cell?_of_block (w := w) e).trans c0, (World.cell?_of_block (w := w) e).trans c1, (World.cell?_of_block (w := w) e).trans c2⟩

theorem RefAt.upd2 {S : List Nat} {w w' : World} {rb pb wb : Nat} {M G : Int} {ws : List Sc.Win} {T W J U L : Int} (h : RefAt w rb pb wb M G ws T W J U L) (u : Upd S w w') (h0 : rb ∉ S) (h1 : pb ∉ S) (h2 : 0 < ws.length → wb ∉ S) : RefAt w' rb pb wb M G ws T W J U L := by
  obtain ⟨hb, ⟨A, cap, hp, hc, ha⟩, hcells, n1, n2⟩ := h
  refine ⟨u.blk hb h0, ⟨A, cap, u.blk hp h1, hc, ha⟩, fun i hi => ?_, n1, n2⟩
  obtain ⟨c0, c1, c2⟩ := hcells i hi
  have hlt := World.block_lt_of_cell? w _ c0
  have e : w'.heap[wb]? = w.heap[wb]? := u.block wb hlt (h2 (by omega))
  exact ⟨(World.cell?_of_block (w := w) e).trans c0, (World.cell?_of_block (w := w) e).trans c1, (World.cell?_of_block (w := w) e).trans c2⟩

/-- a place of the run: out after k rounds, or in the k-th with so much used -/
def psOf (M G : Int) (ws : List Sc.Win) (k : Nat) : Option Int → St
  | none => St.leave (Sc.nowAt M ws k)
  | some v => St.inWin M G ws ((k / ws.length : Nat) : Int) (k % ws.length) (Sc.nowAt M ws k) v

def RefSt (w : World) (rb pb wb : Nat) (M G : Int) (ws : List Sc.Win) (k : Nat) : Option Int → Prop
  | none => RefAt w rb pb wb M G ws (Sc.nowAt M ws k) (-1) (-1) 0 (Sc.nowAt M ws k)
  | some v => RefAt w rb pb wb M G ws (beginAt M ws ((k / ws.length : Nat) : Int) (k % ws.length) + v) ((k % ws.length : Nat) : Int) ((k / ws.length : Nat) : Int) v (Sc.nowAt M ws k)

theorem RefSt.upd2 {S : List Nat} {w w' : World} {rb pb wb : Nat} {M G : Int} {ws : List Sc.Win} {k : Nat} {u : Option Int} (h : RefSt w rb pb wb M G ws k u) (up : Upd S w w') (h0 : rb ∉ S) (h1 : pb ∉ S) (h2 : 0 < ws.length → wb ∉ S) : RefSt w' rb pb wb M G ws k u := by
  cases u with
  | none => exact RefAt.upd2 h up h0 h1 h2
  | some v => exact RefAt.upd2 h up h0 h1 h2

/-- the place is one of the schedule -/
structure Run (M G : Int) (ws : List Sc.Win) (k : Nat) (u : Option Int) : Prop where
  good : Sc.Good M G ws
  hk : k ≤ 300
  out : ws.length = 0 → k = 0 ∧ u = none
  used : ∀ v, u = some v → UsedOk ws (k % ws.length) v

theorem Run.pos {M G : Int} {ws : List Sc.Win} {k : Nat} {v : Int} (h : Run M G ws k (some v)) : 0 < ws.length := by
  by_cases hn : 0 < ws.length
  · exact hn
  · exact absurd (h.out (by omega)).2 (by simp)
theorem Run.place {M G : Int} {ws : List Sc.Win} {k : Nat} {u : Option Int} (h : Run M G ws k u) (hn : 0 < ws.length) : Place M G ws ((k / ws.length : Nat) : Int) (k % ws.length) :=
  Place.of h.good hn k (by have := h.hk; omega)

/-- may the owner? -/
def mayOf (G : Int) (ws : List Sc.Win) (k : Nat) : Option Int → Bool
  | none => false
  | some v => decide (v < budgetOf G ws (k % ws.length))

theorem p_may (x : Ids) (M G : Int) (ws : List Sc.Win) (w : World) (k : Nat) (u : Option Int) (h : SchedAt w x M G ws (psOf M G ws k u)) :
    Calls Try.prog 11 #[.pointer (some ⟨x.sb, 0, none⟩)] w fun e w' => e = .returned (.bool (mayOf G ws k u)) ∧ ∃ n, w' = w.drewN n := by
  cases u with
  | none => exact may_any x M G ws _ w h
  | some v => exact may_win x M G ws w _ _ _ v h

theorem r_may (rb pb wb : Nat) (M G : Int) (ws : List Sc.Win) (w : World) (k : Nat) (u : Option Int) (hr : Run M G ws k u) (h : RefSt w rb pb wb M G ws k u) : RMay rb (mayOf G ws k u) w := by
  intro n
  cases u with
  | none => exact rmay_out rb pb wb M G ws _ (-1) _ _ _ (w.drewN n) (RefAt.drewN h n) (by omega)
  | some v => exact rmay_in rb pb wb M G ws _ _ v _ (k % ws.length) (w.drewN n) (RefAt.drewN h n) hr.good (hr.place hr.pos).hi

/-- Enter's answer, and the place behind it -/
def enterV (ws : List Sc.Win) (k : Nat) : Option Int → Int × Int × Int
  | none => if ws.length = 0 then (0, 0, 2) else (((k % ws.length : Nat) : Int), ((k / ws.length : Nat) : Int), 0)
  | some _ => (0, 0, 8)
def enterU (ws : List Sc.Win) : Option Int → Option Int
  | none => if ws.length = 0 then none else some 0
  | some v => some v

theorem Run.enter {M G : Int} {ws : List Sc.Win} {k : Nat} {u : Option Int} (h : Run M G ws k u) : Run M G ws k (enterU ws u) := by
  cases u with
  | none =>
    by_cases hn : ws.length = 0
    · simp only [enterU, if_pos hn]; exact h
    · simp only [enterU, if_neg hn]
      exact ⟨h.good, h.hk, fun q => absurd q hn, fun v hv => by cases hv; exact ⟨Int.le_refl _, Or.inl rfl⟩⟩
  | some v => exact h

theorem p_enter (x : Ids) (M G : Int) (ws : List Sc.Win) (w : World) (k : Nat) (u : Option Int) (hr : Run M G ws k u) (h : SchedAt w x M G ws (psOf M G ws k u)) :
    Calls Try.prog 9 #[.pointer (some ⟨x.sb, 0, none⟩)] w fun e w' => e = .returned (.tuple #[.int .i64 (enterV ws k u).1, .int .i64 (enterV ws k u).2.1, .int .i64 (enterV ws k u).2.2]) ∧ SchedAt w' x M G ws (psOf M G ws k (enterU ws u)) ∧ Upd x.own w w' := by
  cases u with
  | none =>
    by_cases hn : ws.length = 0
    · simp only [enterV, enterU, if_pos hn]
      obtain rfl : ws = [] := List.eq_nil_of_length_eq_zero hn
      obtain ⟨rfl, _⟩ := hr.out rfl
      refine (enter_none x M G _ w h rfl (by simp [psOf, St.leave, Sc.nowAt]) (by simp [psOf, St.leave, Sc.nowAt])).mono ?_
      rintro e w' ⟨he, n, rfl⟩
      exact ⟨he, h.drewN n, (Upd.refl _ _).drewN n⟩
    · simp only [enterV, enterU, if_neg hn]
      exact enter_round x M G ws w k hr.good (by omega) (by have := hr.hk; omega) h
  | some v =>
    refine (enter_in x M G ws _ w h rfl).mono ?_
    rintro e w' ⟨he, rfl⟩
    exact ⟨he, h, Upd.refl _ _⟩

theorem r_enter (rb pb wb : Nat) (M G : Int) (ws : List Sc.Win) (w : World) (k : Nat) (u : Option Int) (hr : Run M G ws k u) (h : RefSt w rb pb wb M G ws k u) :
    Calls Try.prog 18 #[.pointer (some ⟨rb, 0, none⟩)] w fun e w' => e = .returned (.tuple #[.int .i64 (enterV ws k u).1, .int .i64 (enterV ws k u).2.1, .int .i64 (enterV ws k u).2.2]) ∧ RefSt w' rb pb wb M G ws k (enterU ws u) ∧ Upd [rb] w w' := by
  cases u with
  | none =>
    by_cases hn : ws.length = 0
    · simp only [enterV, enterU, if_pos hn]
      obtain rfl : ws = [] := List.eq_nil_of_length_eq_zero hn
      obtain ⟨rfl, _⟩ := hr.out rfl
      refine (renter_none rb pb wb M G _ _ _ w h (by simp [Sc.nowAt]) (by simp [Sc.nowAt])).mono ?_
      rintro e w' ⟨he, n, rfl⟩
      exact ⟨he, RefAt.drewN h n, (Upd.refl _ _).drewN n⟩
    · simp only [enterV, enterU, if_neg hn]
      have hp := hr.place (by omega)
      have hw := hp.good.w _ hp.hi
      obtain ⟨n0, n1⟩ := nowAt_le hr.good (show 0 < ws.length by omega) k
      have he := hp.hend
      unfold endAt at he
      have := renter_ok rb pb wb M G ws (Sc.nowAt M ws k) 0 (Sc.nowAt M ws k) ((k / ws.length : Nat) : Int) (k % ws.length) w h hp (by omega) hr.good.n n0 (by omega) (Sc.next_round hr.good (by omega) k)
      refine this.mono ?_
      rintro e w' ⟨he, hq, hu⟩
      refine ⟨he, ?_, hu⟩
      simp only [RefSt, Int.add_zero]
      exact hq
  | some v =>
    refine (renter_state rb pb wb M G ws _ _ _ _ _ w h (by omega)).mono ?_
    rintro e w' ⟨he, rfl⟩
    exact ⟨he, h, Upd.refl _ _⟩

/-- Spend's answer, and the place behind it -/
def spendV (G : Int) (ws : List Sc.Win) (k : Nat) (u : Option Int) (z : Int) : Int :=
  if mayOf G ws k u = false then 8 else if z < 0 then 2 else if G < z then 142 else 0
def spendU (G : Int) (ws : List Sc.Win) (k : Nat) (u : Option Int) (z : Int) : Option Int :=
  if spendV G ws k u z = 0 then u.map (· + z) else u

theorem spend_ne {G : Int} {ws : List Sc.Win} {k : Nat} {u : Option Int} {z : Int} (h : spendV G ws k u z ≠ 0) : spendU G ws k u z = u := if_neg h

theorem spend_some {G : Int} {ws : List Sc.Win} {k : Nat} {u : Option Int} {z : Int} (h : spendV G ws k u z = 0) : ∃ v, u = some v ∧ v < budgetOf G ws (k % ws.length) ∧ 0 ≤ z ∧ z ≤ G := by
  unfold spendV at h
  cases hm : mayOf G ws k u
  · rw [hm] at h; simp at h
  · rw [hm] at h
    rw [if_neg (by simp)] at h
    split at h
    · omega
    · split at h
      · omega
      · cases u with
        | none => simp [mayOf] at hm
        | some v => exact ⟨v, rfl, by simpa [mayOf] using hm, by omega, by omega⟩

theorem Run.spend {M G : Int} {ws : List Sc.Win} {k : Nat} {u : Option Int} (h : Run M G ws k u) (z : Int) : Run M G ws k (spendU G ws k u z) := by
  by_cases hv : spendV G ws k u z = 0
  · obtain ⟨v, rfl, h1, h2, h3⟩ := spend_some hv
    simp only [spendU, if_pos hv, Option.map_some]
    exact ⟨h.good, h.hk, fun q => absurd (h.out q).2 (by simp), fun v' hv' => by cases hv'; exact used_step (h.used v rfl) h1 h2 h3⟩
  · rw [spend_ne hv]; exact h

theorem p_spend (x : Ids) (M G z : Int) (ws : List Sc.Win) (w : World) (k : Nat) (u : Option Int) (hr : Run M G ws k u) (h : SchedAt w x M G ws (psOf M G ws k u)) :
    Calls Try.prog 12 #[.pointer (some ⟨x.sb, 0, none⟩), .int .i64 z] w fun e w' => e = .returned (.int .i64 (spendV G ws k u z)) ∧ SchedAt w' x M G ws (psOf M G ws k (spendU G ws k u z)) ∧ Upd x.own w w' := by
  have hmay : (psOf M G ws k u).may = mayOf G ws k u := by
    cases u with
    | none => rfl
    | some v => exact inWin_may M G ws _ _ _ v
  by_cases hv : spendV G ws k u z = 0
  · obtain ⟨v, rfl, h1, h2, h3⟩ := spend_some hv
    simp only [spendU, if_pos hv, Option.map_some]
    rw [hv]
    exact (spend_win x M G ws w _ _ _ v z (hr.place hr.pos) (hr.used v rfl) h1 h2 h3 h).mono fun e w' q => ⟨q.1, q.2.1, q.2.2.2⟩
  · rw [spend_ne hv]
    unfold spendV at hv ⊢
    cases hm : mayOf G ws k u
    · rw [if_pos rfl]
      refine (spend_state x M G z ws _ w h (hmay.trans hm)).mono ?_
      rintro e w' ⟨he, n, rfl⟩
      exact ⟨he, h.drewN n, (Upd.refl _ _).drewN n⟩
    · rw [hm, if_neg (by simp)] at hv
      rw [if_neg (by simp)]
      by_cases hz : z < 0
      · rw [if_pos hz]
        refine (spend_neg x M G z ws _ w h (hmay.trans hm) hz).mono ?_
        rintro e w' ⟨he, n, rfl⟩
        exact ⟨he, h.drewN n, (Upd.refl _ _).drewN n⟩
      · rw [if_neg hz] at hv ⊢
        by_cases hG : G < z
        · rw [if_pos hG]
          refine (spend_margin x M G z ws _ w h (hmay.trans hm) (by omega) hG).mono ?_
          rintro e w' ⟨he, n, rfl⟩
          exact ⟨he, h.drewN n, (Upd.refl _ _).drewN n⟩
        · rw [if_neg hG] at hv; exact absurd rfl hv

theorem r_spend (rb pb wb : Nat) (M G z : Int) (ws : List Sc.Win) (w : World) (k : Nat) (u : Option Int) (hr : Run M G ws k u) (h : RefSt w rb pb wb M G ws k u) :
    Calls Try.prog 19 #[.pointer (some ⟨rb, 0, none⟩), .int .i64 z] w fun e w' => e = .returned (.int .i64 (spendV G ws k u z)) ∧ RefSt w' rb pb wb M G ws k (spendU G ws k u z) ∧ Upd [rb] w w' := by
  have hmay := r_may rb pb wb M G ws w k u hr h
  by_cases hv : spendV G ws k u z = 0
  · obtain ⟨v, rfl, h1, h2, h3⟩ := spend_some hv
    have hm : mayOf G ws k (some v) = true := decide_eq_true h1
    rw [hm] at hmay
    simp only [spendU, if_pos hv, Option.map_some]
    rw [hv]
    have hp := hr.place hr.pos
    have hst := used_step (hr.used v rfl) h1 h2 h3
    have hle := @inWin_now_le M G ws hp.good ((k / ws.length : Nat) : Int) _ hp.hi 0 (v + z) hst
    have hend := hp.hend
    have hw := hp.good.w _ hp.hi
    have hk := hp.hkM
    have hu0 := hr.used v rfl
    unfold UsedOk at hu0
    simp only [St.inWin, endAt, beginAt] at hle hend
    have := rspend_ok rb pb wb M G ws _ _ _ _ _ z w h hmay h2 h3 (by unfold beginAt; omega) (by unfold beginAt; omega) hu0.1 (by omega)
    refine this.mono ?_
    rintro e w' ⟨he, hq, hu⟩
    refine ⟨he, ?_, hu⟩
    simp only [RefSt]
    rw [← Int.add_assoc]
    exact hq
  · rw [spend_ne hv]
    unfold spendV at hv ⊢
    cases hm : mayOf G ws k u
    · rw [hm] at hmay
      rw [if_pos rfl]
      refine (rspend_state rb z w hmay).mono ?_
      rintro e w' ⟨he, n, rfl⟩
      exact ⟨he, h.upd2 ((Upd.refl [] w).drewN n) (by simp) (by simp) (by simp), (Upd.refl _ _).drewN n⟩
    · rw [hm] at hmay
      rw [hm, if_neg (by simp)] at hv
      rw [if_neg (by simp)]
      by_cases hz : z < 0
      · rw [if_pos hz]
        refine (rspend_neg rb z w hmay hz).mono ?_
        rintro e w' ⟨he, n, rfl⟩
        exact ⟨he, h.upd2 ((Upd.refl [] w).drewN n) (by simp) (by simp) (by simp), (Upd.refl _ _).drewN n⟩
      · rw [if_neg hz] at hv ⊢
        by_cases hG : G < z
        · rw [if_pos hG]
          cases u with
          | none => simp [mayOf] at hm
          | some v =>
            refine (rspend_margin rb pb wb M G ws _ _ _ _ _ z w h hmay (by omega) hG).mono ?_
            rintro e w' ⟨he, n, rfl⟩
            exact ⟨he, RefAt.drewN h n, (Upd.refl _ _).drewN n⟩
        · rw [if_neg hG] at hv; exact absurd rfl hv

/-- Leave's answer, and the place behind it -/
def leaveV (M : Int) (ws : List Sc.Win) (k : Nat) : Option Int → Int × Int
  | none => (0, 8)
  | some _ => (endAt M ws ((k / ws.length : Nat) : Int) (k % ws.length), 0)
def leaveK (k : Nat) : Option Int → Nat
  | none => k
  | some _ => k + 1

theorem Run.leave {M G : Int} {ws : List Sc.Win} {k : Nat} {u : Option Int} (h : Run M G ws k u) (hk : k ≤ 299) : Run M G ws (leaveK k u) none := by
  cases u with
  | none => exact h
  | some v => exact ⟨h.good, by simp only [leaveK]; omega, fun q => absurd (h.out q).2 (by simp), fun v hv => by cases hv⟩

theorem p_leave (x : Ids) (M G : Int) (ws : List Sc.Win) (w : World) (k : Nat) (u : Option Int) (hr : Run M G ws k u) (h : SchedAt w x M G ws (psOf M G ws k u)) :
    Calls Try.prog 14 #[.pointer (some ⟨x.sb, 0, none⟩)] w fun e w' => e = .returned (.tuple #[.int .i64 (leaveV M ws k u).1, .int .i64 (leaveV M ws k u).2]) ∧ SchedAt w' x M G ws (psOf M G ws (leaveK k u) none) ∧ Upd x.own w w' := by
  cases u with
  | none =>
    refine (leave_no x M G ws _ w h rfl).mono ?_
    rintro e w' ⟨he, rfl⟩
    exact ⟨he, h, Upd.refl _ _⟩
  | some v =>
    have := leave_win x M G ws w _ _ _ v (hr.place hr.pos) (hr.used v rfl) h
    refine this.mono ?_
    rintro e w' ⟨he, hs, hu⟩
    refine ⟨he, ?_, hu⟩
    simp only [psOf, leaveK, nowAt_next]
    exact hs

theorem r_leave (rb pb wb : Nat) (M G : Int) (ws : List Sc.Win) (w : World) (k : Nat) (u : Option Int) (hr : Run M G ws k u) (h : RefSt w rb pb wb M G ws k u) :
    Calls Try.prog 20 #[.pointer (some ⟨rb, 0, none⟩)] w fun e w' => e = .returned (.tuple #[.int .i64 (leaveV M ws k u).1, .int .i64 (leaveV M ws k u).2]) ∧ RefSt w' rb pb wb M G ws (leaveK k u) none ∧ Upd [rb] w w' := by
  cases u with
  | none =>
    refine (rleave_no rb pb wb M G ws _ (-1) _ _ _ w h (by omega)).mono ?_
    rintro e w' ⟨he, rfl⟩
    exact ⟨he, h, Upd.refl _ _⟩
  | some v =>
    have := rleave_ok rb pb wb M G ws _ _ _ _ _ w h (hr.place hr.pos)
    refine this.mono ?_
    rintro e w' ⟨he, hs, hu⟩
    refine ⟨he, ?_, hu⟩
    simp only [RefSt, leaveK, nowAt_next]
    exact hs
end Go.Proofs.Ythfkbenkladonaa
