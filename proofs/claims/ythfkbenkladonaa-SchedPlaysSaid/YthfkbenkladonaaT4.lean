/-
  A time in memory, and what tick and May do. Conditions: the time lies in memory.
-/
import Derived.Test.YthfkbenkladonaaT3
import Derived.StillTailTactics
import Derived.Deep.DeepCutAuto
import Derived.Deep.DeepMust
namespace Go.Proofs.Ythfkbenkladonaa
open Go.RowKit
attribute [local go_sem] max2_max min2_min max_two min_two

/-- what a time holds -/
structure St where
  now : Int
  armed : Bool
  at' : Int
  pend : Int
  inside : Bool
  window : Int
  major : Int
  last : Int

/-- where a time lies -/
structure Ids where
  sb : Nat
  cb : Nat
  lb : Nat
  pb : Nat
  wb : Nat

def Ids.own (x : Ids) : List Nat := [x.sb, x.cb, x.lb]

/-- a time in memory -/
structure SchedAt (w : World) (x : Ids) (M G : Int) (ws : List Sc.Win) (s : St) : Prop where
  sched : Blk w x.sb #[.pointer (some ⟨x.cb, 0, none⟩), .pointer (some ⟨x.lb, 0, none⟩), .pointer (some ⟨x.pb, 0, none⟩), .int .i64 G, .bool s.inside, .int .i64 s.window, .int .i64 s.major, .int .i64 s.last] 43
  clock : Blk w x.cb #[.int .i64 s.now, .bool s.armed, .int .i64 s.at'] 78
  pic : Blk w x.lb #[.int .i64 1, .int .u32 s.pend, .int .u32 0] 93
  plan : PlanAt w x.pb x.wb M G ws
  pend : s.pend = 0 ∨ s.pend = 1
  n1 : x.pb ∉ x.own
  n2 : x.wb ∉ x.own
  n3 : x.sb ≠ x.cb ∧ x.sb ≠ x.lb ∧ x.cb ≠ x.lb

theorem SchedAt.upd {S : List Nat} {w w' : World} {x : Ids} {M G : Int} {ws : List Sc.Win} {s : St} (h : SchedAt w x M G ws s) (u : Upd S w w') (hS : ∀ k, k ∈ S → k ≠ x.sb ∧ k ≠ x.cb ∧ k ≠ x.lb ∧ k ≠ x.pb ∧ k ≠ x.wb) : SchedAt w' x M G ws s :=
  ⟨u.blk h.sched (fun hm => (hS _ hm).1 rfl), u.blk h.clock (fun hm => (hS _ hm).2.1 rfl), u.blk h.pic (fun hm => (hS _ hm).2.2.1 rfl),
    h.plan.upd u (fun hm => (hS _ hm).2.2.2.1 rfl) (fun hm => (hS _ hm).2.2.2.2 rfl), h.pend, h.n1, h.n2, h.n3⟩

theorem SchedAt.still {w w' : World} {x : Ids} {M G : Int} {ws : List Sc.Win} {s : St} (h : SchedAt w x M G ws s) (u : Upd [] w w') : SchedAt w' x M G ws s :=
  h.upd u (fun k hk => by simp at hk)

theorem SchedAt.drewN {w : World} {x : Ids} {M G : Int} {ws : List Sc.Win} {s : St} (h : SchedAt w x M G ws s) (n : Nat) : SchedAt (w.drewN n) x M G ws s := h.still ((Upd.refl [] w).drewN n)

theorem SchedAt.drew {w : World} {x : Ids} {M G : Int} {ws : List Sc.Win} {s : St} (h : SchedAt w x M G ws s) : SchedAt w.drew x M G ws s := h.still ((Upd.refl [] w).drew)
theorem PlanAt.set {w : World} {pb wb : Nat} {M G : Int} {ws : List Sc.Win} (h : PlanAt w pb wb M G ws) (a : Addr) (v : Value) (h1 : pb ≠ a.block) (h2 : wb ≠ a.block) : PlanAt (w.setCell a v) pb wb M G ws :=
  h.upd (S := [a.block]) ((Upd.refl _ w).setCell (by simp) v) (by simpa using h1) (by simpa using h2)

theorem SchedAt.setPic {w : World} {x : Ids} {M G : Int} {ws : List Sc.Win} {s : St} (h : SchedAt w x M G ws s) (p : Int) (hp : p = 0 ∨ p = 1) :
    SchedAt (w.setCell ⟨x.lb, 1, none⟩ (.int .u32 p)) x M G ws { s with pend := p } := by
  obtain ⟨hsc, hcl, hpi, hpl, hpe, n1, n2, n3⟩ := h
  have n1' := n1; have n2' := n2
  simp only [Ids.own, List.mem_cons, List.not_mem_nil, or_false, not_or] at n1' n2'
  exact ⟨hsc.other (by exact n3.2.1) _, hcl.other (by exact n3.2.2) _, hpi.set 1 _, hpl.set _ _ n1'.2.2 n2'.2.2, hp, n1, n2, n3⟩

theorem SchedAt.setNow {w : World} {x : Ids} {M G : Int} {ws : List Sc.Win} {s : St} (h : SchedAt w x M G ws s) (p : Int) :
    SchedAt (w.setCell ⟨x.cb, 0, none⟩ (.int .i64 p)) x M G ws { s with now := p } := by
  obtain ⟨hsc, hcl, hpi, hpl, hpe, n1, n2, n3⟩ := h
  have n1' := n1; have n2' := n2
  simp only [Ids.own, List.mem_cons, List.not_mem_nil, or_false, not_or] at n1' n2'
  exact ⟨hsc.other (by exact n3.1) _, hcl.set 0 _, hpi.other (by exact fun e => n3.2.2 e.symm) _, hpl.set _ _ n1'.2.1 n2'.2.1, hpe, n1, n2, n3⟩

theorem SchedAt.setTimer {w : World} {x : Ids} {M G : Int} {ws : List Sc.Win} {s : St} (h : SchedAt w x M G ws s) (b : Bool) (p : Int) :
    SchedAt ((w.setCell ⟨x.cb, 1, none⟩ (.bool b)).setCell ⟨x.cb, 2, none⟩ (.int .i64 p)) x M G ws { s with armed := b, at' := p } := by
  obtain ⟨hsc, hcl, hpi, hpl, hpe, n1, n2, n3⟩ := h
  have n1' := n1; have n2' := n2
  simp only [Ids.own, List.mem_cons, List.not_mem_nil, or_false, not_or] at n1' n2'
  exact ⟨(hsc.other (by exact n3.1) _).other (by exact n3.1) _, (hcl.set 1 _).set 2 _, (hpi.other (by exact fun e => n3.2.2 e.symm) _).other (by exact fun e => n3.2.2 e.symm) _,
    (hpl.set _ _ n1'.2.1 n2'.2.1).set _ _ n1'.2.1 n2'.2.1, hpe, n1, n2, n3⟩

theorem SchedAt.setMoment {w : World} {x : Ids} {M G : Int} {ws : List Sc.Win} {s : St} (h : SchedAt w x M G ws s) (b : Bool) (p q r : Int) :
    SchedAt ((((w.setCell ⟨x.sb, 4, none⟩ (.bool b)).setCell ⟨x.sb, 5, none⟩ (.int .i64 p)).setCell ⟨x.sb, 6, none⟩ (.int .i64 q)).setCell ⟨x.sb, 7, none⟩ (.int .i64 r)) x M G ws { s with inside := b, window := p, major := q, last := r } := by
  obtain ⟨hsc, hcl, hpi, hpl, hpe, n1, n2, n3⟩ := h
  have n1' := n1; have n2' := n2
  simp only [Ids.own, List.mem_cons, List.not_mem_nil, or_false, not_or] at n1' n2'
  have e1 : x.cb ≠ x.sb := fun e => n3.1 e.symm
  have e2 : x.lb ≠ x.sb := fun e => n3.2.1 e.symm
  exact ⟨(((hsc.set 4 _).set 5 _).set 6 _).set 7 _, (((hcl.other (by exact e1) _).other (by exact e1) _).other (by exact e1) _).other (by exact e1) _, (((hpi.other (by exact e2) _).other (by exact e2) _).other (by exact e2) _).other (by exact e2) _,
    (((hpl.set _ _ n1'.1 n2'.1).set _ _ n1'.1 n2'.1).set _ _ n1'.1 n2'.1).set _ _ n1'.1 n2'.1, hpe, n1, n2, n3⟩

set_option maxHeartbeats 400000 in
theorem now_any (cb : Nat) (now at' : Int) (armed : Bool) (w : World) (h : Blk w cb #[.int .i64 now, .bool armed, .int .i64 at'] 78) :
    Calls Try.prog 10 #[.pointer (some ⟨cb, 0, none⟩)] w fun e w' => e = .returned (.int .i64 now) ∧ w = w' := by
  have c0 := h.c0
  go_enter Try.func10, Try.ntmps10
  go_wp2
  go_ret
  exact ⟨rfl, rfl⟩

/-- the clock alone is looked at: the line is raised if the time has come -/
def St.ticked (s : St) : St := { s with pend := if s.armed = true ∧ s.at' ≤ s.now then 1 else s.pend }

set_option maxHeartbeats 400000 in
theorem tick_any (x : Ids) (M G : Int) (ws : List Sc.Win) (s : St) (w : World) (h : SchedAt w x M G ws s) (ha : s.armed = true) :
    Calls Try.prog 32 #[.pointer (some ⟨x.sb, 0, none⟩)] w fun e w' => e = .returned (.tuple #[]) ∧ SchedAt w' x M G ws s.ticked ∧ Upd x.own w w' := by
  have hs := h
  obtain ⟨hsc, hcl, hpi, hpl, hpe, n1, n2, n3⟩ := h
  obtain ⟨now, armed, at', pend, inside, window, major, last⟩ := s
  simp only at hsc hcl hpi hpe ha
  subst ha
  have s0 := hsc.c0
  have s1 := hsc.c1
  have hf := fired_yes x.cb now at' w hcl
  have HF := Lib.hid hf
  clear hf
  have HS := Lib.hid hs
  clear hs n1 n2 hpl
  by_cases hle : at' ≤ now
  · have hd : decide (at' ≤ now) = true := by simp; omega
    rw [hd] at HF
    go_enter Try.func32, Try.ntmps32
    go_wp2_with (go_at_call 43; refine HF.out.mono ?_; rintro e w1 ⟨rfl, n, rfl⟩)
    go_wp2_with (go_at_call 44; refine (raise_any x.lb pend _ (hpi.drewN n) hpe).mono ?_; rintro e w1 ⟨rfl, m, rfl⟩)
    go_end0
    refine ⟨rfl, ?_, ?_⟩
    · have := ((HS.out.drewN n).setPic 1 (Or.inr rfl)).drewN m
      simpa [St.ticked, hle] using this
    · exact (((Upd.refl _ _).drewN n).setCell (by simp [Ids.own]) _).drewN m
  · have hd : decide (at' ≤ now) = false := by simp; omega
    rw [hd] at HF
    go_enter Try.func32, Try.ntmps32
    go_wp2_with (go_at_call 43; refine HF.out.mono ?_; rintro e w1 ⟨rfl, n, rfl⟩)
    go_end0
    refine ⟨rfl, ?_, ((Upd.refl _ _).drewN n)⟩
    rw [show St.ticked ⟨now, true, at', pend, inside, window, major, last⟩ = ⟨now, true, at', pend, inside, window, major, last⟩ from by simp only [St.ticked]; rw [if_neg (fun h => absurd h.2 (by omega))]]
    exact HS.out.drewN n

theorem drewN_upd (S : List Nat) (w : World) (n : Nat) : Upd S w (w.drewN n) := (Upd.refl _ _).drewN n

set_option maxHeartbeats 400000 in
theorem may_any (x : Ids) (M G : Int) (ws : List Sc.Win) (s : St) (w : World) (h : SchedAt w x M G ws s) :
    Calls Try.prog 11 #[.pointer (some ⟨x.sb, 0, none⟩)] w fun e w' => e = .returned (.bool (s.inside && !(s.pend == 1))) ∧ ∃ n, w' = w.drewN n := by
  obtain ⟨hsc, hcl, hpi, hpl, hpe, n1, n2, n3⟩ := h
  obtain ⟨now, armed, at', pend, inside, window, major, last⟩ := s
  simp only at hsc hcl hpi hpe
  have s1 := hsc.c1
  have s4 := hsc.c4
  have HF := Lib.hid (picnext_any x.lb pend w hpi hpe)
  clear hsc hcl hpl n1 n2 n3 hpi hpe
  cases inside
  all_goals
    go_enter Try.func11, Try.ntmps11
    go_wp2_with (go_at_call 33; refine HF.out.mono ?_; rintro e w1 ⟨rfl, n, rfl⟩)
    try go_quiet (fail)
    try go_wp2
    go_ret
    exact ⟨by simp, _, rfl⟩

theorem budget_any (x : Ids) (M G : Int) (ws : List Sc.Win) (s : St) (w : World) (h : SchedAt w x M G ws s) (hg : Sc.Good M G ws) (i : Nat) (hi : i < ws.length) :
    Calls Try.prog 31 #[.pointer (some ⟨x.pb, 0, none⟩), .int .i64 i] w fun e w' => e = .returned (.int .i64 (max 0 ((ws.getD i default).l - 40 - G))) ∧ Upd [] w w' := by
  have hw := hg.w i hi
  have := hg.m2
  exact budget_ok x.pb x.wb M G ws i w h.plan hi hw.2.1 (by omega) hg.g1 hg.g2

/-- what entering a window makes of a time -/
def St.enter (s : St) (ws : List Sc.Win) (M G : Int) (k : Int) (i : Nat) : St :=
  let b := k * M + (ws.getD i default).s + min 40 (ws.getD i default).l
  let u := max 0 ((ws.getD i default).l - 40 - G)
  { now := b, armed := true, at' := b + u, pend := if u ≤ 0 then 1 else 0, inside := true, window := i, major := k, last := s.last }

end Go.Proofs.Ythfkbenkladonaa
