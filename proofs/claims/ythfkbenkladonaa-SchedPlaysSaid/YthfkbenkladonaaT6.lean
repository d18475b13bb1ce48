/-
  Spend, Time and Inside: what each answers and does. Conditions: the time lies in memory.
-/
import Derived.Test.YthfkbenkladonaaT4
namespace Go.Proofs.Ythfkbenkladonaa
open Go.RowKit

/-- may the owner do a step? -/
def St.may (s : St) : Bool := s.inside && !(s.pend == 1)

set_option maxHeartbeats 400000 in
theorem spend_state (x : Ids) (M G n : Int) (ws : List Sc.Win) (s : St) (w : World) (h : SchedAt w x M G ws s) (hm : s.may = false) :
    Calls Try.prog 12 #[.pointer (some ⟨x.sb, 0, none⟩), .int .i64 n] w fun e w' => e = .returned (.int .i64 8) ∧ ∃ n, w' = w.drewN n := by
  have HM := Lib.hid (may_any x M G ws s w h)
  have he : (s.inside && !(s.pend == 1)) = false := hm
  rw [he] at HM
  clear h hm he
  go_enter Try.func12, Try.ntmps12
  go_wp2_with (go_at_call 11; refine HM.out.mono ?_; rintro e w1 ⟨rfl, n, rfl⟩)
  go_ret
  exact ⟨rfl, _, rfl⟩

set_option maxHeartbeats 400000 in
theorem spend_neg (x : Ids) (M G n : Int) (ws : List Sc.Win) (s : St) (w : World) (h : SchedAt w x M G ws s) (hm : s.may = true) (hn : n < 0) :
    Calls Try.prog 12 #[.pointer (some ⟨x.sb, 0, none⟩), .int .i64 n] w fun e w' => e = .returned (.int .i64 2) ∧ ∃ n, w' = w.drewN n := by
  have HM := Lib.hid (may_any x M G ws s w h)
  have he : (s.inside && !(s.pend == 1)) = true := hm
  rw [he] at HM
  have s3 := h.sched.c3
  clear h hm he
  go_enter Try.func12, Try.ntmps12
  go_wp2_with (go_at_call 11; refine HM.out.mono ?_; rintro e w1 ⟨rfl, n, rfl⟩)
  go_ret
  exact ⟨rfl, _, rfl⟩

set_option maxHeartbeats 400000 in
theorem spend_margin (x : Ids) (M G n : Int) (ws : List Sc.Win) (s : St) (w : World) (h : SchedAt w x M G ws s) (hm : s.may = true) (h0 : 0 ≤ n) (hn : G < n) :
    Calls Try.prog 12 #[.pointer (some ⟨x.sb, 0, none⟩), .int .i64 n] w fun e w' => e = .returned (.int .i64 142) ∧ ∃ n, w' = w.drewN n := by
  have HM := Lib.hid (may_any x M G ws s w h)
  have he : (s.inside && !(s.pend == 1)) = true := hm
  rw [he] at HM
  have s3 := h.sched.c3
  clear h hm he
  go_enter Try.func12, Try.ntmps12
  go_wp2_with (go_at_call 11; refine HM.out.mono ?_; rintro e w1 ⟨rfl, n, rfl⟩)
  go_ret
  exact ⟨rfl, _, rfl⟩

set_option maxHeartbeats 400000 in
theorem spend_ok (x : Ids) (M G n : Int) (ws : List Sc.Win) (s : St) (w : World) (h : SchedAt w x M G ws s) (hm : s.may = true) (h0 : 0 ≤ n) (h1 : n ≤ G) (ha : s.armed = true)
    (hn0 : 0 ≤ s.now) (hn1 : n ≤ 281474976710656 - s.now) :
    Calls Try.prog 12 #[.pointer (some ⟨x.sb, 0, none⟩), .int .i64 n] w fun e w' => e = .returned (.int .i64 0) ∧ SchedAt w' x M G ws (St.ticked { s with now := s.now + n }) ∧ Upd x.own w w' := by
  have HM := Lib.hid (may_any x M G ws s w h)
  have he : (s.inside && !(s.pend == 1)) = true := hm
  rw [he] at HM
  have s3 := h.sched.c3
  have s0 := h.sched.c0
  have HH := Lib.hid h
  have HA := Lib.hid ha
  clear h hm he ha
  go_enter Try.func12, Try.ntmps12
  go_wp2_with (go_at_call 11; refine HM.out.mono ?_; rintro e w1 ⟨rfl, q, rfl⟩)
  refine (advance_any x.cb s.now s.at' n s.armed _ (HH.out.drewN q).clock h0 hn0 hn1).mono ?_
  rintro e w1 ⟨rfl, rfl⟩
  go_wp2_with fail
  refine (tick_any x M G ws _ _ ((HH.out.drewN q).setNow (s.now + n)) HA.out).mono ?_
  rintro e w6 ⟨rfl, hs6, hu6⟩
  have HS6 := Lib.hid hs6
  have HU6 := Lib.hid (((drewN_upd x.own w q).setCell (p := ⟨x.cb, 0, none⟩) (by simp [Ids.own]) (.int .i64 (s.now + n))).trans hu6)
  clear hs6 hu6 s3 s0
  go_wp2_with fail
  go_ret
  exact ⟨rfl, HS6.out, HU6.out⟩

set_option maxHeartbeats 400000 in
theorem time_any (x : Ids) (M G : Int) (ws : List Sc.Win) (s : St) (w : World) (h : SchedAt w x M G ws s) :
    Calls Try.prog 15 #[.pointer (some ⟨x.sb, 0, none⟩)] w fun e w' => e = .returned (.int .i64 (if s.inside = true then s.now else s.last)) ∧ w = w' := by
  have s0 := h.sched.c0
  have s4 := h.sched.c4
  have s7 := h.sched.c7
  have HC := Lib.hid h.clock
  obtain ⟨now, armed, at', pend, inside, window, major, last⟩ := s
  clear h
  cases inside
  all_goals
    simp only at s4 s7
    go_enter Try.func15, Try.ntmps15
    go_wp2_with (go_at_call 10; refine (now_any _ _ _ _ _ HC.out).mono ?_; rintro e w1 ⟨rfl, rfl⟩)
    go_ret
    exact ⟨by simp, rfl⟩

set_option maxHeartbeats 400000 in
theorem inside_any (x : Ids) (M G : Int) (ws : List Sc.Win) (s : St) (w : World) (h : SchedAt w x M G ws s) :
    Calls Try.prog 16 #[.pointer (some ⟨x.sb, 0, none⟩)] w fun e w' => e = .returned (.tuple #[.int .i64 (if s.inside = true then s.window else -1), .int .i64 (if s.inside = true then s.major else -1), .bool s.inside]) ∧ ∃ n, w' = w.drewN n := by
  have s4 := h.sched.c4
  have s5 := h.sched.c5
  have s6 := h.sched.c6
  obtain ⟨now, armed, at', pend, inside, window, major, last⟩ := s
  clear h
  simp only at s4 s5 s6
  cases inside
  · go_enter Try.func16, Try.ntmps16
    go_wp2
    go_ret3
    exact ⟨by simp, 0, rfl⟩
  · go_enter Try.func16, Try.ntmps16
    go_wp2
    go_quiet (fail)
    go_wp2
    go_ret3
    exact ⟨by simp, _, rfl⟩
end Go.Proofs.Ythfkbenkladonaa
