/-
  Leave: the window's end is answered and the time is there. Conditions: the time lies in memory and is in a window of the table.
-/
import Derived.Test.YthfkbenkladonaaT4
import Derived.Deep.RegionHeld3
namespace Go.Proofs.Ythfkbenkladonaa
open Go.RowKit

theorem Upd.setNew {S : List Nat} {a b : World} (h : Upd S a b) {p : Addr} (hp : a.heap.size ≤ p.block) (u : Value) : Upd S a (b.setCell p u) :=
  ⟨h.os, h.tape, h.output, by simpa [World.setCell] using h.size, fun k hk hs => (Below.heap_setCell _ _ _ _ (by omega)).trans (h.block k hk hs)⟩

theorem SchedAt.setNew {w0 w : World} {x : Ids} {M G : Int} {ws : List Sc.Win} {s0 s : St} (h0 : SchedAt w0 x M G ws s0) (h : SchedAt w x M G ws s) (hn : 0 < ws.length) {p : Addr} (hp : w0.heap.size ≤ p.block) (u : Value) :
    SchedAt (w.setCell p u) x M G ws s := by
  obtain ⟨A, cap, hb, _, _⟩ := h0.plan.blk
  have l0 := h0.sched.lt
  have l1 := h0.clock.lt
  have l2 := h0.pic.lt
  have l3 := hb.lt
  have l4 := World.block_lt_of_cell? w0 _ (h0.plan.cells 0 hn).1
  simp only at l4
  exact h.upd (S := [p.block]) ((Upd.refl _ w).setCell (by simp) u) (fun k hk => by simp only [List.mem_singleton] at hk; subst hk; omega)

set_option maxHeartbeats 400000 in
theorem ack_any (lb : Nat) (w : World) (h : Blk w lb #[.int .i64 1, .int .u32 1, .int .u32 0] 93) :
    Calls Try.prog 35 #[.pointer (some ⟨lb, 0, none⟩), .int .i64 0] w fun e w' => e = .returned (.int .i64 0) ∧ ∃ n, w' = (w.setCell ⟨lb, 1, none⟩ (.int .u32 0)).drewN n := by
  have c0 := h.c0
  have c1 := h.c1
  have c2 := h.c2
  have f1 := h.free 1
  go_enter Try.func35, Try.ntmps35
  go_wp2
  go_region
  all_goals go_wp2
  all_goals go_ret
  all_goals exact ⟨rfl, 1, rfl⟩

set_option maxHeartbeats 400000 in
theorem leave_no (x : Ids) (M G : Int) (ws : List Sc.Win) (s : St) (w : World) (h : SchedAt w x M G ws s) (hin : s.inside = false) :
    Calls Try.prog 14 #[.pointer (some ⟨x.sb, 0, none⟩)] w fun e w' => e = .returned (.tuple #[.int .i64 0, .int .i64 8]) ∧ w = w' := by
  have s4 := h.sched.c4
  rw [hin] at s4
  clear h hin
  go_enter Try.func14, Try.ntmps14
  go_wp2
  go_ret2
  exact ⟨rfl, rfl⟩

/-- what leaving a window makes of a time -/
def St.leave (e : Int) : St := { now := e, armed := false, at' := 0, pend := 0, inside := false, window := 0, major := 0, last := e }

set_option maxRecDepth 100000 in
set_option maxHeartbeats 6000000 in
theorem leave_ok (x : Ids) (M G : Int) (ws : List Sc.Win) (s : St) (w : World) (h : SchedAt w x M G ws s) (hg : Sc.Good M G ws)
    (hin : s.inside = true) (h0 : 0 ≤ s.now) (k : Int) (i : Nat) (hi : i < ws.length) (hwi : s.window = i) (hma : s.major = k)
    (hk : 0 ≤ k) (hkM : 0 ≤ k * M) (hend : k * M + (ws.getD i default).s + (ws.getD i default).l ≤ 281474976710656) (hle : s.now ≤ k * M + (ws.getD i default).s + (ws.getD i default).l) :
    Calls Try.prog 14 #[.pointer (some ⟨x.sb, 0, none⟩)] w fun e w' => e = .returned (.tuple #[.int .i64 (k * M + (ws.getD i default).s + (ws.getD i default).l), .int .i64 0]) ∧
      SchedAt w' x M G ws (St.leave (k * M + (ws.getD i default).s + (ws.getD i default).l)) ∧ Upd x.own w w' := by
  have hw := hg.w i hi
  have hm2 := hg.m2
  have hq : k ≤ 281474976710656 / M := Int.le_ediv_of_mul_le (by have := hg.m1; omega) (by omega)
  have HSt := Lib.hid (fun W hW => start_ok x.pb x.wb M G k ws i W hW hi hk hg.m1 hq hkM (by omega) hw.1 (by omega))
  have HWi := Lib.hid (fun W hW => window_ok x.pb x.wb M G ws i W hW hi)
  have HS := Lib.hid h
  have s0 := h.sched.c0
  have s2 := h.sched.c2
  have s4 := h.sched.c4
  have s5 := h.sched.c5
  have s6 := h.sched.c6
  have sl := h.sched.lt
  rw [hin] at s4
  rw [hwi] at s5
  rw [hma] at s6
  have HP := Lib.hid h.pend
  have HW5 := Lib.hid hwi
  clear h hg hin hwi hma
  generalize (ws.getD i default).s = S at *
  generalize (ws.getD i default).l = L at *
  generalize (ws.getD i default).o = O at *
  go_enter Try.func14, Try.ntmps14
  go_upto_region 3 with fail
  go_cut [4] (fun v4 wx => v4 = .int .i64 (k * M + S) ∧ SchedAt wx x M G ws s ∧ Upd x.own w wx)
  case first =>
    go_region_with (first
      | (go_at_call 27; go_must (refine (HSt.out _ ?_).mono ?_; (first | exact HS.out.drew.plan | exact HS.out.plan); rintro e w' ⟨rfl, hu5⟩; have HS5 := Lib.hid (HS.out.drew.still hu5); have HU5 := Lib.hid (((Upd.refl x.own w).drew).trans (hu5.mono (by simp))); clear hu5)))
    all_goals
      go_wp2_with fail
      go_meet
      exact ⟨rfl, HS5.out, HU5.out⟩
  case rest =>
    obtain ⟨rfl, hs1, hu1⟩ := hcut
    have HS1 := Lib.hid hs1
    have HU1 := Lib.hid hu1
    clear hs1 hu1 s0 s2 s4 s5 s6 sl
    have s2 := HS1.out.sched.c2
    have s5 := HS1.out.sched.c5
    have sl := HS1.out.sched.lt
    rw [HW5.out] at s5
    go_upto_region 4 with fail
    go_cut [6] (fun v6 wx => ∃ b, v6 = .pointer (some ⟨b, 0, none⟩) ∧ Blk wx b #[.int .i64 O, .int .i64 S, .int .i64 L] 45 ∧ SchedAt wx x M G ws s ∧ Upd x.own w wx)
    case first =>
      have hne := Nat.ne_of_gt sl
      go_region_held3 (fun w' => w'.cell? ⟨x.sb, 2, none⟩ = some (.pointer (some ⟨x.pb, 0, none⟩)) ∧ w'.cell? ⟨x.sb, 5, none⟩ = some (.int .i64 i)) (go_keep) (first
        | (go_at_call 28; go_must (refine (HWi.out _ ?_).mono ?_; (first | exact HS1.out.drew.plan | exact (HS1.out.still ((Upd.refl [] _).alloc _)).drew.plan | exact HS1.out.plan | exact (HS1.out.still ((Upd.refl [] _).alloc _)).plan); rintro e w' ⟨rfl, hu5⟩; (first | (have z := hu5.blk (Blk.drew (Blk.new _ _ _)) (by simp); have z0 := z.c0; have z1 := z.c1; have z2 := z.c2; have g0 := z.free 0; have g1 := z.free 1; have g2 := z.free 2; have HZ := Lib.hid z; clear z; have HS5 := Lib.hid ((HS1.out.still ((Upd.refl [] _).alloc _)).drew.still hu5); have HU5 := Lib.hid (((HU1.out.alloc _).drew).trans (hu5.mono (by simp)))) | (have HS5 := Lib.hid (HS1.out.drew.still hu5); have HU5 := Lib.hid ((HU1.out.drew).trans (hu5.mono (by simp))))); have k2 := HS5.out.sched.c2; have k5 := HS5.out.sched.c5; rw [HW5.out] at k5; clear hu5)))
      all_goals
        go_wp2_with fail
        go_meet
        first
          | exact ⟨_, rfl, Blk.new _ _ _, HS5.out.still ((Upd.refl [] _).alloc _), HU5.out.trans ((Upd.refl _ _).alloc _)⟩
          | exact ⟨_, rfl, ((HZ.out.set 0 _).set 1 _).set 2 _, HS1.out.setNew (HS1.out.setNew (HS1.out.setNew HS5.out (by omega) (Nat.le_refl _) _) (by omega) (Nat.le_refl _) _) (by omega) (Nat.le_refl _) _,
              ((HU5.out.setNew HU1.out.size _).setNew HU1.out.size _).setNew HU1.out.size _⟩
    case rest =>
      obtain ⟨b, rfl, hb, hs2, hu2⟩ := hcut
      have HS2 := Lib.hid hs2
      have HU2 := Lib.hid hu2
      have x2 := hb.c2
      have xl := hb.lt
      clear hs2 hu2 s2 s5 sl hb
      go_upto_region 6 with fail
      clear x2 xl
      generalize hE : k * M + S + L = E at *
      have HEq := Lib.hid hE
      clear hE
      go_cut [] (fun wx => SchedAt wx x M G ws { s with now := E } ∧ Upd x.own w wx)
      case first =>
        have s0 := HS2.out.sched.c0
        have sl := HS2.out.sched.lt
        have e3 : IntKind.i64.wrap (E - s.now) = E - s.now := IntWalk.i64_in _ (by omega)
        go_region_with (first
          | (go_at_call 10; go_must (refine (now_any x.cb s.now s.at' s.armed _ ?_).mono ?_; (first | exact HS2.out.clock.drew | exact HS2.out.clock); rintro e w' ⟨rfl, rfl⟩))
          | (go_at_call 29; go_must (refine (advance_any x.cb s.now s.at' _ s.armed _ ?_ ?_ h0 ?_).mono ?_; (first | exact HS2.out.clock.drew | exact HS2.out.clock); omega; omega; rintro e w' ⟨rfl, rfl⟩)))
        all_goals
          go_wp2_with fail
          go_meet
          have h1 := (HS2.out.setNow E).drew
          have h2 := (HU2.out.setCell (p := ⟨x.cb, 0, none⟩) (by simp [Ids.own]) (.int .i64 E)).drew
          have eX : s.now + (E - s.now) = E := by omega
          generalize s.now + (E - s.now) = X at eX ⊢
          subst eX
          exact ⟨h1, h2⟩
      case rest =>
        obtain ⟨hs3, hu3⟩ := hcut
        have HS3 := Lib.hid hs3
        have HU3 := Lib.hid hu3
        clear hs3 hu3
        have s0 := HS3.out.sched.c0
        go_wp2_with fail
        refine (disarm_any x.cb _ _ _ _ HS3.out.clock).mono ?_
        rintro e w4 ⟨rfl, rfl⟩
        have HS4 := Lib.hid (HS3.out.setTimer false 0)
        have HU4 := Lib.hid ((HU3.out.setCell (p := ⟨x.cb, 1, none⟩) (by simp [Ids.own]) (.bool false)).setCell (p := ⟨x.cb, 2, none⟩) (by simp [Ids.own]) (.int .i64 0))
        clear s0
        have s1 := HS4.out.sched.c1
        go_wp2_with fail
        refine (picnext_any x.lb s.pend _ HS4.out.pic HP.out).mono ?_
        rintro e w5 ⟨rfl, q, rfl⟩
        have HS5 := Lib.hid (HS4.out.drewN q)
        have HU5 := Lib.hid (HU4.out.drewN q)
        clear s1
        rcases HP.out with hp | hp
        · have gp : (s.pend == 1) = false := by simp [hp]
          have HHp := Lib.hid hp
          clear hp
          have s4 := HS5.out.sched.c4
          have s5 := HS5.out.sched.c5
          have s6 := HS5.out.sched.c6
          have s7 := HS5.out.sched.c7
          have f4 := HS5.out.sched.free 4
          have f5 := HS5.out.sched.free 5
          have f6 := HS5.out.sched.free 6
          have f7 := HS5.out.sched.free 7
          go_wp2_with fail
          go_ret2
          rw [HEq.out]
          refine ⟨rfl, ?_, (((HU5.out.setCell (p := ⟨x.sb, 4, none⟩) (by simp [Ids.own]) _).setCell (p := ⟨x.sb, 5, none⟩) (by simp [Ids.own]) _).setCell (p := ⟨x.sb, 6, none⟩) (by simp [Ids.own]) _).setCell (p := ⟨x.sb, 7, none⟩) (by simp [Ids.own]) _⟩
          have h6 := HS5.out.setMoment false 0 0 E
          simp only [HHp.out] at h6
          exact h6
        · have gp : (s.pend == 1) = true := by simp [hp]
          have hpi := HS5.out.pic
          simp only [hp] at hpi
          have HPI := Lib.hid hpi
          clear hp hpi
          have s1 := HS5.out.sched.c1
          go_wp2_with fail
          refine (ack_any x.lb _ HPI.out).mono ?_
          rintro e w6 ⟨rfl, r, rfl⟩
          have HS6 := Lib.hid ((HS5.out.setPic 0 (Or.inl rfl)).drewN r)
          have HU6 := Lib.hid ((HU5.out.setCell (p := ⟨x.lb, 1, none⟩) (by simp [Ids.own]) (.int .u32 0)).drewN r)
          clear s1
          have s4 := HS6.out.sched.c4
          have s5 := HS6.out.sched.c5
          have s6 := HS6.out.sched.c6
          have s7 := HS6.out.sched.c7
          have f4 := HS6.out.sched.free 4
          have f5 := HS6.out.sched.free 5
          have f6 := HS6.out.sched.free 6
          have f7 := HS6.out.sched.free 7
          go_wp2_with fail
          go_ret2
          rw [HEq.out]
          exact ⟨rfl, HS6.out.setMoment false 0 0 E, (((HU6.out.setCell (p := ⟨x.sb, 4, none⟩) (by simp [Ids.own]) _).setCell (p := ⟨x.sb, 5, none⟩) (by simp [Ids.own]) _).setCell (p := ⟨x.sb, 6, none⟩) (by simp [Ids.own]) _).setCell (p := ⟨x.sb, 7, none⟩) (by simp [Ids.own]) _⟩
end Go.Proofs.Ythfkbenkladonaa
