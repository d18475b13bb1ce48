/-
  Enter, where it succeeds: which window, and what the time is then. Conditions: those of a good frame table; the window's end lies within the bound.
-/
import Derived.Test.YthfkbenkladonaaT4
namespace Go.Proofs.Ythfkbenkladonaa
open Go.RowKit
attribute [local go_sem] max2_max min2_min max_two min_two

set_option maxRecDepth 100000 in
set_option maxHeartbeats 800000 in
theorem enter_ok (x : Ids) (M G : Int) (ws : List Sc.Win) (s : St) (w : World) (h : SchedAt w x M G ws s) (hg : Sc.Good M G ws) (hn : 0 < ws.length)
    (hin : s.inside = false) (hp : s.pend = 0) (h0 : 0 ≤ s.now) (h1 : s.now ≤ 281474976710656) (k : Int) (i : Nat) (hnx : Sc.next M ws s.now = (k, i)) (hi : i < ws.length)
    (hk : 0 ≤ k) (hkM : 0 ≤ k * M) (hend : k * M + (ws.getD i default).s + (ws.getD i default).l ≤ 281474976710656) (hle : s.now ≤ k * M + (ws.getD i default).s) :
    Calls Try.prog 9 #[.pointer (some ⟨x.sb, 0, none⟩)] w fun e w' => e = .returned (.tuple #[.int .i64 i, .int .i64 k, .int .i64 0]) ∧ SchedAt w' x M G ws (s.enter ws M G k i) ∧ Upd x.own w w' := by
  have hw := hg.w i hi
  have hm2 := hg.m2
  have hgg : 0 ≤ G := hg.g1
  have hq : k ≤ 281474976710656 / M := Int.le_ediv_of_mul_le (by have := hg.m1; omega) (by omega)
  have HN := Lib.hid (fun W hW => next_ok x.pb x.wb M G s.now ws W hW hn h0 h1 hg.m1)
  have HSt := Lib.hid (fun W hW => start_ok x.pb x.wb M G k ws i W hW hi hk hg.m1 hq hkM (by omega) hw.1 (by omega))
  have HWi := Lib.hid (fun W hW => window_ok x.pb x.wb M G ws i W hW hi)
  have HBu := Lib.hid (fun W hW => budget_ok x.pb x.wb M G ws i W hW hi hw.2.1 (by omega) hg.g1 hg.g2)
  rw [hnx] at HN
  have henter : s.enter ws M G k i = ⟨k * M + (ws.getD i default).s + min 40 (ws.getD i default).l, true, k * M + (ws.getD i default).s + min 40 (ws.getD i default).l + max 0 ((ws.getD i default).l - 40 - G),
    if max 0 ((ws.getD i default).l - 40 - G) ≤ 0 then 1 else 0, true, i, k, s.last⟩ := rfl
  have HE := Lib.hid henter
  clear henter
  have HS := Lib.hid h
  obtain ⟨hsc, hcl, hpi, hpl, hpe, n1, n2, n3⟩ := h
  have s0 := hsc.c0
  have s2 := hsc.c2
  have s4 := hsc.c4
  rw [hin] at s4
  clear hnx hg hsc hcl hpi hpl hpe n1 n2 n3
  generalize (ws.getD i default).s = S at *
  generalize (ws.getD i default).l = L at *
  generalize (ws.getD i default).o = O at *
  go_enter Try.func9, Try.ntmps9
  go_wp2_with fail
  go_quiet (first | (go_at_call 10; exact Calls.quiet_of_same ((now_any _ _ _ _ _ (HS.out.drewN _).clock).mono fun _ _ ⟨a, b⟩ => ⟨a, b.symm⟩)) | (go_at_call 26; exact Calls.quiet_of (HN.out _ (HS.out.drewN _).plan)))
  go_wp2_with fail
  refine (HSt.out _ (HS.out.drewN _).plan).mono ?_
  rintro e w1 ⟨rfl, hu1⟩
  have HS1 := Lib.hid ((HS.out.drewN nq).still hu1)
  have HU1 := Lib.hid ((drewN_upd x.own w nq).trans (hu1.mono (by simp)))
  clear hu1 s0 s2 s4
  have s2 := HS1.out.sched.c2
  go_wp2_with fail
  refine (HWi.out _ HS1.out.plan).mono ?_
  rintro e w2 ⟨rfl, hu2⟩
  have HS2 := Lib.hid (HS1.out.still hu2)
  have HU2 := Lib.hid (HU1.out.trans (hu2.mono (by simp)))
  clear hu2 s2
  have s0 := HS2.out.sched.c0
  have s2 := HS2.out.sched.c2
  have s7 := HS2.out.sched.c7
  have g1 : decide (281474976710656 - (k * M + S) < L) = false := by simp; omega
  have hb0 : 0 ≤ min 40 L := by omega
  have hb1 : min 40 L ≤ 40 := by omega
  go_upto_region 11 with fail
  have hs3 := HS2.out.still ((Upd.refl [] w2).alloc (.cells #[.int .i64 O, .int .i64 S, .int .i64 L] 45))
  have hu3 := HU2.out.trans ((Upd.refl x.own w2).alloc (.cells #[.int .i64 O, .int .i64 S, .int .i64 L] 45))
  generalize w2.alloc (.cells #[.int .i64 O, .int .i64 S, .int .i64 L] 45) = w3 at *
  have HS3 := Lib.hid hs3
  have HU3 := Lib.hid hu3
  clear hs3 hu3 s0 s2 s7 HS2 HU2 HS1 HU1 HN HSt HWi
  go_cut [] (fun wx => SchedAt wx x M G ws { s with now := k * M + S + min 40 L } ∧ Upd x.own w wx)
  case first =>
    have s0 := HS3.out.sched.c0
    have sl := HS3.out.sched.lt
    have e3 : IntKind.i64.wrap (k * M + S + min 40 L - s.now) = k * M + S + min 40 L - s.now := IntWalk.i64_in _ (by omega)
    go_region_with (first
      | (go_at_call 10; go_must (refine (now_any x.cb s.now s.at' s.armed _ ?_).mono ?_; (first | exact HS3.out.clock.drew | exact HS3.out.clock); rintro e w' ⟨rfl, rfl⟩))
      | (go_at_call 29; go_must (refine (advance_any x.cb s.now s.at' _ s.armed _ ?_ ?_ h0 ?_).mono ?_; (first | exact HS3.out.clock.drew | exact HS3.out.clock); omega; omega; rintro e w' ⟨rfl, rfl⟩)))
    all_goals
      go_wp2_with fail
      go_meet
      have h1 := (HS3.out.setNow (k * M + S + min 40 L)).drew
      have h2 := (HU3.out.setCell (p := ⟨x.cb, 0, none⟩) (by simp [Ids.own]) (.int .i64 (k * M + S + min 40 L))).drew
      have eX : s.now + (k * M + S + min 40 L - s.now) = k * M + S + min 40 L := by omega
      generalize s.now + (k * M + S + min 40 L - s.now) = X at eX ⊢
      subst eX
      exact ⟨h1, h2⟩
  case rest =>
    obtain ⟨hs4, hu4⟩ := hcut
    go_upto_region 12 with fail
    have HS4 := Lib.hid hs4
    have HU4 := Lib.hid hu4
    clear hs4 hu4
    generalize hB : k * M + S + min 40 L = B at *
    have HB := Lib.hid hB
    generalize hU : max 0 (L - 40 - G) = U at *
    have HUU := Lib.hid hU
    have b0 : 0 ≤ B := by omega
    have b1 : B + U ≤ 281474976710656 := by have := hgg; omega
    have b2 : 0 ≤ U := by omega
    clear hB hU
    go_cut [] (fun wx => SchedAt wx x M G ws { s with now := B, armed := true, at' := B + U } ∧ Upd x.own w wx)
    case first =>
      have s0 := HS4.out.sched.c0
      have s2 := HS4.out.sched.c2
      have sl := HS4.out.sched.lt
      have e3 : IntKind.i64.wrap (B + U) = B + U := IntWalk.i64_in _ (by omega)
      go_region_with (first
        | (go_at_call 31; go_must (refine (HBu.out _ ?_).mono ?_; (first | exact HS4.out.drew.plan | exact HS4.out.plan); rintro e w' ⟨rfl, hu5⟩; have HS5 := Lib.hid (HS4.out.drew.still hu5); have HU5 := Lib.hid ((HU4.out.drew).trans (hu5.mono (by simp))); have t0 := HS5.out.sched.c0; have t2 := HS5.out.sched.c2; clear hu5))
        | (go_at_call 30; go_must (refine (arm_any x.cb _ _ _ _ _ HS5.out.clock ?_ ?_).mono ?_; omega; omega; rintro e w' ⟨rfl, rfl⟩)))
      all_goals
        go_wp2_with fail
        go_meet
        exact ⟨HS5.out.setTimer true (B + U), (HU5.out.setCell (p := ⟨x.cb, 1, none⟩) (by simp [Ids.own]) (.bool true)).setCell (p := ⟨x.cb, 2, none⟩) (by simp [Ids.own]) (.int .i64 (B + U))⟩
    case rest =>
      obtain ⟨hs4, hu4⟩ := hcut
      have s4 := hs4.sched.c4
      have s5 := hs4.sched.c5
      have s6 := hs4.sched.c6
      have s7 := hs4.sched.c7
      have f4 := hs4.sched.free 4
      have f5 := hs4.sched.free 5
      have f6 := hs4.sched.free 6
      have f7 := hs4.sched.free 7
      have HT := Lib.hid (hs4.setMoment true i k s.last)
      have HU := Lib.hid ((((hu4.setCell (p := ⟨x.sb, 4, none⟩) (by simp [Ids.own]) (.bool true)).setCell (p := ⟨x.sb, 5, none⟩) (by simp [Ids.own]) (.int .i64 i)).setCell (p := ⟨x.sb, 6, none⟩) (by simp [Ids.own]) (.int .i64 k)).setCell (p := ⟨x.sb, 7, none⟩) (by simp [Ids.own]) (.int .i64 s.last))
      clear hs4 hu4
      go_wp2_with fail
      refine (tick_any x M G ws _ _ HT.out rfl).mono ?_
      rintro e w6 ⟨rfl, hs6, hu6⟩
      have HS6 := Lib.hid hs6
      have HU6 := Lib.hid (HU.out.trans hu6)
      clear hs6 hu6 s4 s5 s6 s7 f4 f5 f6 f7
      go_wp2_with fail
      go_ret3
      refine ⟨rfl, ?_, HU6.out⟩
      have h6 := HS6.out
      rw [HE.out]
      simp only [St.ticked, hp] at h6
      have e1 : (if True ∧ B + U ≤ B then (1 : Int) else 0) = if U ≤ 0 then 1 else 0 := by
        by_cases hu : U ≤ 0
        · rw [if_pos hu, if_pos ⟨trivial, by omega⟩]
        · rw [if_neg hu, if_neg (fun h => hu (by omega))]
      rw [e1] at h6
      exact h6
end Go.Proofs.Ythfkbenkladonaa
