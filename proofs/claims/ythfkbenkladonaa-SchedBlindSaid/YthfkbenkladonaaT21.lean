/-
  SchedBlind where the configuration has windows and keeps the rules: it answers true. Conditions: the windows and numbers lie in memory.
-/
import Derived.Test.YthfkbenkladonaaT20
namespace Go.Proofs.Ythfkbenkladonaa
open Go.RowKit
attribute [local go_sem] max2_max min2_min max_two min_two

theorem plan_good {M G : Int} {ws : List Sc.Win} (he : planErr M G ws = 0) : Sc.Good M G ws := by
  unfold planErr at he
  by_cases hb : M < 1 ∨ 16777216 < M ∨ G < 0 ∨ 16777216 < G
  · rw [if_pos hb] at he; omega
  · rw [if_neg hb] at he
    by_cases hl : 32 < ws.length
    · rw [if_pos hl] at he; omega
    · rw [if_neg hl] at he
      exact good_of (by omega) (by omega) (by omega) (by omega) (by omega) he

def both (x y : Ids) : List Nat := x.own ++ y.own

theorem both_l {x y : Ids} {w w' : World} (u : Upd x.own w w') : Upd (both x y) w w' := u.mono (fun _ hk => List.mem_append_left _ hk)
theorem both_r {x y : Ids} {w w' : World} (u : Upd y.own w w') : Upd (both x y) w w' := u.mono (fun _ hk => List.mem_append_right _ hk)
theorem not_both {x y : Ids} {n B b B' : Nat} (hx : x.above n B) (hy : y.above n B') (h1 : b < B) (h2 : b < B') : b ∉ both x y := by
  intro h
  rcases List.mem_append.1 h with h | h
  · exact not_own hx h1 h
  · exact not_own hy h2 h

theorem IntsAt.blocks {w : World} {A : Option Addr} {n : Nat} {zs : List Int} (h : IntsAt w A n zs) {x : Ids} {m B : Nat} (hx : x.above m B) (hB : w.heap.size ≤ B) : 0 < n → ∀ b off, A = some ⟨b, off, none⟩ → b ∉ x.own := by
  intro hn b off e
  obtain ⟨b2, off2, e2, hlt, _⟩ := h hn
  rw [e2] at e
  cases e
  exact not_own hx (by omega)

theorem IntsAt.kept {w w1 w2 : World} {A : Option Addr} {n : Nat} {zs : List Int} (h : IntsAt w A n zs) (u1 : Upd [] w w1) {S : List Nat} (u2 : Upd S w1 w2) (hS : ∀ b, b < w.heap.size → b ∉ S) : IntsAt w2 A n zs := by
  intro hn
  obtain ⟨b, off, e, hlt, hc⟩ := h hn
  refine ⟨b, off, e, Nat.lt_of_lt_of_le hlt (Nat.le_trans u1.size u2.size), fun j hj => ?_⟩
  have h1 := (World.cell?_of_block (w := w) (u1.block b hlt (by simp))).trans (hc j hj)
  exact (World.cell?_of_block (w := w1) (u2.block b (Nat.lt_of_lt_of_le hlt u1.size) (hS b hlt))).trans h1

set_option maxRecDepth 100000 in
set_option maxHeartbeats 8000000 in
theorem blind_main (f M G s l d : Int) (P : Value) (A : Option Addr) (cap : Nat) (C : Value) (ws : List Sc.Win) (who : Int) (B1 : Option Addr) (m1 c1 : Nat) (z1 : List Int) (B2 : Option Addr) (m2 c2 : Nat) (z2 : List Int) (B3 : Option Addr) (m3 c3 : Nat) (z3 : List Int) (w : World)
    (h : WinsAt w A ws) (hz1 : IntsAt w B1 m1 z1) (hz2 : IntsAt w B2 m2 z2) (hz3 : IntsAt w B3 m3 z3) (hn : 0 < ws.length) (he : planErr M G ws = 0) :
    Calls Try.prog 4 #[cfgV f M G s l d P A ws.length cap C, .int .i64 who, .slice B1 m1 c1, .slice B2 m2 c2, .slice B3 m3 c3] w fun e w' => e = .returned (.bool true) ∧ Upd [] w w' := by
  have hg := plan_good he
  have hn32 := hg.n
  have hM1 := hg.m1
  have hM2 := hg.m2
  have hG1 := hg.g1
  have hG2 := hg.g2
  have HNB := Lib.hid (fun W (u : Upd [] w W) => new_ok f M G s l d P A cap C ws W (h.upd u (fun _ _ _ => by simp)) hn he)
  have HG := Lib.hid hg
  have HZ1 := Lib.hid hz1
  have HZ2 := Lib.hid hz2
  have HZ3 := Lib.hid hz3
  clear h he hg hz1 hz2 hz3
  unfold cfgV at HNB ⊢
  go_enter Try.func4, Try.ntmps4
  go_wp2_with fail
  refine (works_any _).mono ?_
  rintro e w1 ⟨rfl, hu⟩
  have hB := hu.blk (Blk.new w #[.int .i64 f, .int .i64 M, .int .i64 G, .int .i64 s, .int .i64 l, .int .i64 d, P, .slice A ws.length cap, C] 26) (by simp)
  have HB := Lib.hid hB
  have HU := Lib.hid (((Upd.refl [] w).alloc (.cells #[.int .i64 f, .int .i64 M, .int .i64 G, .int .i64 s, .int .i64 l, .int .i64 d, P, .slice A ws.length cap, C] 26)).trans hu)
  have q0 := hB.c0; have q1 := hB.c1; have q2 := hB.c2; have q3 := hB.c3; have q4 := hB.c4; have q5 := hB.c5; have q6 := hB.c6; have q7 := hB.c7; have q8 := hB.c8
  clear hB hu
  go_wp2_with fail
  refine (HNB.out w1 HU.out).mono ?_
  rintro e w2 ⟨x, rfl, hs, hx, hu2⟩
  have hB := hu2.blk HB.out (by simp)
  have HB2 := Lib.hid hB
  have HU2 := Lib.hid (HU.out.trans hu2)
  have hsz1 := HU.out.size
  have hs12 := hu2.size
  have hbl := HB.out.lt
  have HX := Lib.hid hx
  have HS := Lib.hid hs
  clear hu2 hs hx q0 q1 q2 q3 q4 q5 q6 q7 q8 HB HU
  have q0 := hB.c0; have q1 := hB.c1; have q2 := hB.c2; have q3 := hB.c3; have q4 := hB.c4; have q5 := hB.c5; have q6 := hB.c6; have q7 := hB.c7; have q8 := hB.c8
  clear hB
  go_wp2_with fail
  refine (HNB.out w2 HU2.out).mono ?_
  rintro e w3 ⟨y, rfl, hs, hy, hu3⟩
  have hB := hu3.blk HB2.out (by simp)
  have HB3 := Lib.hid hB
  have HU3 := Lib.hid (HU2.out.trans hu3)
  have hsz2 := HU2.out.size
  have hb2l := HB2.out.lt
  have HY := Lib.hid hy
  have HSX := Lib.hid (HS.out.still hu3)
  have HSY := Lib.hid hs
  have HK1 := Lib.hid (fun W W' S (hh : SchedAt W x M G ws S) (u : Upd y.own W W') => keep_first HS.out hn hy hh u)
  have HK2 := Lib.hid (fun W W' S (hh : SchedAt W y M G ws S) (u : Upd x.own W W') => keep_second HS.out hn hy hh u)
  clear hu3 hs hy q0 q1 q2 q3 q4 q5 q6 q7 q8 HNB HB2 HS
  have q2 := hB.c2
  have q7 := hB.c7
  clear hB
  have hn0 : ((ws.length : Int) == 0) = false := beq_eq_false_iff_ne.2 (by omega)
  have HNO := Lib.hid (fun b (hb : b < w1.heap.size) => @not_both x y ws.length w1.heap.size b w2.heap.size HX.out HY.out hb (by omega))
  go_wp2_with fail
  generalize wrap64 ((IntKind.u64.wrap who).tmod ↑ws.length) = t at *
  go_loopw [16] (fun v wr => ∃ k : Nat, k ≤ 40 ∧ v = .int .i64 k ∧ SchedAt wr x M G ws (St.leave (Sc.nowAt M ws k)) ∧ SchedAt wr y M G ws (St.leave (Sc.nowAt M ws k)) ∧ Upd (both x y) w3 wr) (fun v _ => 40 - (intOf v).toNat)
  case atStart => exact ⟨0, by omega, rfl, HSX.out, HSY.out, Upd.refl _ _⟩
  case round =>
    obtain ⟨k, hk, rfl, hsx, hsy, hup⟩ := hrel
    have HSX1 := Lib.hid hsx
    have HSY1 := Lib.hid hsy
    have HP1 := Lib.hid hup
    clear hsx hsy hup q2 q7
    by_cases hlt : k < 40
    · have hex := enter_round x M G ws wr k HG.out hn (by omega) HSX1.out
      have hey := fun W hW => enter_round y M G ws W k HG.out hn (by omega) hW
      have hpl := Place.of HG.out hn k (by omega)
      have hns := nowAt_next M ws k
      have hil := Nat.mod_lt k hn
      generalize k % ws.length = i at *
      generalize k / ws.length = j at *
      have HPL := Lib.hid hpl
      have HNS := Lib.hid hns
      have HEY := Lib.hid hey
      clear hpl hns hey
      go_wp2_with fail
      refine hex.mono ?_
      rintro e w4 ⟨rfl, hs4, hu4⟩
      have HSX4 := Lib.hid hs4
      have HSY4 := Lib.hid (HK2.out _ _ _ HSY1.out hu4)
      have HP4 := Lib.hid (HP1.out.trans (both_l hu4))
      clear hs4 hu4 hex
      go_wp2_with fail
      refine (HEY.out w4 HSY4.out).mono ?_
      rintro e w5 ⟨rfl, hs5, hu5⟩
      have HSX5 := Lib.hid (HK1.out _ _ _ HSX4.out hu5)
      have HSY5 := Lib.hid hs5
      have HP5 := Lib.hid (HP4.out.trans (both_r hu5))
      clear hs5 hu5 HEY
      have sx0 := HSX5.out.sched.c0
      have sy0 := HSY5.out.sched.c0
      go_wp2_with fail
      generalize hbb : (St.inWin M G ws (j : Int) i (Sc.nowAt M ws k) 0).now = bb at *
      have HCX := Lib.hid HSX5.out.clock
      have HCY := Lib.hid HSY5.out.clock
      rw [hbb] at HCX HCY
      clear hbb
      have hbb0 : (bb != bb) = false := by simp
      go_quiet (first | (go_at_call_of 10 (Value.pointer (some ⟨x.cb, 0, none⟩)); exact Calls.quiet_of_same ((now_any _ _ _ _ _ (HCX.out.drewN _)).mono fun _ _ ⟨a, b⟩ => ⟨a, b.symm⟩)) | (go_at_call_of 10 (Value.pointer (some ⟨y.cb, 0, none⟩)); exact Calls.quiet_of_same ((now_any _ _ _ _ _ (HCY.out.drewN _)).mono fun _ _ ⟨a, b⟩ => ⟨a, b.symm⟩)))
      have HSX6 := Lib.hid (HSX5.out.drewN nq)
      have HSY6 := Lib.hid (HSY5.out.drewN nq)
      have HP6 := Lib.hid (HP5.out.drewN nq)
      clear sx0 sy0 HCX HCY hbb0 HSX5 HSY5 HP5 HSX4 HSY4 HP4
      generalize w5.drewN nq = w6 at *
      by_cases hit : (i : Int) = t
      · have hit0 : ((i : Int) == t) = true := by simpa using hit
        clear hit
        have HG1 := Lib.hid hG1
        go_wp2_with fail
        go_loopw [23] (fun v wq => ∃ (jj : Nat) (u : Int), jj ≤ 20 ∧ v = .int .i64 jj ∧ UsedOk ws i u ∧ SchedAt wq x M G ws (St.inWin M G ws j i (Sc.nowAt M ws k) u) ∧ SchedAt wq y M G ws (St.inWin M G ws j i (Sc.nowAt M ws k) u) ∧ Upd (both x y) w3 wq) (fun v _ => 21 - (intOf v).toNat)
        case atStart => exact ⟨0, 0, by omega, rfl, ⟨by omega, Or.inl rfl⟩, HSX6.out, HSY6.out, HP6.out⟩
        case round =>
          obtain ⟨jj, u, hjj, rfl, huo, hsx, hsy, hup⟩ := hrel
          have HUO := Lib.hid huo
          have HSX7 := Lib.hid hsx
          have HSY7 := Lib.hid hsy
          have HP7 := Lib.hid hup
          clear huo hsx hsy hup
          by_cases hlj : jj < m1 ∧ jj < 20
          · obtain ⟨hl1, hl2⟩ := hlj
            obtain ⟨b1, o1, hB1, hlt1, hc1⟩ := (HZ1.out.kept HU3.out HP7.out (fun b hb => HNO.out b (by omega))) (by omega)
            have hcj := hc1 jj hl1
            subst hB1
            have hB7 := HP7.out.blk HB3.out (HNO.out _ hbl)
            have HB7 := Lib.hid hB7
            have q2 := hB7.c2
            clear hB7 hc1
            generalize z1.getD jj 0 = z at *
            have eG : IntKind.i64.wrap (G + 1) = G + 1 := IntWalk.i64_in _ (by omega)
            have eU : IntKind.u64.wrap (G + 1) = G + 1 := IntWalk.u64_in _ (by omega)
            go_wp2_with fail
            go_quiet (fail)
            clear eG eU
            have HSX8 := Lib.hid (HSX7.out.drewN nq)
            have HSY8 := Lib.hid (HSY7.out.drewN nq)
            have HP8 := Lib.hid (HP7.out.drewN nq)
            clear q2 hcj HB7
            generalize wr.drewN nq = w8 at *
            have hcr := cost_range z G hG1 hG2
            generalize wrap64 ((IntKind.u64.wrap z).tmod (G + 1)) = c at *
            go_wp2_with fail
            refine (may_win x M G ws _ j i (Sc.nowAt M ws k) u HSX8.out).mono ?_
            rintro e wa ⟨rfl, na, rfl⟩
            go_wp2_with fail
            refine (may_win y M G ws _ j i (Sc.nowAt M ws k) u (HSY8.out.drewN na)).mono ?_
            rintro e wa ⟨rfl, nb, rfl⟩
            generalize decide (u < budgetOf G ws i) = dd at *
            have hd0 : (dd != dd) = false := by simp
            have htx := time_any x M G ws _ _ (HSX8.out.drewN (na + nb))
            have hty := time_any y M G ws _ _ (HSY8.out.drewN (na + nb))
            generalize (if (St.inWin M G ws (j : Int) i (Sc.nowAt M ws k) u).inside = true then (St.inWin M G ws (j : Int) i (Sc.nowAt M ws k) u).now else (St.inWin M G ws (j : Int) i (Sc.nowAt M ws k) u).last) = tt at htx hty
            have HTX := Lib.hid htx
            have HTY := Lib.hid hty
            clear htx hty
            have ht0 : (tt != tt) = false := by simp
            go_wp2_with fail
            refine HTX.out.mono ?_
            rintro e wa ⟨rfl, rfl⟩
            go_wp2_with fail
            refine HTY.out.mono ?_
            rintro e wa ⟨rfl, rfl⟩
            go_wp2_with fail
            have hsx := spend_any x M G ws _ j i (Sc.nowAt M ws k) u c HPL.out HUO.out hcr.1 hcr.2 (HSX8.out.drewN (na + nb))
            have hsy := fun W hW => spend_any y M G ws W j i (Sc.nowAt M ws k) u c HPL.out HUO.out hcr.1 hcr.2 hW
            generalize (if u < budgetOf G ws i then (0 : Int) else 8) = rr at hsx hsy
            generalize (if u < budgetOf G ws i then u + c else u) = u' at hsx hsy
            have HSPY := Lib.hid hsy
            clear hsy
            have hr0 : (rr != rr) = false := by simp
            refine hsx.mono ?_
            rintro e wa ⟨rfl, hs, huo, hu⟩
            have HSX9 := Lib.hid hs
            have HUO9 := Lib.hid huo
            have HSY9 := Lib.hid (HK2.out _ _ _ (HSY8.out.drewN (na + nb)) hu)
            have HP9 := Lib.hid ((HP8.out.drewN (na + nb)).trans (both_l hu))
            clear hs huo hu hsx
            go_wp2_with fail
            refine (HSPY.out _ HSY9.out).mono ?_
            rintro e wb ⟨rfl, hs, _, hu⟩
            have HSYb := Lib.hid hs
            have HSXb := Lib.hid (HK1.out _ _ _ HSX9.out hu)
            have HPb := Lib.hid (HP9.out.trans (both_r hu))
            clear hs hu
            go_wp2_with fail
            go_roundw
            case rel => exact ⟨jj + 1, u', by omega, by go_num, HUO9.out, HSXb.out, HSYb.out, HPb.out⟩
            case measure => simp [intOf]; omega
          · by_cases hl1 : jj < m1
            · have hl2 : 20 ≤ jj := by omega
              clear hlj
              go_wp2_with fail
              refine (leave_win x M G ws _ j i (Sc.nowAt M ws k) u HPL.out HUO.out HSX7.out).mono ?_
              rintro e wa ⟨rfl, hs, hu⟩
              have HSXa := Lib.hid hs
              have HSYa := Lib.hid (HK2.out _ _ _ HSY7.out hu)
              have HPa := Lib.hid (HP7.out.trans (both_l hu))
              clear hs hu
              go_wp2_with fail
              refine (leave_win y M G ws _ j i (Sc.nowAt M ws k) u HPL.out HUO.out HSYa.out).mono ?_
              rintro e wb ⟨rfl, hs, hu⟩
              have HSXb := Lib.hid (HK1.out _ _ _ HSXa.out hu)
              have HSYb := Lib.hid hs
              have HPb := Lib.hid (HPa.out.trans (both_r hu))
              clear hs hu
              have sx0 := HSXb.out.sched.c0
              have sy0 := HSYb.out.sched.c0
              have hlx := HSXb.out.clock
              have hly := HSYb.out.clock
              simp only [St.leave] at hlx hly
              have HLX := Lib.hid hlx
              have HLY := Lib.hid hly
              clear hlx hly
              generalize endAt M ws (j : Int) i = E at *
              have hE0 : (E != E) = false := by simp
              go_wp2_with fail
              go_quiet (first | (go_at_call_of 10 (Value.pointer (some ⟨x.cb, 0, none⟩)); exact Calls.quiet_of_same ((now_any _ _ _ _ _ (HLX.out.drewN _)).mono fun _ _ ⟨a, b⟩ => ⟨a, b.symm⟩)) | (go_at_call_of 10 (Value.pointer (some ⟨y.cb, 0, none⟩)); exact Calls.quiet_of_same ((now_any _ _ _ _ _ (HLY.out.drewN _)).mono fun _ _ ⟨a, b⟩ => ⟨a, b.symm⟩)))
              go_wp2_with fail
              go_roundw
              case rel => exact ⟨k + 1, by omega, by go_num, by rw [HNS.out]; exact HSXb.out.drewN _, by rw [HNS.out]; exact HSYb.out.drewN _, HPb.out.drewN _⟩
              case measure => simp [intOf]; omega
            · clear hlj
              go_wp2_with fail
              refine (leave_win x M G ws _ j i (Sc.nowAt M ws k) u HPL.out HUO.out HSX7.out).mono ?_
              rintro e wa ⟨rfl, hs, hu⟩
              have HSXa := Lib.hid hs
              have HSYa := Lib.hid (HK2.out _ _ _ HSY7.out hu)
              have HPa := Lib.hid (HP7.out.trans (both_l hu))
              clear hs hu
              go_wp2_with fail
              refine (leave_win y M G ws _ j i (Sc.nowAt M ws k) u HPL.out HUO.out HSYa.out).mono ?_
              rintro e wb ⟨rfl, hs, hu⟩
              have HSXb := Lib.hid (HK1.out _ _ _ HSXa.out hu)
              have HSYb := Lib.hid hs
              have HPb := Lib.hid (HPa.out.trans (both_r hu))
              clear hs hu
              have sx0 := HSXb.out.sched.c0
              have sy0 := HSYb.out.sched.c0
              have hlx := HSXb.out.clock
              have hly := HSYb.out.clock
              simp only [St.leave] at hlx hly
              have HLX := Lib.hid hlx
              have HLY := Lib.hid hly
              clear hlx hly
              generalize endAt M ws (j : Int) i = E at *
              have hE0 : (E != E) = false := by simp
              go_wp2_with fail
              go_quiet (first | (go_at_call_of 10 (Value.pointer (some ⟨x.cb, 0, none⟩)); exact Calls.quiet_of_same ((now_any _ _ _ _ _ (HLX.out.drewN _)).mono fun _ _ ⟨a, b⟩ => ⟨a, b.symm⟩)) | (go_at_call_of 10 (Value.pointer (some ⟨y.cb, 0, none⟩)); exact Calls.quiet_of_same ((now_any _ _ _ _ _ (HLY.out.drewN _)).mono fun _ _ ⟨a, b⟩ => ⟨a, b.symm⟩)))
              go_wp2_with fail
              go_roundw
              case rel => exact ⟨k + 1, by omega, by go_num, by rw [HNS.out]; exact HSXb.out.drewN _, by rw [HNS.out]; exact HSYb.out.drewN _, HPb.out.drewN _⟩
              case measure => simp [intOf]; omega
      · have hit0 : ((i : Int) == t) = false := by simpa using hit
        have HB6 := Lib.hid (HP6.out.blk HB3.out (HNO.out _ hbl))
        have q2 := HB6.out.c2
        go_wp2_with fail
        refine (idles_any x M G ws w6 j i (Sc.nowAt M ws k) 0 HPL.out ⟨by omega, Or.inl rfl⟩ HSX6.out B2 m2 c2 z2 k (HZ2.out.kept HU3.out HP6.out (fun b hb => HNO.out b (by omega))) (HZ2.out.blocks HX.out (by omega))).mono ?_
        rintro e w7 ⟨rfl, u1, hs7, huo7, hu7⟩
        have HSX7 := Lib.hid hs7
        have HUO7 := Lib.hid huo7
        have HSY7 := Lib.hid (HK2.out _ _ _ HSY6.out hu7)
        have HP7 := Lib.hid (HP6.out.trans (both_l hu7))
        have HB7 := Lib.hid (HP7.out.blk HB3.out (HNO.out _ hbl))
        clear hs7 huo7 hu7 q2
        have q2 := HB7.out.c2
        go_wp2_with fail
        refine (idles_any y M G ws w7 j i (Sc.nowAt M ws k) 0 HPL.out ⟨by omega, Or.inl rfl⟩ HSY7.out B3 m3 c3 z3 k (HZ3.out.kept HU3.out HP7.out (fun b hb => HNO.out b (by omega))) (HZ3.out.blocks HY.out (by omega))).mono ?_
        rintro e w8 ⟨rfl, u2, hs8, huo8, hu8⟩
        have HSY8 := Lib.hid hs8
        have HUO8 := Lib.hid huo8
        have HSX8 := Lib.hid (HK1.out _ _ _ HSX7.out hu8)
        have HP8 := Lib.hid (HP7.out.trans (both_r hu8))
        clear hs8 huo8 hu8 q2
        go_wp2_with fail
        refine (leave_win x M G ws _ j i (Sc.nowAt M ws k) u1 HPL.out HUO7.out HSX8.out).mono ?_
        rintro e wa ⟨rfl, hs, hu⟩
        have HSXa := Lib.hid hs
        have HSYa := Lib.hid (HK2.out _ _ _ HSY8.out hu)
        have HPa := Lib.hid (HP8.out.trans (both_l hu))
        clear hs hu
        go_wp2_with fail
        refine (leave_win y M G ws _ j i (Sc.nowAt M ws k) u2 HPL.out HUO8.out HSYa.out).mono ?_
        rintro e wb ⟨rfl, hs, hu⟩
        have HSXb := Lib.hid (HK1.out _ _ _ HSXa.out hu)
        have HSYb := Lib.hid hs
        have HPb := Lib.hid (HPa.out.trans (both_r hu))
        clear hs hu
        have sx0 := HSXb.out.sched.c0
        have sy0 := HSYb.out.sched.c0
        have hlx := HSXb.out.clock
        have hly := HSYb.out.clock
        simp only [St.leave] at hlx hly
        have HLX := Lib.hid hlx
        have HLY := Lib.hid hly
        clear hlx hly
        generalize endAt M ws (j : Int) i = E at *
        have hE0 : (E != E) = false := by simp
        go_wp2_with fail
        go_quiet (first | (go_at_call_of 10 (Value.pointer (some ⟨x.cb, 0, none⟩)); exact Calls.quiet_of_same ((now_any _ _ _ _ _ (HLX.out.drewN _)).mono fun _ _ ⟨a, b⟩ => ⟨a, b.symm⟩)) | (go_at_call_of 10 (Value.pointer (some ⟨y.cb, 0, none⟩)); exact Calls.quiet_of_same ((now_any _ _ _ _ _ (HLY.out.drewN _)).mono fun _ _ ⟨a, b⟩ => ⟨a, b.symm⟩)))
        go_wp2_with fail
        go_roundw
        case rel => exact ⟨k + 1, by omega, by go_num, by rw [HNS.out]; exact HSXb.out.drewN _, by rw [HNS.out]; exact HSYb.out.drewN _, HPb.out.drewN _⟩
        case measure => simp [intOf]; omega
    · have hge : 40 ≤ k := by omega
      clear hlt
      go_wp2_with fail
      go_ret
      exact ⟨rfl, HU3.out.fresh HP1.out (fun a ha => by
        rcases List.mem_append.1 ha with h | h
        · have := above_own HX.out a h; omega
        · have := above_own HY.out a h; omega)⟩
end Go.Proofs.Ythfkbenkladonaa
