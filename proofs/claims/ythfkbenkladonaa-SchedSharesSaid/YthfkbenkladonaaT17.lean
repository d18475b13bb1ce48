/-
  SchedShares where the configuration has windows and keeps the rules: it answers true. Conditions: the windows and numbers lie in memory.
-/
import Derived.Test.YthfkbenkladonaaT16
namespace Go.Proofs.Ythfkbenkladonaa
open Go.RowKit
attribute [local go_sem] max2_max min2_min max_two min_two

theorem plan_conds {M G : Int} {ws : List Sc.Win} (he : planErr M G ws = 0) : Sc.Good M G ws := by
  unfold planErr at he
  by_cases hb : M < 1 ∨ 16777216 < M ∨ G < 0 ∨ 16777216 < G
  · rw [if_pos hb] at he; omega
  · rw [if_neg hb] at he
    by_cases hl : 32 < ws.length
    · rw [if_pos hl] at he; omega
    · rw [if_neg hl] at he
      exact good_of (by omega) (by omega) (by omega) (by omega) (by omega) he

theorem cost30 (X : Int) : 1 ≤ wrap64 (1 + wrap64 ((IntKind.u64.wrap X).tmod 30)) ∧ wrap64 (1 + wrap64 ((IntKind.u64.wrap X).tmod 30)) ≤ 30 := by
  have h := cost_range X 29 (by omega) (by omega)
  simp only [show (29 : Int) + 1 = 30 from rfl] at h
  generalize wrap64 ((IntKind.u64.wrap X).tmod 30) = c at *
  unfold wrap64
  omega

set_option maxRecDepth 100000 in
set_option maxHeartbeats 6000000 in
theorem shares_main (f M G s l d : Int) (P : Value) (A : Option Addr) (cap : Nat) (C : Value) (ws : List Sc.Win) (B : Option Addr) (m bcap : Nat) (zs : List Int) (cost : Int) (w : World)
    (h : WinsAt w A ws) (hz : IntsAt w B m zs) (hn : 0 < ws.length) (he : planErr M G ws = 0) :
    Calls Try.prog 3 #[cfgV f M G s l d P A ws.length cap C, .int .i64 cost, .slice B m bcap] w fun e w' => e = .returned (.bool true) ∧ Upd [] w w' := by
  have hg := plan_conds he
  have hn32 := hg.n
  have hM1 := hg.m1
  have hM2 := hg.m2
  have hG1 := hg.g1
  have hG2 := hg.g2
  obtain ⟨b, off, rfl, hwc⟩ := h hn
  have hbw := World.block_lt_of_cell? w _ (hwc 0 _ (flat_get ws 0 hn).1)
  simp only at hbw
  have HNB := Lib.hid (fun W (u : Upd [] w W) => new_ok f M G s l d P (some ⟨b, off, none⟩) cap C ws W (h.upd u (fun _ _ _ => by simp)) hn he)
  have HG := Lib.hid hg
  have HW := Lib.hid hwc
  have HZ := Lib.hid hz
  clear hwc
  clear h he hg hz
  unfold cfgV at HNB ⊢
  go_enter Try.func3, Try.ntmps3
  go_wp2_with fail
  refine (works_any _).mono ?_
  rintro e w1 ⟨rfl, hu⟩
  have hB := hu.blk (Blk.new w #[.int .i64 f, .int .i64 M, .int .i64 G, .int .i64 s, .int .i64 l, .int .i64 d, P, .slice (some ⟨b, off, none⟩) ws.length cap, C] 26) (by simp)
  have HB := Lib.hid hB
  have HU := Lib.hid (((Upd.refl [] w).alloc (.cells #[.int .i64 f, .int .i64 M, .int .i64 G, .int .i64 s, .int .i64 l, .int .i64 d, P, .slice (some ⟨b, off, none⟩) ws.length cap, C] 26)).trans hu)
  have c0 := hB.c0; have c1 := hB.c1; have c2 := hB.c2; have c3 := hB.c3; have c4 := hB.c4; have c5 := hB.c5; have c6 := hB.c6; have c7 := hB.c7; have c8 := hB.c8
  clear hB hu
  go_wp2_with fail
  refine (HNB.out w1 HU.out).mono ?_
  rintro e w2 ⟨x, rfl, hs, hx, hu2⟩
  have HB2 := Lib.hid (hu2.blk HB.out (by simp))
  have HU2 := Lib.hid (HU.out.trans hu2)
  have hsz1 := HU.out.size
  have hbl := HB.out.lt
  have HX := Lib.hid hx
  have HS := Lib.hid hs
  clear hs hx hu2 HNB c0 c1 c2 c3 c4 c5 c6 c7 c8 HU HB
  have c2 := HB2.out.c2
  have c7 := HB2.out.c7
  have hn0 : ((ws.length : Int) == 0) = false := beq_eq_false_iff_ne.2 (by omega)
  have hc30 := cost30 cost
  by_cases hq : G < wrap64 (1 + wrap64 ((IntKind.u64.wrap cost).tmod 30))
  · go_wp2_with fail
    go_ret
    exact ⟨rfl, HU2.out⟩
  · have hq' : wrap64 (1 + wrap64 ((IntKind.u64.wrap cost).tmod 30)) ≤ G := by omega
    clear hq
    go_wp2_with fail
    generalize wrap64 (1 + wrap64 ((IntKind.u64.wrap cost).tmod 30)) = q at *
    go_loopw [9, 10, 11] (fun v9 v10 v11 wr => ∃ (k : Nat) (g : Int), k ≤ 4 * ws.length ∧ v11 = .int .i64 k ∧ v10 = .int .i64 (Sc.tot ws k) ∧ v9 = .int .i64 g ∧ Hid (cnt ws.length k * budgetOf G ws 0 ≤ g) ∧ (0 ≤ g ∧ g ≤ k * 33554432) ∧
        SchedAt wr x M G ws (St.leave (Sc.nowAt M ws k)) ∧ Upd x.own w2 wr) (fun _ _ v11 _ => 4 * ws.length - (intOf v11).toNat)
    case atStart => exact ⟨0, 0, by omega, rfl, rfl, rfl, Lib.hid (by simp [cnt]), ⟨by omega, by omega⟩, HS.out, Upd.refl _ _⟩
    case round =>
      obtain ⟨k, g, hk, rfl, rfl, rfl, HGG, hgb, hs, hup⟩ := hrel
      have htb := tot_bound HG.out hn k
      have HBr := Lib.hid (hup.blk HB2.out (not_own HX.out (by omega)))
      have c2 := HBr.out.c2
      have c7 := HBr.out.c7
      have HS1 := Lib.hid hs
      have HP1 := Lib.hid hup
      clear hs hup
      by_cases hlt : k < 4 * ws.length
      · go_wp2_with fail
        have her := enter_round x M G ws _ k HG.out hn (by omega) HS1.out
        have hpl := Place.of HG.out hn k (by omega)
        have hcs : cnt ws.length (k + 1) = cnt ws.length k + if k % ws.length = 0 then 1 else 0 := rfl
        have hts : Sc.tot ws (k + 1) = Sc.tot ws k + (ws.getD (k % ws.length) default).l := rfl
        have hns := nowAt_next M ws k
        have hil := Nat.mod_lt k hn
        generalize k % ws.length = i at *
        generalize k / ws.length = j at *
        have hw := HG.out.w i hil
        have y2 := (World.cell?_of_block (w := w) (HU2.out.block b hbw (by simp))).trans (HW.out _ _ (flat_get ws i hil).2.2)
        have y2 := (World.cell?_of_block (w := w2) (HP1.out.block b (Nat.lt_of_lt_of_le hbw HU2.out.size) (not_own HX.out (by omega)))).trans y2
        have HY := Lib.hid y2
        have HPL := Lib.hid hpl
        have HCS := Lib.hid hcs
        have HTS := Lib.hid hts
        have HNS := Lib.hid hns
        have hpk := hpl.hk
        have hpkM := hpl.hkM
        have hpe := hpl.hend
        unfold endAt at hpe
        clear hpl hcs hts hns y2
        refine her.mono ?_
        rintro e w3 ⟨rfl, hs3, hu3⟩
        have hclk : Blk w3 x.cb #[.int .i64 ((j : Int) * M + (ws.getD i default).s + min 40 (ws.getD i default).l), .bool true, .int .i64 (St.inWin M G ws j i (Sc.nowAt M ws k) 0).at'] 78 := by
          have := hs3.clock
          simpa [St.inWin, beginAt] using this
        have y2 := (World.cell?_of_block (w := wr) (hu3.block b (Nat.lt_of_lt_of_le (Nat.lt_of_lt_of_le hbw HU2.out.size) HP1.out.size) (not_own HX.out (by omega)))).trans HY.out
        have hb3 := Nat.lt_of_lt_of_le (Nat.lt_of_lt_of_le (Nat.lt_of_lt_of_le hbw HU2.out.size) HP1.out.size) hu3.size
        have HB3 := Lib.hid (hu3.blk HBr.out (not_own HX.out (by omega)))
        rw [← Nat.add_assoc] at y2
        have HCL := Lib.hid hclk
        have HS3 := Lib.hid hs3
        have HP3 := Lib.hid (HP1.out.trans hu3)
        clear hs3 hu3 her hclk c2 c7 HY
        have s0 := HS3.out.sched.c0
        have c2 := HB3.out.c2
        have c7 := HB3.out.c7
        have hEE : endAt M ws j i = (j : Int) * M + (ws.getD i default).s + (ws.getD i default).l := rfl
        have HEE := Lib.hid hEE
        have hBU : budgetOf G ws i = max 0 ((ws.getD i default).l - 40 - G) := rfl
        have HBU := Lib.hid hBU
        clear hEE hBU
        generalize (ws.getD i default).s = S at *
        generalize (ws.getD i default).l = L at *
        have hm0 : 0 ≤ min 40 L := by omega
        have hm1 : min 40 L ≤ 40 := by omega
        go_wp2_with fail
        go_quiet ((go_at_call 10; exact Calls.quiet_of_same ((now_any _ _ _ _ _ (HCL.out.drewN _)).mono fun _ _ ⟨a, b⟩ => ⟨a, b.symm⟩)))
        have HLV := Lib.hid (fun W u (huo : UsedOk ws i u) hs => leave_win x M G ws W j i (Sc.nowAt M ws k) u HPL.out huo hs)
        rw [HEE.out] at HLV
        by_cases hi0 : i = 0
        · have hi1 : ((i : Int) == 0) = true := by simp [hi0]
          have HI0 := Lib.hid hi0
          clear hi0
          have HS4 := Lib.hid (HS3.out.drewN nq)
          have HP4 := Lib.hid (HP3.out.drewN nq)
          clear s0 c2 c7 y2
          generalize w3.drewN nq = w4 at *
          go_wp2_with fail
          go_loopw [9, 16] (fun v9 v16 wq => ∃ (nn : Nat) (u : Int), nn ≤ 16384 ∧ v16 = .int .i64 nn ∧ v9 = .int .i64 (g + u) ∧ UsedOk ws i u ∧ (0 ≤ u ∧ u ≤ 16777216) ∧ SchedAt wq x M G ws (St.inWin M G ws j i (Sc.nowAt M ws k) u) ∧ Upd x.own w2 wq) (fun _ v16 _ => 16384 - (intOf v16).toNat)
          case atStart => exact ⟨0, 0, by omega, rfl, by go_num, ⟨by omega, Or.inl rfl⟩, ⟨by omega, by omega⟩, HS4.out, HP4.out⟩
          case round =>
            obtain ⟨nn, u, hnn, rfl, rfl, huo, hub, hs5, hu5⟩ := hrel
            have HUO := Lib.hid huo
            have HS5 := Lib.hid hs5
            have HP5 := Lib.hid hu5
            have HMAY := Lib.hid (may_win x M G ws _ j i (Sc.nowAt M ws k) u hs5)
            clear hs5 hu5 huo
            by_cases hbu : u < budgetOf G ws i
            · have hdb : decide (u < budgetOf G ws i) = true := by simpa using hbu
              rw [hdb] at HMAY
              clear hdb
              by_cases hnl : nn < 16384
              · go_wp2_with fail
                refine HMAY.out.mono ?_
                rintro e w6 ⟨rfl, n6, rfl⟩
                go_wp2_with fail

                have hsp := spend_win x M G ws _ j i (Sc.nowAt M ws k) u q HPL.out HUO.out hbu (by omega) hq' (HS5.out.drewN n6)
                have HSP := Lib.hid hsp
                clear hsp
                refine HSP.out.mono ?_
                rintro e w7 ⟨rfl, hs7, huo7, hu7⟩
                have HS7 := Lib.hid hs7
                have HUO7 := Lib.hid huo7
                have HP7 := Lib.hid ((HP5.out.drewN n6).trans hu7)
                have hub7 : u + q ≤ 16777216 := by have hb := HBU.out; omega
                clear hs7 huo7 hu7
                go_wp2_with fail
                go_roundw
                case rel => exact ⟨nn + 1, u + q, by omega, by go_num, by go_num, HUO7.out, ⟨by omega, hub7⟩, HS7.out, HP7.out⟩
                case measure => simp [intOf]; omega
              · go_wp2_with fail
                refine HMAY.out.mono ?_
                rintro e w6 ⟨rfl, n6, rfl⟩
                go_wp2_with fail

                go_ret
                exact ⟨rfl, HU2.out.fresh (HP5.out.drewN n6) (fun a ha => Nat.le_trans (by omega) (above_own HX.out a ha))⟩
            · have hdb : decide (u < budgetOf G ws i) = false := by simpa using hbu
              rw [hdb] at HMAY
              have HMAYN := Lib.hid (fun n => may_win x M G ws _ j i (Sc.nowAt M ws k) u (HS5.out.drewN n))
              rw [hdb] at HMAYN
              clear hdb
              by_cases hnl : nn < 16384
              · go_wp2_with fail
                refine HMAY.out.mono ?_
                rintro e w6 ⟨rfl, n6, rfl⟩
                go_wp2_with fail

                refine (HMAYN.out n6).mono ?_
                rintro e w6 ⟨rfl, n7, rfl⟩
                go_wp2_with fail
                refine (HLV.out _ u HUO.out (HS5.out.drewN (n6 + n7))).mono ?_
                rintro e w9 ⟨rfl, hs9, hu9⟩
                have HS9 := Lib.hid hs9
                have HP9 := Lib.hid ((HP5.out.drewN (n6 + n7)).trans hu9)
                clear hs9 hu9
                go_wp2_with fail
                go_roundw
                case rel => exact ⟨k + 1, _, by omega, by go_num, by rw [HTS.out]; exact congrArg (Value.int .i64) (by omega), rfl, Lib.hid (by have hx := HGG.out; have hy := HCS.out; rw [if_pos HI0.out] at hy; rw [hy, Int.add_mul, Int.one_mul]; have hz := hbu; rw [HI0.out] at hz; omega), ⟨by omega, by push_cast; omega⟩, by rw [HNS.out, HEE.out]; exact HS9.out, HP9.out⟩
                case measure => simp [intOf]; omega

              · go_wp2_with fail
                refine HMAY.out.mono ?_
                rintro e w6 ⟨rfl, n6, rfl⟩
                go_wp2_with fail
                refine (HLV.out _ u HUO.out (HS5.out.drewN n6)).mono ?_
                rintro e w9 ⟨rfl, hs9, hu9⟩
                have HS9 := Lib.hid hs9
                have HP9 := Lib.hid ((HP5.out.drewN n6).trans hu9)
                clear hs9 hu9
                go_wp2_with fail
                go_roundw
                case rel => exact ⟨k + 1, _, by omega, by go_num, by rw [HTS.out]; exact congrArg (Value.int .i64) (by omega), rfl, Lib.hid (by have hx := HGG.out; have hy := HCS.out; rw [if_pos HI0.out] at hy; rw [hy, Int.add_mul, Int.one_mul]; have hz := hbu; rw [HI0.out] at hz; omega), ⟨by omega, by push_cast; omega⟩, by rw [HNS.out, HEE.out]; exact HS9.out, HP9.out⟩
                case measure => simp [intOf]; omega
        · have hi1 : ((i : Int) == 0) = false := by simp [hi0]
          have HI0 := Lib.hid hi0
          clear hi0
          have HS4 := Lib.hid (HS3.out.drewN nq)
          have HP4 := Lib.hid (HP3.out.drewN nq)
          have HB4 := Lib.hid (HB3.out.drewN nq)
          clear s0 c2 c7 y2
          have c2 := HB4.out.c2
          have hz2 : IntsAt w2 B m zs := HZ.out.upd HU2.out (fun _ _ _ _ => by simp)
          have hbo : 0 < m → ∀ b' off', B = some ⟨b', off', none⟩ → b' ∉ x.own := by
            intro hm b' off' e
            obtain ⟨b2, off2, e2, hlt2, _⟩ := HZ.out hm
            rw [e2] at e
            cases e
            exact not_own HX.out (by omega)
          have hz4 : IntsAt (w3.drewN nq) B m zs := by
            by_cases hm : 0 < m
            · exact hz2.upd HP4.out (fun b' off' e _ => hbo hm b' off' e)
            · intro hh; omega
          have HZ4 := Lib.hid hz4
          have HBO := Lib.hid hbo
          clear hz2 hbo hz4
          generalize w3.drewN nq = w4 at *
          go_wp2_with fail
          refine (idles_any x M G ws _ j i (Sc.nowAt M ws k) 0 HPL.out ⟨by omega, Or.inl rfl⟩ HS4.out B m bcap zs k HZ4.out HBO.out).mono ?_
          rintro e w5 ⟨rfl, u, hs5, huo5, hu5⟩
          have HS5 := Lib.hid hs5
          have HUO5 := Lib.hid huo5
          have HP5 := Lib.hid (HP4.out.trans hu5)
          clear hs5 huo5 hu5 c2
          go_wp2_with fail
          refine (HLV.out _ u HUO5.out HS5.out).mono ?_
          rintro e w9 ⟨rfl, hs9, hu9⟩
          have HS9 := Lib.hid hs9
          have HP9 := Lib.hid (HP5.out.trans hu9)
          clear hs9 hu9
          go_wp2_with fail
          go_roundw
          case rel => exact ⟨k + 1, _, by omega, by go_num, by rw [HTS.out]; exact congrArg (Value.int .i64) (by omega), rfl, Lib.hid (by have hx := HGG.out; have hy := HCS.out; rw [if_neg HI0.out, Int.add_zero] at hy; rw [hy]; exact hx), ⟨by omega, by push_cast; omega⟩, by rw [HNS.out, HEE.out]; exact HS9.out, HP9.out⟩
          case measure => simp [intOf]; omega
      · have hk4 : k = ws.length * 4 := by omega
        have ht4 : Sc.tot ws k = 4 * Sc.allTo ws ws.length := by rw [hk4, Sc.tot_rounds]; rfl
        have hc4 : cnt ws.length k = 4 := by rw [hk4, cnt_rounds _ hn]; rfl
        have hg4 := HGG.out
        rw [hc4] at hg4
        have hbd : budgetOf G ws 0 = max 0 ((ws.getD 0 default).l - 40 - G) := rfl
        rw [hbd] at hg4
        have hw0 := HG.out.w 0 hn
        have hcell : ∀ i, i < ws.length → wr.cell? ⟨b, off + i * 3 + 2, none⟩ = some (.int .i64 (ws.getD i default).l) := by
          intro i hi
          have y2 := (World.cell?_of_block (w := w) (HU2.out.block b hbw (by simp))).trans (HW.out _ _ (flat_get ws i hi).2.2)
          have y2 := (World.cell?_of_block (w := w2) (HP1.out.block b (Nat.lt_of_lt_of_le hbw HU2.out.size) (not_own HX.out (by omega)))).trans y2
          rw [← Nat.add_assoc] at y2
          exact y2
        have HC := Lib.hid hcell
        have hy0 := hcell 0 hn
        rw [Nat.zero_mul, Nat.add_zero] at hy0
        have hbr := Nat.lt_of_lt_of_le (Nat.lt_of_lt_of_le hbw HU2.out.size) HP1.out.size
        have HAB := Lib.hid (fun i hi => allTo_bound HG.out i hi)
        have hfin : decide (4 * max 0 ((ws.getD 0 default).l - 40 - G) ≤ g) = true := decide_eq_true (by omega)
        have HT4 := Lib.hid ht4
        have HF := Lib.hid (HU2.out.fresh HP1.out (fun a ha => Nat.le_trans (by omega) (above_own HX.out a ha)))
        have hge : 4 * ws.length ≤ k := by omega
        clear hcell hk4 ht4 hc4 hbd hlt
        generalize (ws.getD 0 default).l = L at *
        generalize (ws.getD 0 default).s = S at *
        have e1 : IntKind.i64.wrap (L - 40) = L - 40 := IntWalk.i64_in _ (by omega)
        have e2 : IntKind.i64.wrap (L - 40 - G) = L - 40 - G := IntWalk.i64_in _ (by omega)
        have e3 : IntKind.i64.wrap (4 * max 0 (L - 40 - G)) = 4 * max 0 (L - 40 - G) := IntWalk.i64_in _ (by omega)
        go_wp2
        go_quiet (fail)
        clear e1 e2 e3
        go_wp2
        go_loopw [19, 20] (fun v19 v20 wq => ∃ i : Nat, i ≤ ws.length ∧ v20 = .int .i64 i ∧ v19 = .int .i64 (Sc.allTo ws i) ∧ ∃ nd, wq = wr.drewN nd) (fun _ v20 _ => ws.length - (intOf v20).toNat)
        case atStart => exact ⟨0, by omega, rfl, rfl, _, rfl⟩
        case round =>
          obtain ⟨i, hi, rfl, rfl, nd, rfl⟩ := hrel
          have hab := HAB.out i hi
          by_cases hil : i < ws.length
          · have hyi := HC.out i hil
            have hwi := HG.out.w i hil
            have hal : Sc.allTo ws (i + 1) = Sc.allTo ws i + (ws.getD i default).l := rfl
            have HAL := Lib.hid hal
            clear hal
            generalize (ws.getD i default).l = Li at *
            generalize (ws.getD i default).s = Si at *
            go_wp2
            go_roundw
            case rel => exact ⟨i + 1, by omega, by go_num, by rw [HAL.out], nd, rfl⟩
            case measure => simp [intOf]; omega
          · have hie : i = ws.length := by omega
            subst hie
            have hte : (Sc.tot ws k == 4 * Sc.allTo ws ws.length) = true := by rw [HT4.out]; simp
            clear hil
            go_wp2
            go_ret
            exact ⟨by simp, HF.out.drewN _⟩
end Go.Proofs.Ythfkbenkladonaa
