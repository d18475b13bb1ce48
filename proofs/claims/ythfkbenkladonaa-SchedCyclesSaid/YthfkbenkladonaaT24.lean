/-
  SchedCycles where the configuration has windows and keeps the rules: it answers true. Conditions: the windows, numbers and truths lie in memory.
-/
import Derived.Test.YthfkbenkladonaaT23
import Derived.Deep.CutBlock
namespace Go.Proofs.Ythfkbenkladonaa
open Go.RowKit
attribute [local go_sem] max2_max min2_min max_two min_two

set_option maxRecDepth 100000 in
set_option maxHeartbeats 8000000 in
theorem cycles_main (f M G s l d : Int) (P : Value) (A : Option Addr) (cap : Nat) (C : Value) (ws : List Sc.Win) (B : Option Addr) (m bcap : Nat) (zs : List Int) (D : Option Addr) (p dcap : Nat) (bs : List Bool) (w : World)
    (h : WinsAt w A ws) (hz : IntsAt w B m zs) (hbo : BoolsAt w D p bs) (hn : 0 < ws.length) (he : planErr M G ws = 0) :
    Calls Try.prog 5 #[cfgV f M G s l d P A ws.length cap C, .slice B m bcap, .slice D p dcap] w fun e w' => e = .returned (.bool true) ∧ Upd [] w w' := by
  have hg := cy_conds he
  have hn32 := hg.n
  have hM1 := hg.m1
  have hM2 := hg.m2
  have hG1 := hg.g1
  have hG2 := hg.g2
  obtain ⟨b, off, rfl, hwc⟩ := h hn
  have hbw := World.block_lt_of_cell? w _ (hwc 0 _ (flat_get ws 0 hn).1)
  simp only at hbw
  have HNB := Lib.hid (fun W (u : Upd [] w W) => new_ok f M G s l d P (some ⟨b, off, none⟩) cap C ws W (h.upd u (fun _ _ _ => by simp)) hn he)
  have HG := Lib.hid hg
  have HW := Lib.hid hwc
  have HZ := Lib.hid hz
  have HBO := Lib.hid hbo
  clear hwc
  clear h he hg hz hbo
  unfold cfgV at HNB ⊢
  go_enter Try.func5, Try.ntmps5
  go_wp2_with fail
  refine (works_any _).mono ?_
  rintro e w1 ⟨rfl, hu⟩
  have hB := hu.blk (Blk.new w #[.int .i64 f, .int .i64 M, .int .i64 G, .int .i64 s, .int .i64 l, .int .i64 d, P, .slice (some ⟨b, off, none⟩) ws.length cap, C] 26) (by simp)
  have HB := Lib.hid hB
  have HU := Lib.hid (((Upd.refl [] w).alloc (.cells #[.int .i64 f, .int .i64 M, .int .i64 G, .int .i64 s, .int .i64 l, .int .i64 d, P, .slice (some ⟨b, off, none⟩) ws.length cap, C] 26)).trans hu)
  have c0 := hB.c0; have c1 := hB.c1; have c2 := hB.c2; have c3 := hB.c3; have c4 := hB.c4; have c5 := hB.c5; have c6 := hB.c6; have c7 := hB.c7; have c8 := hB.c8
  clear hB hu
  go_wp2_with fail
  refine (HNB.out w1 HU.out).mono ?_
  rintro e w2 ⟨x, rfl, hs, hx, hu2⟩
  have HB2 := Lib.hid (hu2.blk HB.out (by simp))
  have HU2 := Lib.hid (HU.out.trans hu2)
  have hsz1 := HU.out.size
  have hbl := HB.out.lt
  have HX := Lib.hid hx
  have HS := Lib.hid hs
  clear hs hx hu2 HNB c0 c1 c2 c3 c4 c5 c6 c7 c8 HU HB
  have c2 := HB2.out.c2
  have c7 := HB2.out.c7
  have hn0 : ((ws.length : Int) == 0) = false := beq_eq_false_iff_ne.2 (by omega)
  go_wp2_with fail
  go_loopw [9, 10] (fun v9 v10 wr => ∃ (k nv : Nat), k ≤ 60 ∧ nv ≤ 300 * k ∧ v10 = .int .i64 k ∧ v9 = .int .i64 nv ∧
      SchedAt wr x M G ws (St.leave (Sc.nowAt M ws k)) ∧ Upd x.own w2 wr) (fun _ v10 _ => 60 - (intOf v10).toNat)
  case atStart => exact ⟨0, 0, by omega, by omega, rfl, rfl, HS.out, Upd.refl _ _⟩
  case round =>
    obtain ⟨k, nv, hk, hnv, rfl, rfl, hs, hup⟩ := hrel
    have HBr := Lib.hid (hup.blk HB2.out (not_own HX.out (by omega)))
    have c7 := HBr.out.c7
    have c1 := HBr.out.c1
    have HS1 := Lib.hid hs
    have HP1 := Lib.hid hup
    clear hs hup c2
    by_cases hlt : k < 60
    · have hpl := Place.of HG.out hn k (by omega)
      have her := enter_round x M G ws
      have hns := nowAt_next M ws k
      have hil := Nat.mod_lt k hn
      have hkm : (k : Int) % (ws.length : Int) = ((k % ws.length : Nat) : Int) := (Int.natCast_emod _ _).symm
      have hkd : (k : Int) / (ws.length : Int) = ((k / ws.length : Nat) : Int) := (Int.natCast_ediv _ _).symm
      have hkt : (k : Int).tdiv (ws.length : Int) = ((k / ws.length : Nat) : Int) := by rw [Int.tdiv_eq_ediv_of_nonneg (by omega)]; exact hkd
      have HER := Lib.hid (fun W hs => enter_round x M G ws W k HG.out hn (by omega) hs)
      have hjk : k / ws.length ≤ k := Nat.div_le_self _ _
      clear her
      generalize k % ws.length = i at *
      generalize k / ws.length = j at *
      have hw := HG.out.w i hil
      have hcell : ∀ c v, w.cell? ⟨b, off + (i * 3 + c), none⟩ = some v → wr.cell? ⟨b, off + (i * 3 + c), none⟩ = some v := fun c v hv =>
        (World.cell?_of_block (w := w2) (HP1.out.block b (Nat.lt_of_lt_of_le hbw HU2.out.size) (not_own HX.out (by omega)))).trans ((World.cell?_of_block (w := w) (HU2.out.block b hbw (by simp))).trans hv)
      have y0 := hcell 0 _ (HW.out _ _ (flat_get ws i hil).1)
      have y1 := hcell 1 _ (HW.out _ _ (flat_get ws i hil).2.1)
      have y2 := hcell 2 _ (HW.out _ _ (flat_get ws i hil).2.2)
      rw [← Nat.add_assoc] at y1 y2
      rw [Nat.add_zero] at y0
      have hbr := Nat.lt_of_lt_of_le (Nat.lt_of_lt_of_le hbw HU2.out.size) HP1.out.size
      have hpk := hpl.hk
      have hpkM := hpl.hkM
      have hpe := hpl.hend
      unfold endAt at hpe
      have HPL := Lib.hid hpl
      have HNS := Lib.hid hns
      have hEE : endAt M ws j i = (j : Int) * M + (ws.getD i default).s + (ws.getD i default).l := rfl
      have HEE := Lib.hid hEE
      have hBU : budgetOf G ws i = max 0 ((ws.getD i default).l - 40 - G) := rfl
      have HBU := Lib.hid hBU
      have hBA : beginAt M ws j i = (j : Int) * M + (ws.getD i default).s + min 40 (ws.getD i default).l := rfl
      have HBA := Lib.hid hBA
      clear hpl hns hcell hEE hBU hBA
      generalize (ws.getD i default).o = O at *
      generalize (ws.getD i default).s = S at *
      generalize hLL : (ws.getD i default).l = L at *
      have HLL := Lib.hid hLL
      clear hLL
      have e1 : IntKind.i64.wrap ((j : Int) * M) = (j : Int) * M := IntWalk.i64_in _ (by omega)
      have e2 : IntKind.i64.wrap ((j : Int) * M + S) = (j : Int) * M + S := IntWalk.i64_in _ (by omega)
      have e3 : IntKind.i64.wrap (j : Int) = (j : Int) := IntWalk.i64_in _ (by omega)
      have hb1 := HBr.out.lt
      go_wp2_with fail
      go_quiet (fail)
      have HS2 := Lib.hid ((HS1.out.still ((Upd.refl [] wr).alloc (.cells #[.int .i64 O, .int .i64 S, .int .i64 L] 45))).drewN nq)
      have HP2 := Lib.hid ((HP1.out.alloc (.cells #[.int .i64 O, .int .i64 S, .int .i64 L] 45)).drewN nq)
      have HB3 := Lib.hid ((HBr.out.alloc (.cells #[.int .i64 O, .int .i64 S, .int .i64 L] 45)).drewN nq)
      have HX3 := Lib.hid ((Blk.new wr #[.int .i64 O, .int .i64 S, .int .i64 L] 45).drewN nq)
      have hxo := own_lt HS1.out (Nat.le_refl _)
      clear c7 c1 y0 y1 y2 hb1 hbr HBr HS1 e1 e2 e3
      generalize (wr.alloc (.cells #[.int .i64 O, .int .i64 S, .int .i64 L] 45)).drewN nq = w3 at *
      generalize wr.heap.size = xb at *
      go_wp2_with fail
      refine (HER.out w3 HS2.out).mono ?_
      rintro e w4 ⟨rfl, hs4, hu4⟩
      have hclk : Blk w4 x.cb #[.int .i64 ((j : Int) * M + S + min 40 L), .bool true, .int .i64 ((j : Int) * M + S + min 40 L + budgetOf G ws i)] 78 := by
        have := hs4.clock
        have hx := HBA.out
        simp only [St.inWin] at this ⊢
        rw [hx, Int.add_zero] at this
        exact this
      have HCL := Lib.hid hclk
      have HS4 := Lib.hid hs4
      have HP4 := Lib.hid (HP2.out.trans hu4)
      have HB4 := Lib.hid (hu4.blk HB3.out (not_own HX.out (by omega)))
      have HX4 := Lib.hid (hu4.blk HX3.out hxo)
      clear hs4 hu4 hclk HER
      have c7 := HB4.out.c7
      have s0 := HS4.out.sched.c0
      have x2 := HX4.out.c2
      go_wp2_with fail
      have e4 : IntKind.i64.wrap ((j : Int) * M + S + min 40 L) = (j : Int) * M + S + min 40 L := IntWalk.i64_in _ (by omega)
      have e3 : IntKind.i64.wrap (j : Int) = (j : Int) := IntWalk.i64_in _ (by omega)
      go_quiet ((go_at_call 10; exact Calls.quiet_of_same ((now_any _ _ _ _ _ (HCL.out.drewN _)).mono fun _ _ ⟨a, b⟩ => ⟨a, b.symm⟩)))
      have HS5 := Lib.hid (HS4.out.drewN nq)
      have HP5 := Lib.hid (HP4.out.drewN nq)
      have HB5 := Lib.hid (HB4.out.drewN nq)
      have HX5 := Lib.hid (HX4.out.drewN nq)
      clear s0 c7 x2 e4 e3 hkt hkm hkd HCL HS4 HP4 HB4 HX4
      generalize w4.drewN nq = w5 at *
      go_upto_region 17 with fail
      go_cut [18] (fun v18 wx => ∃ sv, v18 = .bool sv ∧ wx = w5)
      case first =>
        as_aux_lemma =>
          by_cases hkp : k < p
          · obtain ⟨b1, o1, hD1, hlt1, hc1⟩ := HBO.out (by omega)
            have hcj := (World.cell?_of_block (w := w2) (HP5.out.block b1 (Nat.lt_of_lt_of_le hlt1 HU2.out.size) (not_own HX.out (by omega)))).trans ((World.cell?_of_block (w := w) (HU2.out.block b1 hlt1 (by simp))).trans (hc1 _ hkp))
            have hb6 := Nat.lt_of_lt_of_le (Nat.lt_of_lt_of_le hlt1 HU2.out.size) HP5.out.size
            subst hD1
            clear hc1
            generalize bs.getD k false = sv at *
            go_wp2_with fail
            go_meet
            exact ⟨sv, rfl, rfl⟩
          · go_wp2_with fail
            go_meet
            exact ⟨false, rfl, rfl⟩
      case rest =>
        obtain ⟨sv, rfl, rfl⟩ := hcut
        have HLV := Lib.hid (fun W u (huo : UsedOk ws i u) hs => leave_win x M G ws W j i (Sc.nowAt M ws k) u HPL.out huo hs)
        rw [HEE.out] at HLV
        go_upto_block 2 with fail
        go_cut [9, 17, 19, 20] (fun v9 v17 _ _ wx => ∃ (nv' : Nat) (u : Int), nv' ≤ nv + 300 ∧ v17 = .int .i64 u ∧ v9 = .int .i64 nv' ∧ UsedOk ws i u ∧ (0 ≤ u ∧ u ≤ 16777216) ∧ SchedAt wx x M G ws (St.inWin M G ws j i (Sc.nowAt M ws k) u) ∧ Upd x.own w2 wx ∧ Blk wx xb #[.int .i64 O, .int .i64 S, .int .i64 L] 45)
        case first =>
          as_aux_lemma =>
            go_wp2_with fail
            go_loopw [9, 17, 19] (fun v9 v17 v19 wq => ∃ (jj nv' : Nat) (u : Int), jj ≤ 300 ∧ nv' ≤ nv + jj ∧ v19 = .int .i64 jj ∧ v17 = .int .i64 u ∧ v9 = .int .i64 nv' ∧ UsedOk ws i u ∧ (0 ≤ u ∧ u ≤ 16777216) ∧
                SchedAt wq x M G ws (St.inWin M G ws j i (Sc.nowAt M ws k) u) ∧ Upd x.own w2 wq ∧ Blk wq xb #[.int .i64 O, .int .i64 S, .int .i64 L] 45) (fun _ _ v19 _ => 300 - (intOf v19).toNat)
            case atStart => exact ⟨0, nv, 0, by omega, by omega, rfl, rfl, rfl, ⟨by omega, Or.inl rfl⟩, ⟨by omega, by omega⟩, HS5.out, HP5.out, HX5.out⟩
            case round =>
              clear HS5 HP5 HX5
              obtain ⟨jj, nv', u, hjj, hnv', rfl, rfl, rfl, huo, hub, hs5, hu5, hx5⟩ := hrel
              have HUO := Lib.hid huo
              have HS5 := Lib.hid hs5
              have HP5 := Lib.hid hu5
              have HX5 := Lib.hid hx5
              have HMAY := Lib.hid (may_win x M G ws _ j i (Sc.nowAt M ws k) u hs5)
              clear hs5 hu5 huo hx5
              go_upto_region 19 with fail
              go_cut [132] (fun v132 wx => ∃ go, v132 = .bool go ∧ (go = true → jj < 300 ∧ u < budgetOf G ws i) ∧ ∃ n, wx = wr.drewN n)
              case first =>
                as_aux_lemma =>
                  by_cases hjl : jj < 300
                  · by_cases hbu : u < budgetOf G ws i
                    · have hdb : decide (u < budgetOf G ws i) = true := by simpa using hbu
                      rw [hdb] at HMAY
                      clear hdb
                      go_wp2_with fail
                      refine HMAY.out.mono ?_
                      rintro e wm ⟨rfl, n6, rfl⟩
                      cases sv
                      · go_wp2_with fail
                        go_meet
                        exact ⟨true, rfl, fun _ => ⟨hjl, hbu⟩, n6, rfl⟩
                      · by_cases hj2 : jj < 2
                        · go_wp2_with fail
                          go_meet
                          exact ⟨true, congrArg Value.bool (decide_eq_true (by omega)), fun _ => ⟨hjl, hbu⟩, n6, rfl⟩
                        · go_wp2_with fail
                          go_meet
                          exact ⟨false, congrArg Value.bool (decide_eq_false (by omega)), fun h => by simp at h, n6, rfl⟩
                    · have hdb : decide (u < budgetOf G ws i) = false := by simpa using hbu
                      rw [hdb] at HMAY
                      clear hdb
                      go_wp2_with fail
                      refine HMAY.out.mono ?_
                      rintro e wm ⟨rfl, n6, rfl⟩
                      go_wp2_with fail
                      go_meet
                      exact ⟨false, rfl, fun h => by simp at h, n6, rfl⟩
                  · go_wp2_with fail
                    go_meet
                    exact ⟨false, rfl, fun h => by simp at h, 0, rfl⟩
              case rest =>
                as_aux_lemma =>
                  obtain ⟨go, rfl, hgo, n6, rfl⟩ := hcut
                  have HS6 := Lib.hid (HS5.out.drewN n6)
                  have HP6 := Lib.hid (HP5.out.drewN n6)
                  have HX6 := Lib.hid (HX5.out.drewN n6)
                  clear HMAY HS5 HP5 HX5
                  generalize wr.drewN n6 = w6 at *
                  cases go
                  · go_wp2_with fail
                    go_meet
                    exact ⟨nv', u, by omega, rfl, rfl, HUO.out, hub, HS6.out, HP6.out, HX6.out⟩
                  · obtain ⟨hjl, hbu⟩ := hgo rfl
                    have HBq := Lib.hid (HP6.out.blk HB2.out (not_own HX.out (by omega)))
                    have c2 := HBq.out.c2
                    go_upto_if 140 with fail
                    go_cut [9, 20] (fun v9 v20 wx => ∃ (nn : Nat) (c : Int), nn ≤ nv' + 1 ∧ v9 = .int .i64 nn ∧ v20 = .int .i64 c ∧ (0 ≤ c ∧ c ≤ G) ∧ SchedAt wx x M G ws (St.inWin M G ws j i (Sc.nowAt M ws k) u) ∧ Upd x.own w2 wx ∧ Blk wx xb #[.int .i64 O, .int .i64 S, .int .i64 L] 45)
                    case first =>
                      as_aux_lemma =>
                        by_cases hm0 : 0 < m
                        · obtain ⟨b1, o1, hB1, hlt1, hc1⟩ := HZ.out hm0
                          have hrm := Nat.mod_lt nv' hm0
                          have hrle := Nat.mod_le nv' m
                          have hcj := (World.cell?_of_block (w := w2) (HP6.out.block b1 (Nat.lt_of_lt_of_le hlt1 HU2.out.size) (not_own HX.out (by omega)))).trans ((World.cell?_of_block (w := w) (HU2.out.block b1 hlt1 (by simp))).trans (hc1 _ hrm))
                          have hb6 := Nat.lt_of_lt_of_le (Nat.lt_of_lt_of_le hlt1 HU2.out.size) HP6.out.size
                          subst hB1
                          clear hc1
                          have hrk : (nv' : Int) % (m : Int) = ((nv' % m : Nat) : Int) := (Int.natCast_emod _ _).symm
                          have hrt : (nv' : Int).tmod (m : Int) = ((nv' % m : Nat) : Int) := by rw [Int.tmod_eq_emod_of_nonneg (by omega)]; exact hrk
                          generalize nv' % m = r at *
                          generalize zs.getD r 0 = z at *
                          have er : IntKind.i64.wrap (r : Int) = (r : Int) := IntWalk.i64_in _ (by omega)
                          have eG : IntKind.i64.wrap (G + 1) = G + 1 := IntWalk.i64_in _ (by omega)
                          have eU : IntKind.u64.wrap (G + 1) = G + 1 := IntWalk.u64_in _ (by omega)
                          have hm1 : ((m : Int) == 0) = false := beq_eq_false_iff_ne.2 (by omega)
                          have hm2 : decide ((m : Int) > 0) = true := decide_eq_true (by omega)
                          have hm3 : decide ((0 : Int) < (m : Int)) = true := decide_eq_true (by omega)
                          have hm4 : (0 : Int) < (m : Int) := by omega
                          go_wp2_with fail
                          go_quiet (fail)
                          clear eG eU er hrk hrt
                          have HS6 := Lib.hid (HS6.out.drewN nq)
                          have HP6 := Lib.hid (HP6.out.drewN nq)
                          have HX6 := Lib.hid (HX6.out.drewN nq)
                          clear c2 hcj hb6 HBq
                          generalize w6.drewN nq = w6b at *
                          have hcr := cost_range z G hG1 hG2
                          generalize wrap64 ((IntKind.u64.wrap z).tmod (G + 1)) = c at *
                          go_wp2_with fail
                          go_meet
                          exact ⟨nv' + 1, c, by omega, by go_num, by go_num, hcr, HS6.out, HP6.out, HX6.out⟩
                        · have hcr : 0 ≤ min 1 G ∧ min 1 G ≤ G := by omega
                          have hm1 : m = 0 := by omega
                          subst hm1
                          go_wp2_with fail
                          go_meet
                          exact ⟨nv', min 1 G, by omega, rfl, rfl, hcr, HS6.out, HP6.out, HX6.out⟩
                    case rest =>
                      as_aux_lemma =>
                        clear c2 HBq HS6 HP6 HX6
                        obtain ⟨nn, c, hnn, rfl, rfl, hcr, hs6, hp6, hx6⟩ := hcut
                        have HS6 := Lib.hid hs6
                        have HP6 := Lib.hid hp6
                        have HX6 := Lib.hid hx6
                        clear hs6 hp6 hx6
                        go_wp2_with fail
                        refine (spend_win x M G ws _ j i (Sc.nowAt M ws k) u c HPL.out HUO.out hbu hcr.1 hcr.2 HS6.out).mono ?_
                        rintro e w7 ⟨rfl, hs7, huo7, hu7⟩
                        have hu07 : 0 ≤ u + c := by omega
                        have hub7 : u + c ≤ 16777216 := by have hb := HBU.out; omega
                        have HS7 := Lib.hid hs7
                        have HUO7 := Lib.hid huo7
                        have HP7 := Lib.hid (HP6.out.trans hu7)
                        have HX7 := Lib.hid (hu7.blk HX6.out hxo)
                        clear hs7 huo7 hu7
                        go_wp2_with fail
                        generalize u + c = u7 at *
                        have HTI := Lib.hid (fun n => time_win x M G ws j i (Sc.nowAt M ws k) u7 _ (HS7.out.drewN n))
                        have HCL := Lib.hid HS7.out.clock
                        simp only [St.inWin] at HCL
                        rw [HBA.out] at HTI HCL
                        have hm40 : min 40 L = 40 := by have hb := HBU.out; omega
                        rw [hm40] at HTI HCL
                        clear hm40
                        have s0 := HS7.out.sched.c0
                        go_wp2_with fail
                        have t1 : IntKind.i64.wrap ((j : Int) * M + S + 40) = (j : Int) * M + S + 40 := IntWalk.i64_in _ (by omega)
                        have t2 : IntKind.i64.wrap ((j : Int) * M + S + 40 + u7) = (j : Int) * M + S + 40 + u7 := IntWalk.i64_in _ (by omega)
                        go_quiet ((first | (go_at_call 10; exact Calls.quiet_of_same ((now_any _ _ _ _ _ (HCL.out.drewN _)).mono fun _ _ ⟨a, b⟩ => ⟨a, b.symm⟩)) | (go_at_call 15; exact Calls.quiet_of_same ((HTI.out _).mono fun _ _ ⟨a, b⟩ => ⟨a, b.symm⟩))))
                        clear t1 t2
                        go_wp2_with fail
                        go_roundw
                        case rel => exact ⟨jj + 1, nn, u7, by omega, by omega, by go_num, by go_num, by go_num, HUO7.out, ⟨hu07, hub7⟩, HS7.out.drewN _, HP7.out.drewN _, HX7.out.drewN _⟩
                        case measure => simp [intOf]; omega

        case rest =>
          as_aux_lemma =>
            clear HS5 HP5 HX5
            obtain ⟨nv', u, hnv', rfl, rfl, huo, hub, hs5, hu5, hx5⟩ := hcut
            have huL : u = 0 ∨ u ≤ L - 40 := by have := huo.2; rw [HLL.out] at this; exact this
            have HUO := Lib.hid huo
            have HS5 := Lib.hid hs5
            have HP5 := Lib.hid hu5
            have HX5 := Lib.hid hx5
            have HMAY := Lib.hid (may_win x M G ws _ j i (Sc.nowAt M ws k) u hs5)
            clear hs5 hu5 huo hx5
            go_upto_region 30 with fail
            go_cut [204] (fun v204 wx => v204 = .bool false ∧ ∃ n, wx = wc.drewN n)
            case first =>
              as_aux_lemma =>
                have HBt := Lib.hid (HP5.out.blk HB2.out (not_own HX.out (by omega)))
                have c2 := HBt.out.c2
                have x2 := HX5.out.c2
                have t3 : u ≤ max 0 (L - 40) := by omega

                by_cases hbu : u < budgetOf G ws i
                · have hdb : decide (u < budgetOf G ws i) = true := by simpa using hbu
                  rw [hdb] at HMAY
                  go_wp2_with fail
                  refine HMAY.out.mono ?_
                  rintro e wm ⟨rfl, n6, rfl⟩
                  go_wp2_with fail
                  go_meet
                  exact ⟨congrArg Value.bool (decide_eq_false (by omega)), n6, rfl⟩
                · have hdb : decide (u < budgetOf G ws i) = false := by simpa using hbu
                  have hq1 : ¬ (u < L - 40 - G) := by have hb := HBU.out; omega
                  rw [hdb] at HMAY
                  go_wp2_with fail
                  refine HMAY.out.mono ?_
                  rintro e wm ⟨rfl, n6, rfl⟩
                  go_wp2_with fail
                  go_meet
                  exact ⟨by rw [decide_eq_false (p := u < L - 40 - G) (by omega), decide_eq_false (p := max 0 (L - 40) < u) (by omega)]; rfl, n6, rfl⟩
            case rest =>
              as_aux_lemma =>
                obtain ⟨rfl, n6, rfl⟩ := hcut
                have HS6 := Lib.hid (HS5.out.drewN n6)
                have HP6 := Lib.hid (HP5.out.drewN n6)
                have HX6 := Lib.hid (HX5.out.drewN n6)
                clear HMAY HS5 HP5 HX5
                generalize wc.drewN n6 = w6 at *
                go_wp2_with fail
                refine (HLV.out _ u HUO.out HS6.out).mono ?_
                rintro e w9 ⟨rfl, hs9, hu9⟩
                have HS9 := Lib.hid hs9
                have HP9 := Lib.hid (HP6.out.trans hu9)
                have HX9 := Lib.hid (hu9.blk HX6.out hxo)
                clear hs9 hu9
                go_wp2_with fail
                refine (inside_leave x M G _ ws _ HS9.out).mono ?_
                rintro e wa ⟨rfl, n9, rfl⟩
                have HCL := Lib.hid HS9.out.clock
                simp only [St.leave] at HCL
                have x2 := HX9.out.c2
                have s0 := HS9.out.sched.c0
                go_wp2_with fail
                refine (now_any _ _ _ _ _ (HCL.out.drewN _)).mono ?_
                rintro e wb ⟨rfl, rfl⟩
                go_wp2_with fail
                refine (may_leave x M G _ ws _ (HS9.out.drewN _)).mono ?_
                rintro e wc ⟨rfl, n10, rfl⟩
                go_wp2_with fail
                go_roundw
                case rel => exact ⟨k + 1, nv', by omega, by omega, by go_num, rfl, by rw [HNS.out, HEE.out]; exact HS9.out.drewN _, HP9.out.drewN _⟩
                case measure => simp [intOf]; omega
    · go_wp2_with fail
      go_ret
      exact ⟨rfl, HU2.out.fresh HP1.out (fun a ha => Nat.le_trans (by omega) (above_own HX.out a ha))⟩
end Go.Proofs.Ythfkbenkladonaa
