/-
  The law SchedPlays: it answers true. Conditions: the windows and the acts lie in memory.
-/
import Derived.Test.YthfkbenkladonaaT35
import Derived.Deep.DeepCutAuto
import Derived.OwnWalk
namespace Go.Proofs.Ythfkbenkladonaa
open Go.RowKit

/-- acts in memory -/
def OpsAt (w : World) (D : Option Addr) (p : Nat) (os : List (Int × Int)) : Prop :=
  0 < p → ∃ b off, D = some ⟨b, off, none⟩ ∧ b < w.heap.size ∧ ∀ j, j < p → w.cell? ⟨b, off + j * 2, none⟩ = some (.int .i64 (os.getD j (0, 0)).1) ∧ w.cell? ⟨b, off + j * 2 + 1, none⟩ = some (.int .i64 (os.getD j (0, 0)).2)

/-- the copy of the configuration, with windows of its own -/
structure OwnAt (w W : World) (f M G s l d : Int) (P : Value) (A : Option Addr) (n cap : Nat) (C : Value) (ws : List Sc.Win) (A2 : Option Addr) (cap2 g : Nat) (cs : Array Value) : Prop where
  c : Blk W w.heap.size #[.int .i64 f, .int .i64 M, .int .i64 G, .int .i64 s, .int .i64 l, .int .i64 d, P, .slice A n cap, C] 26
  own : Blk W (w.heap.size + 1) #[.int .i64 f, .int .i64 M, .int .i64 G, .int .i64 s, .int .i64 l, .int .i64 d, P, .slice A2 n cap2, C] 26
  wins : WinsAt W A2 ws
  at' : 0 < n → A2 = some ⟨g, 0, none⟩ ∧ Blk W g cs 45 ∧ n * 3 ≤ cs.size
  lo : w.heap.size + 1 < g
  hi : 0 < n → g < W.heap.size
  up : Upd [] w W

theorem own_blk {w : World} {base g n cap : Nat} {xs : List Value} (h : w.ownsRow base 45 3 (.slice (some ⟨g, 0, none⟩) n cap) n xs) : ∃ cur, Blk w g cur 45 ∧ n * 3 ≤ cur.size ∧ base ≤ g := by
  obtain ⟨hl, h⟩ := h
  rcases h with ⟨h, _⟩ | ⟨g', cap', cur, hv, hb, hh, hle, hm, hsz, htk⟩
  · cases h
  · cases hv
    exact ⟨cur, hh, by rw [hsz]; exact Nat.mul_le_mul_right _ hle, hb⟩

theorem sched_new (f M G s l d : Int) (P : Value) (A : Option Addr) (cap : Nat) (C : Value) (ws : List Sc.Win) (w : World) (h : WinsAt w A ws) (he : planErr M G ws = 0) :
    Calls Try.prog 8 #[cfgV f M G s l d P A ws.length cap C] w fun e w' => ∃ x : Ids, e = .returned (.tuple #[.pointer (some ⟨x.sb, 0, none⟩), .int .i64 0]) ∧ SchedAt w' x M G ws (psOf M G ws 0 none) ∧ x.above ws.length w.heap.size ∧ Upd [] w w' := by
  by_cases hn : 0 < ws.length
  · exact new_ok f M G s l d P A cap C ws w h hn he
  · obtain rfl : ws = [] := List.eq_nil_of_length_eq_zero (by omega)
    refine (new_ok0 f M G s l d P A cap C w he).mono ?_
    rintro e w' ⟨x, h1, h2, ⟨a, b, c, d, _⟩, h4⟩
    exact ⟨x, h1, h2, ⟨a, b, c, d, fun q => by simp at q⟩, h4⟩

/-- the two sides share no memory -/
structure Apart (x : Ids) (rb pb wb n B : Nat) : Prop where
  r : rb ≠ x.sb ∧ rb ≠ x.cb ∧ rb ≠ x.lb ∧ rb ≠ x.pb ∧ (0 < n → rb ≠ x.wb)
  p : pb ∉ x.own
  w : 0 < n → wb ∉ x.own
  lo : B ≤ x.sb ∧ B ≤ x.cb ∧ B ≤ x.lb
  lr : B ≤ rb

theorem Apart.sched {y : Ids} {rb pb wb B : Nat} {M G : Int} {ws : List Sc.Win} {s : St} {a b : World} (A : Apart y rb pb wb ws.length B) (h : SchedAt a y M G ws s) (u : Upd [rb] a b) : SchedAt b y M G ws s :=
  h.upd2 u (fun k hk => by obtain rfl : k = rb := by simpa using hk
                           exact A.r)
theorem Apart.ref {y : Ids} {rb pb wb B : Nat} {M G : Int} {ws : List Sc.Win} {k : Nat} {q : Option Int} {a b : World} (A : Apart y rb pb wb ws.length B) (h : RefSt a rb pb wb M G ws k q) (u : Upd y.own a b) : RefSt b rb pb wb M G ws k q :=
  h.upd2 u (by obtain ⟨r1, r2, r3, _, _⟩ := A.r
               simp only [Ids.own, List.mem_cons, List.not_mem_nil, or_false, not_or]; exact ⟨r1, r2, r3⟩) A.p A.w
theorem Apart.up {y : Ids} {rb pb wb n : Nat} {w a b : World} (A : Apart y rb pb wb n w.heap.size) (h : Upd [] w a) (u : Upd y.own a b) : Upd [] w b :=
  h.fresh u (fun k hk => by
    obtain ⟨l1, l2, l3⟩ := A.lo
    simp only [Ids.own, List.mem_cons, List.not_mem_nil, or_false] at hk
    rcases hk with rfl | rfl | rfl <;> assumption)
theorem Apart.upr {y : Ids} {rb pb wb n : Nat} {w a b : World} (A : Apart y rb pb wb n w.heap.size) (h : Upd [] w a) (u : Upd [rb] a b) : Upd [] w b :=
  h.fresh u (fun k hk => by obtain rfl : k = rb := by simpa using hk
                            exact A.lr)

theorem RefSt.lts {w : World} {rb pb wb : Nat} {M G : Int} {ws : List Sc.Win} {k : Nat} {u : Option Int} (h : RefSt w rb pb wb M G ws k u) : rb < w.heap.size ∧ pb < w.heap.size ∧ (0 < ws.length → wb < w.heap.size) := by
  cases u with
  | none =>
    obtain ⟨hb, ⟨A, cap, hp, _, _⟩, hc, _, _⟩ := (h : RefAt _ _ _ _ _ _ _ _ _ _ _ _)
    exact ⟨hb.lt, hp.lt, fun hn => World.block_lt_of_cell? w _ (hc 0 hn).1⟩
  | some v =>
    obtain ⟨hb, ⟨A, cap, hp, _, _⟩, hc, _, _⟩ := (h : RefAt _ _ _ _ _ _ _ _ _ _ _ _)
    exact ⟨hb.lt, hp.lt, fun hn => World.block_lt_of_cell? w _ (hc 0 hn).1⟩

/-- what the clone has is not the old one's own -/
structure Twin (y z : Ids) (n B : Nat) : Prop where
  pb : z.pb = y.pb
  wb : 0 < n → z.wb = y.wb
  hi : B ≤ z.sb ∧ B ≤ z.cb ∧ B ≤ z.lb
  lo : y.sb < B ∧ y.cb < B ∧ y.lb < B
  n1 : y.pb ∉ y.own
  n2 : y.wb ∉ y.own

theorem Twin.keeps {y z : Ids} {B : Nat} {M G : Int} {ws : List Sc.Win} {s : St} {a b : World} (T : Twin y z ws.length B) (h : SchedAt a z M G ws s) (u : Upd y.own a b) : SchedAt b z M G ws s := by
  obtain ⟨t1, t2, ⟨t3, t4, t5⟩, ⟨t6, t7, t8⟩, t9, ta⟩ := T
  refine h.upd2 u (fun k hk => ?_)
  have hk1 : k ≠ y.pb := fun e => t9 (e ▸ hk)
  have hk2 : k ≠ y.wb := fun e => ta (e ▸ hk)
  have hkl : k < B := by
    simp only [Ids.own, List.mem_cons, List.not_mem_nil, or_false] at hk
    omega
  exact ⟨by omega, by omega, by omega, by rw [t1]; exact hk1, fun hn => by rw [t2 hn]; exact hk2⟩

set_option maxRecDepth 100000 in
set_option maxHeartbeats 1000000 in
theorem plays_any (f M G s l d : Int) (PA : Option Addr) (pn pc : Nat) (A : Option Addr) (cap : Nat) (CA : Option Addr) (cn cc : Nat) (ws : List Sc.Win) (D : Option Addr) (p dcap : Nat) (os : List (Int × Int)) (w : World)
    (h : WinsAt w A ws) (ho : OpsAt w D p os) (hlen : ws.length * 24 ≤ 140737488355328) :
    Calls Try.prog 6 #[cfgV f M G s l d (.slice PA pn pc) A ws.length cap (.slice CA cn cc), .slice D p dcap] w fun e w' => e = .returned (.bool true) ∧ Upd [] w w' := by
  have HW := Lib.hid h
  have HO := Lib.hid ho
  have hln : ws.length ≤ 5864062014805 := by omega
  clear h ho hlen
  unfold cfgV
  go_enter Try.func6, Try.ntmps6
  go_upto_region 2 with (fail)
  go_cut [] from 23 (fun W => ∃ A2 cap2 g cs, OwnAt w W f M G s l d (.slice PA pn pc) A ws.length cap (.slice CA cn cc) ws A2 cap2 g cs)
  case first =>
    by_cases hn : 0 < ws.length
    · obtain ⟨b, off, rfl, hc⟩ := HW.out hn
      have hbw := World.block_lt_of_cell? w _ (hc 0 _ (flat_get ws 0 hn).1)
      simp only at hbw
      obtain ⟨i0, hi, hz0, hz1, hz2⟩ := info_parts Try.info45
      obtain ⟨W2, hW2⟩ : ∃ W2, W2 = (w.alloc (.cells #[.int .i64 f, .int .i64 M, .int .i64 G, .int .i64 s, .int .i64 l, .int .i64 d, .slice PA pn pc, .slice (some ⟨b, off, none⟩) ws.length cap, .slice CA cn cc] 26)).alloc (.cells #[.int .i64 f, .int .i64 M, .int .i64 G, .int .i64 s, .int .i64 l, .int .i64 d, .slice PA pn pc, .slice (some ⟨b, off, none⟩) ws.length cap, .slice CA cn cc] 26) := ⟨_, rfl⟩
      rw [← hW2]
      have hu2 : Upd [] w W2 := by rw [hW2]; exact ((Upd.refl [] w).alloc _).alloc _
      have hs2 : W2.heap.size = w.heap.size + 2 := by rw [hW2]; simp
      have hc2 : Blk W2 w.heap.size #[.int .i64 f, .int .i64 M, .int .i64 G, .int .i64 s, .int .i64 l, .int .i64 d, .slice PA pn pc, .slice (some ⟨b, off, none⟩) ws.length cap, .slice CA cn cc] 26 := by rw [hW2]; exact (Blk.new _ _ _).alloc _
      have ho2 : Blk W2 (w.heap.size + 1) #[.int .i64 f, .int .i64 M, .int .i64 G, .int .i64 s, .int .i64 l, .int .i64 d, .slice PA pn pc, .slice (some ⟨b, off, none⟩) ws.length cap, .slice CA cn cc] 26 := by rw [hW2]; exact Blk.at (by simp)
      have hnews2 : ∀ j u, (flat ws)[j]? = some u → (W2.alloc (.cells #[] 45)).cell? ((⟨b, off, none⟩ : Addr).add j) = some u := fun j u hu => by
        rw [addr_add]
        exact (World.cell?_of_block (w := w) ((hu2.alloc _).block b hbw (by simp))).trans (hc j u hu)
      have hown : (W2.alloc (.cells #[] 45)).ownsRow W2.heap.size 45 3 (.slice (some ⟨W2.heap.size, 0, none⟩) 0 0) 0 [] := World.ownsRow_lit W2 #[] 0 (Nat.le_refl _) (by unfold maxLen; omega) rfl
      have HOW := Lib.hid hown
      have HN := Lib.hid hnews2
      have HU := Lib.hid hu2
      have HS := Lib.hid hs2
      have HC := Lib.hid hc2
      have HB := Lib.hid ho2
      have c7 := hc2.c7
      have o7 := ho2.c7
      have f7 := ho2.free 7
      have l2 : w.heap.size < W2.heap.size := by omega
      have l3 : w.heap.size + 1 < W2.heap.size := by omega
      clear hc hnews2 hown hu2 hs2 hc2 ho2 hW2
      go_wp2_with (at_builtin; go_must (refine wpList_append_lies _ (by rfl) (.tmp 24) (.tmp 26) 23 (by rfl) W2.heap.size 45 i0 _ 3 24 Try.underlying23 hi hz0 hz1 hz2 (by rfl) (by omega) (.slice (some ⟨W2.heap.size, 0, none⟩) 0 0) 0 [] (by rfl) HOW.out ⟨b, off, none⟩ ws.length cap (flat ws) (by rfl) (flat_length ws) HN.out (flat_one ws) hn (by unfold maxLen; omega) (by omega) (by simp) _ rfl ?_); intro g cap' w' hown' hgrow hat hlt; have HO2 := Lib.hid hown'; have HL := Lib.hid hlt; have HAT := Lib.hid hat; have hbx := Upd.grown (S := []) ((Upd.refl [] W2).alloc (.cells #[] 45)) hgrow (fun k hk => by simp [Value.ownBlock] at hk; omega); have HBX := Lib.hid hbx; have d7 := (hbx.blk HB.out (by simp)).c7; have fx := (hbx.blk HB.out (by simp)).free 7; have dl := (hbx.blk HB.out (by simp)).lt; clear hbx hown' hgrow hat hlt o7 f7 c7 l2 l3 hi hz0 hz1 hz2)
      go_meet
      case rel =>
        have ho := HO2.out
        simp only [Nat.zero_add, List.nil_append] at ho ⊢
        obtain ⟨_, hle, hcell⟩ := own_cells ho
        obtain ⟨cur, hcur, hsz, hbase⟩ := own_blk ho
        have hs2 := HS.out
        have hx := HBX.out
        have hg : g ≠ w.heap.size + 1 := by omega
        have hup : Upd [w.heap.size + 1] w' (w'.setCell ⟨w.heap.size + 1, 7, none⟩ (.slice (some ⟨g, 0, none⟩) ws.length cap')) := (Upd.refl _ _).setCell (by simp) _
        refine ⟨some ⟨g, 0, none⟩, cap', g, cur, ⟨hup.blk (hx.blk HC.out (by simp)) (by simp), by simpa using ((hx.blk HB.out (by simp)).set 7 (.slice (some ⟨g, 0, none⟩) ws.length cap')), fun _ => ⟨g, 0, rfl, fun j u hu => ?_⟩, fun _ => ⟨rfl, hup.blk hcur (by simpa using hg), hsz⟩, by omega, fun _ => ?_, ?_⟩⟩
        · rw [Nat.zero_add]
          exact (World.cell?_of_block (w := w') (hup.block g HL.out (by simpa using hg))).trans (hcell j u hu)
        · have := HL.out; have := hup.size; omega
        · exact (HU.out.trans hx).fresh hup (by simp)
    · obtain rfl : ws = [] := List.eq_nil_of_length_eq_zero (by omega)
      cases A with
      | none =>
        go_wp2_with fail
        go_meet
        case rel => exact ⟨some ⟨w.heap.size + 1 + 1, 0, none⟩, 0, w.heap.size + 2, #[], ⟨((Blk.new _ _ _).alloc _).alloc _, (Blk.at (by simp)).alloc _, fun h => by simp at h, fun h => by simp at h, by omega, fun h => by simp at h, ((((Upd.refl [] w).alloc _).alloc _).alloc _)⟩⟩
      | some a =>
        go_wp2_with fail
        go_meet
        case rel => exact ⟨some ⟨w.heap.size + 1 + 1, 0, none⟩, 0, w.heap.size + 2, #[], ⟨((Blk.new _ _ _).alloc _).alloc _, (Blk.at (by simp)).alloc _, fun h => by simp at h, fun h => by simp at h, by omega, fun h => by simp at h, ((((Upd.refl [] w).alloc _).alloc _).alloc _)⟩⟩
  case rest =>
    obtain ⟨A2, cap2, g, cs, ⟨hc, hown, hwins, hat, hlo, hhi, hup⟩⟩ := hcut
    have HOWN := Lib.hid hown
    have HC := Lib.hid hc
    have HUP := Lib.hid hup
    have HAT := Lib.hid hat
    have HHI := Lib.hid hhi
    have HW2 := Lib.hid hwins
    have o0 := hown.c0; have o1 := hown.c1; have o2 := hown.c2; have o3 := hown.c3; have o4 := hown.c4; have o5 := hown.c5; have o6 := hown.c6; have o7 := hown.c7; have o8 := hown.c8
    clear hc hown hwins hat hhi hup
    by_cases he : planErr M G ws = 0
    · have HNB := Lib.hid (fun W h => sched_new f M G s l d (.slice PA pn pc) A2 cap2 (.slice CA cn cc) ws W h he)
      have HRB := Lib.hid (fun W h => rsched_ok f M G s l d (.slice PA pn pc) A cap (.slice CA cn cc) ws W h he)
      obtain ⟨c1, c2, c3, c4, c5, c6⟩ := planErr_zero he
      have HG := Lib.hid (good_of c1 c2 c3 c4 c5 c6)
      clear he c1 c2 c3 c4 c6
      unfold cfgV at HNB HRB
      go_wp2_with fail
      refine (HNB.out _ HW2.out).mono ?_
      rintro e w1 ⟨x, rfl, hs, hx, hu⟩
      have hb := hu.blk HC.out (by simp)
      have HU1 := Lib.hid (HUP.out.trans hu)
      have HX := Lib.hid hx
      have HS := Lib.hid hs
      have HV := Lib.hid hu
      have o0 := hb.c0; have o1 := hb.c1; have o2 := hb.c2; have o3 := hb.c3; have o4 := hb.c4; have o5 := hb.c5; have o6 := hb.c6; have o7 := hb.c7; have o8 := hb.c8
      clear hb hu hx hs
      go_wp2_with fail
      refine (HRB.out _ (HW.out.upd HU1.out (fun _ _ _ => by simp))).mono ?_
      rintro e w2 ⟨rb, pb, wb, rfl, hq, hr1, hr2, hr3, hu⟩
      have HU2 := Lib.hid (HU1.out.trans hu)
      have HS2 := Lib.hid (HS.out.still hu)
      have HQ2 := Lib.hid hq
      have HB2 := Lib.hid ((HV.out.trans hu).blk HOWN.out (by simp))
      have hap : Apart x rb pb wb ws.length w.heap.size := by
        have hx := HX.out
        obtain ⟨x1, x2, x3, x4, x5⟩ := hx
        have hs := HS.out
        have q1 := hs.sched.lt; have q2 := hs.clock.lt; have q3 := hs.pic.lt
        obtain ⟨A', cap', hpb, _, _⟩ := hs.plan.blk
        have q4 := hpb.lt
        have q5 : 0 < ws.length → x.wb < w1.heap.size := fun hn => World.block_lt_of_cell? w1 _ (hs.plan.cells 0 hn).1
        have z := HUP.out.size
        refine ⟨⟨by omega, by omega, by omega, by omega, fun q => by have := q5 q; omega⟩, ?_, fun q => ?_, ⟨by omega, by omega, by omega⟩, by have := HU1.out.size; omega⟩
        · simp only [Ids.own, List.mem_cons, List.not_mem_nil, or_false, not_or]; omega
        · have := hr3 q
          simp only [Ids.own, List.mem_cons, List.not_mem_nil, or_false, not_or]; omega
      have HAP := Lib.hid hap
      have hgx : 0 < ws.length → ∀ k, k ∈ [g] → k ≠ x.sb ∧ k ≠ x.cb ∧ k ≠ x.lb ∧ k ≠ x.pb ∧ (0 < ws.length → k ≠ x.wb) := fun hn k hk => by
        obtain rfl : k = g := by simpa using hk
        obtain ⟨x1, x2, x3, x4, x5⟩ := HX.out
        have := HHI.out hn
        have := x5 hn
        omega
      have HGX := Lib.hid hgx
      have hgr : 0 < ws.length → rb ≠ g ∧ pb ≠ g ∧ wb ≠ g := fun hn => by
        have := HHI.out hn
        have := hr3 hn
        have := HV.out.size
        omega
      have HGR := Lib.hid hgr
      have HV2 := Lib.hid (HV.out.trans hu)
      clear hu hap hgx hgr hq hr1 hr2 hr3 o0 o1 o2 o3 o4 o5 o6 o7 o8
      have o7 := HB2.out.c7
      have f7 := HB2.out.free 7
      have l7 := HB2.out.lt
      have hcs : 0 < ws.length → ∃ cs' : Array Value, Blk w2 g cs' 45 ∧ ws.length * 3 ≤ cs'.size := fun hn => by
        obtain ⟨_, q1, q2⟩ := HAT.out hn
        exact ⟨cs, HV2.out.blk q1 (by simp), q2⟩
      have HCS := Lib.hid hcs
      clear hcs
      go_wp2_with fail
      go_loopw [10] (fun v10 wr => ∃ i : Nat, i ≤ ws.length ∧ v10 = .int .i64 i ∧ Hid (SchedAt wr x M G ws (psOf M G ws 0 none)) ∧ Hid (RefSt wr rb pb wb M G ws 0 none) ∧
          Hid (Blk wr (w.heap.size + 1) #[.int .i64 f, .int .i64 M, .int .i64 G, .int .i64 s, .int .i64 l, .int .i64 d, .slice PA pn pc, .slice A2 ws.length cap2, .slice CA cn cc] 26) ∧ Hid (Upd [] w wr) ∧ Hid (0 < ws.length → ∃ cs' : Array Value, Blk wr g cs' 45 ∧ ws.length * 3 ≤ cs'.size))
        (fun v10 _ => ws.length - (intOf v10).toNat)
      case atStart => exact ⟨0, by omega, rfl, HS2, HQ2, HB2, HU2, HCS⟩
      case round =>
        obtain ⟨i, hi, rfl, HSr, HQr, HBr, HUr, HCr⟩ := hrel
        have o7 := HBr.out.c7
        by_cases hlt : i < ws.length
        · obtain ⟨cs', hb', hsz⟩ := HCr.out (by omega)
          obtain ⟨rfl, _, _⟩ := HAT.out (by omega)
          have y0 := hb'.cell (i * 3) cs'[i * 3] (by simp)
          have y1 := hb'.cell (i * 3 + 1) cs'[i * 3 + 1] (by simp)
          have y2 := hb'.cell (i * 3 + 2) cs'[i * 3 + 2] (by simp)
          have g0 := hb'.free (i * 3)
          have g1 := hb'.free (i * 3 + 1)
          have g2 := hb'.free (i * 3 + 2)
          have gl := hb'.lt
          have HB' := Lib.hid hb'
          clear hb'
          go_wp2_with fail
          go_roundw
          case rel =>
            have hu3 : Upd [g] wr (((wr.setCell ⟨g, i * 3, none⟩ (.int .i64 7)).setCell ⟨g, i * 3 + 1, none⟩ (.int .i64 1)).setCell ⟨g, i * 3 + 2, none⟩ (.int .i64 1)) := (((Upd.refl _ _).setCell (by simp) _).setCell (by simp) _).setCell (by simp) _
            exact ⟨i + 1, by omega, by go_num, Lib.hid (HSr.out.upd2 hu3 (HGX.out (by omega))), Lib.hid (HQr.out.upd2 hu3 (by have := HGR.out (by omega); simp; omega) (by have := HGR.out (by omega); simp; omega) (fun _ => by have := HGR.out (by omega); simp; omega)),
              Lib.hid (hu3.blk HBr.out (by simp; omega)), Lib.hid (HUr.out.fresh hu3 (by simp; omega)), Lib.hid (fun _ => ⟨_, ((HB'.out.set _ _).set _ _).set _ _, by simpa using hsz⟩)⟩
          case measure => simp [intOf]; omega
        · clear HBr HCr HCS HB2 HS2 HQ2 HU2 HGX HGR HV2 HX HS HV HAT HHI HW2 HC HUP HOWN
          go_wp2_with fail
          clear o7
          go_loopw [6, 11] (fun v6 v11 wt => ∃ (j k : Nat) (u : Option Int) (y : Ids), j ≤ 200 ∧ k ≤ j ∧ v11 = .int .i64 j ∧ v6 = .pointer (some ⟨y.sb, 0, none⟩) ∧ Hid (Run M G ws k u) ∧ Hid (SchedAt wt y M G ws (psOf M G ws k u)) ∧ Hid (RefSt wt rb pb wb M G ws k u) ∧ Hid (Apart y rb pb wb ws.length w.heap.size) ∧ Hid (Upd [] w wt))
            (fun _ v11 _ => 200 - (intOf v11).toNat)
          case atStart => exact ⟨0, 0, none, x, by omega, by omega, rfl, rfl, Lib.hid ⟨HG.out, by omega, fun _ => ⟨rfl, rfl⟩, fun v hv => by cases hv⟩, HSr, HQr, HAP, HUr⟩
          case round =>
            obtain ⟨j, k, u, y, hj, hk, rfl, rfl, HR, HS, HQ, HA, HU⟩ := hrel
            by_cases hlt : j < p ∧ j < 200
            · obtain ⟨l1, l2⟩ := hlt
              obtain ⟨b', off', rfl, hb', hcell⟩ := HO.out (by omega)
              obtain ⟨z0, z1⟩ := hcell j l1
              have z0 := (World.cell?_of_block (w := w) (HU.out.block b' hb' (by simp))).trans z0
              have z1 := (World.cell?_of_block (w := w) (HU.out.block b' hb' (by simp))).trans z1
              have lb := Nat.lt_of_lt_of_le hb' HU.out.size
              have d1 : decide ((j : Int) < p) = true := decide_eq_true (by omega)
              have d2 : decide ((j : Int) < 200) = true := decide_eq_true (by omega)
              generalize (os.getD j (0, 0)).1 = K at *
              generalize (os.getD j (0, 0)).2 = Z at *
              have HJ := Lib.hid hb'
              clear hcell hb'
              by_cases k0 : K = 0
              · subst k0
                clear z1
                go_wp2_with fail
                refine (p_enter y M G ws _ k u HR.out HS.out).mono ?_
                rintro e w3 ⟨rfl, hs3, hu3⟩
                have HS3 := Lib.hid hs3
                have HQ3 := Lib.hid (HA.out.ref HQ.out hu3)
                have HU3 := Lib.hid (HA.out.up HU.out hu3)
                clear hs3 hu3 z0 d1 d2
                go_wp2_with fail
                refine (r_enter rb pb wb M G ws _ k u HR.out HQ3.out).mono ?_
                rintro e w4 ⟨rfl, hq4, hu4⟩
                have HQ4 := Lib.hid hq4
                have HS4 := Lib.hid (HA.out.sched HS3.out hu4)
                have HU4 := Lib.hid (HA.out.upr HU3.out hu4)
                clear hq4 hu4
                generalize (enterV ws k u).1 = a1 at *
                generalize (enterV ws k u).2.1 = a2 at *
                generalize (enterV ws k u).2.2 = a3 at *
                go_wp2_with fail
                refine (same_ok y rb pb wb M G ws _ k _ HR.out.enter HS4.out HQ4.out).mono ?_
                rintro e w5 ⟨rfl, n5, rfl⟩
                go_wp2_with fail
                go_roundw
                case rel => exact ⟨j + 1, k, _, y, by omega, by omega, by go_num, rfl, Lib.hid HR.out.enter, Lib.hid (HS4.out.drewN n5), Lib.hid (HQ4.out.upd2 ((Upd.refl [] w4).drewN n5) (by simp) (by simp) (by simp)), HA, Lib.hid (HU4.out.drewN n5)⟩
                case measure => simp [intOf]; omega
              · by_cases k1 : K = 1
                · subst k1
                  have HSP := Lib.hid (fun W (up : Upd [rb] wr W) => p_spend y M G Z ws W k u HR.out (HA.out.sched HS.out up))
                  have HQR := Lib.hid (fun W (up : Upd y.own wr W) => r_spend rb pb wb M G Z ws W k u HR.out (HA.out.ref HQ.out up))
                  have HK := Lib.hid (fun W (up : Upd [] w W) => (World.cell?_of_block (w := wr) ((up.block b' HJ.out (by simp)).trans (HU.out.block b' HJ.out (by simp)).symm)).trans z1)
                  have hj0 : (0 : Int) ≤ j := by omega
                  have hj1 : (j : Int) < p := by omega
                  go_wp2_with fail
                  go_region_held3 (fun w' => w'.cell? ⟨b', off' + j * 2 + 1, none⟩ = some (.int .i64 Z)) (first | exact HK.out _ HU.out | exact HK.out _ HU.out.drew | exact HK.out _ (HA.out.up HU.out.drew huP) | exact HK.out _ (HA.out.upr HU.out.drew huR) | exact HK.out _ (HA.out.upr (HA.out.up HU.out.drew huP) huR) | exact HK.out _ (HA.out.up (HA.out.upr HU.out.drew huR) huP)) ((first | (go_at_call 12; refine (HSP.out _ (by first | exact (Upd.refl _ _).drew | exact ((Upd.refl _ _).drew).trans huR)).mono ?_; rintro e wP ⟨rfl, hsP, huP⟩) | (go_at_call 19; refine (HQR.out _ (by first | exact (Upd.refl _ _).drew | exact ((Upd.refl _ _).drew).trans huP)).mono ?_; rintro e w4 ⟨rfl, hqR, huR⟩)))
                  have HS4 := Lib.hid (HA.out.sched hsP huR)
                  have HQ4 := Lib.hid hqR
                  have HU4 := Lib.hid (HA.out.upr (HA.out.up HU.out.drew huP) huR)
                  clear hsP hqR huP huR z0 z1 d1 d2 hj0 hj1 lb HSP HQR HK
                  generalize spendV G ws k u Z = sv at *
                  go_wp2_with fail
                  refine (same_ok y rb pb wb M G ws _ k _ (HR.out.spend Z) HS4.out HQ4.out).mono ?_
                  rintro e w5 ⟨rfl, n5, rfl⟩
                  go_wp2_with fail
                  go_roundw
                  case rel => exact ⟨j + 1, k, _, y, by omega, by omega, by go_num, rfl, Lib.hid (HR.out.spend Z), Lib.hid (HS4.out.drewN n5), Lib.hid (HQ4.out.upd2 ((Upd.refl [] w4).drewN n5) (by simp) (by simp) (by simp)), HA, Lib.hid (HU4.out.drewN n5)⟩
                  case measure => simp [intOf]; omega
                · by_cases k2 : K = 2
                  · subst k2
                    clear z1
                    go_wp2_with fail
                    refine (p_leave y M G ws _ k u HR.out HS.out).mono ?_
                    rintro e w3 ⟨rfl, hs3, hu3⟩
                    have HS3 := Lib.hid hs3
                    have HQ3 := Lib.hid (HA.out.ref HQ.out hu3)
                    have HU3 := Lib.hid (HA.out.up HU.out hu3)
                    clear hs3 hu3 z0 d1 d2
                    go_wp2_with fail
                    refine (r_leave rb pb wb M G ws _ k u HR.out HQ3.out).mono ?_
                    rintro e w4 ⟨rfl, hq4, hu4⟩
                    have HQ4 := Lib.hid hq4
                    have HS4 := Lib.hid (HA.out.sched HS3.out hu4)
                    have HU4 := Lib.hid (HA.out.upr HU3.out hu4)
                    have hkk : leaveK k u ≤ j + 1 := by cases u <;> simp only [leaveK] <;> omega
                    have HRL := Lib.hid (HR.out.leave (by omega))
                    clear hq4 hu4
                    generalize (leaveV M ws k u).1 = a1 at *
                    generalize (leaveV M ws k u).2 = a2 at *
                    generalize leaveK k u = k' at *
                    go_wp2_with fail
                    refine (same_ok y rb pb wb M G ws _ k' _ HRL.out HS4.out HQ4.out).mono ?_
                    rintro e w5 ⟨rfl, n5, rfl⟩
                    go_wp2_with fail
                    go_roundw
                    case rel => exact ⟨j + 1, k', _, y, by omega, hkk, by go_num, rfl, Lib.hid HRL.out, Lib.hid (HS4.out.drewN n5), Lib.hid (HQ4.out.upd2 ((Upd.refl [] w4).drewN n5) (by simp) (by simp) (by simp)), HA, Lib.hid (HU4.out.drewN n5)⟩
                    case measure => simp [intOf]; omega
                  · have e0 : (K == 0) = false := by simpa using k0
                    have e1 : (K == 1) = false := by simpa using k1
                    have e2 : (K == 2) = false := by simpa using k2
                    clear k0 k1 k2 z1
                    go_wp2_with fail
                    refine (clone_any y M G ws _ _ HS.out).mono ?_
                    rintro e w3 ⟨z, rfl, hz, hz1, hz2, hz3, hu3⟩
                    have htw : Twin y z ws.length wr.heap.size := ⟨hz1, hz2, hz3, ⟨HS.out.sched.lt, HS.out.clock.lt, HS.out.pic.lt⟩, HS.out.n1, HS.out.n2⟩
                    have haz : Apart z rb pb wb ws.length w.heap.size := by
                      obtain ⟨q1, q2, q3⟩ := HQ.out.lts
                      obtain ⟨x1, x2, x3⟩ := hz3
                      have hsz := HU.out.size
                      obtain ⟨⟨r1, r2, r3, r4, r5⟩, r6, r7, r8, r9⟩ := HA.out
                      refine ⟨⟨by omega, by omega, by omega, by rw [hz1]; exact r4, fun hn => by rw [hz2 hn]; exact r5 hn⟩, ?_, fun hn => ?_, ⟨by omega, by omega, by omega⟩, r9⟩
                      · simp only [Ids.own, List.mem_cons, List.not_mem_nil, or_false, not_or]; omega
                      · have := q3 hn
                        simp only [Ids.own, List.mem_cons, List.not_mem_nil, or_false, not_or]; omega
                    have HT := Lib.hid htw
                    have HZ := Lib.hid haz
                    have HSz := Lib.hid hz
                    have HSy := Lib.hid (HS.out.still hu3)
                    have HQ3 := Lib.hid (HQ.out.upd2 hu3 (by simp) (by simp) (by simp))
                    have HU3 := Lib.hid (HU.out.trans hu3)
                    clear hz hz1 hz2 hz3 hu3 htw haz z0 d1 d2 e0 e1 e2
                    go_wp2_with fail
                    refine (p_enter y M G ws _ k u HR.out HSy.out).mono ?_
                    rintro e wa ⟨rfl, hsa, hua⟩
                    have HSa := Lib.hid hsa
                    have HSza := Lib.hid (HT.out.keeps HSz.out hua)
                    have HQa := Lib.hid (HA.out.ref HQ3.out hua)
                    have HUa := Lib.hid (HA.out.up HU3.out hua)
                    have HRa := Lib.hid HR.out.enter
                    clear hsa hua
                    generalize enterU ws u = ua at *
                    go_wp2_with fail
                    refine (p_spend y M G 1 ws _ k ua HRa.out HSa.out).mono ?_
                    rintro e wb' ⟨rfl, hsb, hub⟩
                    have HSb := Lib.hid hsb
                    have HSzb := Lib.hid (HT.out.keeps HSza.out hub)
                    have HQb := Lib.hid (HA.out.ref HQa.out hub)
                    have HUb := Lib.hid (HA.out.up HUa.out hub)
                    have HRb := Lib.hid (HRa.out.spend 1)
                    clear hsb hub
                    generalize spendU G ws k ua 1 = ub at *
                    go_wp2_with fail
                    refine (p_leave y M G ws _ k ub HRb.out HSb.out).mono ?_
                    rintro e w4 ⟨rfl, hsc, huc⟩
                    have HS4 := Lib.hid (HT.out.keeps HSzb.out huc)
                    have HQ4 := Lib.hid (HA.out.ref HQb.out huc)
                    have HU4 := Lib.hid (HA.out.up HUb.out huc)
                    clear hsc huc
                    go_wp2_with fail
                    refine (same_ok z rb pb wb M G ws _ k _ HR.out HS4.out HQ4.out).mono ?_
                    rintro e w5 ⟨rfl, n5, rfl⟩
                    go_wp2_with fail
                    go_roundw
                    case rel => exact ⟨j + 1, k, _, z, by omega, by omega, by go_num, rfl, Lib.hid HR.out, Lib.hid (HS4.out.drewN n5), Lib.hid (HQ4.out.upd2 ((Upd.refl [] w4).drewN n5) (by simp) (by simp) (by simp)), HZ, Lib.hid (HU4.out.drewN n5)⟩
                    case measure => simp [intOf]; omega
            · have HE := Lib.hid (fun W h1 h2 => same_ok y rb pb wb M G ws W k u HR.out h1 h2)
              by_cases l1 : j < p
              · have d1 : decide ((j : Int) < p) = true := decide_eq_true (by omega)
                have d2 : decide ((j : Int) < 200) = false := decide_eq_false (by omega)
                clear hlt
                go_wp2_with fail
                refine (HE.out _ HS.out HQ.out).mono ?_
                rintro e w5 ⟨rfl, n5, rfl⟩
                go_wp2_with fail
                go_ret
                exact ⟨rfl, HU.out.drewN n5⟩
              · have d1 : decide ((j : Int) < p) = false := decide_eq_false (by omega)
                clear hlt
                go_wp2_with fail
                refine (HE.out _ HS.out HQ.out).mono ?_
                rintro e w5 ⟨rfl, n5, rfl⟩
                go_wp2_with fail
                go_ret
                exact ⟨rfl, HU.out.drewN n5⟩
    · have HNB := Lib.hid (fun W h => new_bad f M G s l d (.slice PA pn pc) A2 cap2 (.slice CA cn cc) ws W h he)
      have HRB := Lib.hid (fun W h => rsched_bad f M G s l d (.slice PA pn pc) A cap (.slice CA cn cc) ws W h he)
      have hne : (planErr M G ws != 0) = true := by simpa using he
      clear he
      generalize planErr M G ws = E at *
      unfold cfgV at HNB HRB
      go_wp2_with fail
      refine (HNB.out _ HW2.out).mono ?_
      rintro e w1 ⟨rfl, hu⟩
      have hb := hu.blk HC.out (by simp)
      have HU1 := Lib.hid (HUP.out.trans hu)
      have o0 := hb.c0; have o1 := hb.c1; have o2 := hb.c2; have o3 := hb.c3; have o4 := hb.c4; have o5 := hb.c5; have o6 := hb.c6; have o7 := hb.c7; have o8 := hb.c8
      clear hb hu
      go_wp2_with fail
      refine (HRB.out _ (HW.out.upd HU1.out (fun _ _ _ => by simp))).mono ?_
      rintro e w2 ⟨rfl, hu⟩
      have HU2 := Lib.hid (HU1.out.trans hu)
      clear hu
      go_wp2_with fail
      go_ret
      exact ⟨rfl, HU2.out⟩
end Go.Proofs.Ythfkbenkladonaa
