/-
  A time's Clone; Enter inside a window, and where there is none; the two sides are the same. Conditions: what they read lies in memory.
-/
import Derived.Test.YthfkbenkladonaaT30
import Derived.Deep.RegionHeld3
import Derived.Deep.DeepMust
namespace Go.Proofs.Ythfkbenkladonaa
open Go.RowKit
attribute [local go_sem] max2_max min2_min max_two min_two

theorem enter_in (x : Ids) (M G : Int) (ws : List Sc.Win) (s : St) (w : World) (h : SchedAt w x M G ws s) (hin : s.inside = true) :
    Calls Try.prog 9 #[.pointer (some ⟨x.sb, 0, none⟩)] w fun e w' => e = .returned (.tuple #[.int .i64 0, .int .i64 0, .int .i64 8]) ∧ w = w' := by
  have s4 := h.sched.c4
  rw [hin] at s4
  clear h hin
  go_enter Try.func9, Try.ntmps9
  go_wp2_with fail
  go_ret3
  exact ⟨rfl, rfl⟩

set_option maxHeartbeats 400000 in
theorem enter_none (x : Ids) (M G : Int) (s : St) (w : World) (h : SchedAt w x M G [] s) (hin : s.inside = false) (h0 : 0 ≤ s.now) (h1 : s.now ≤ 281474976710656) :
    Calls Try.prog 9 #[.pointer (some ⟨x.sb, 0, none⟩)] w fun e w' => e = .returned (.tuple #[.int .i64 0, .int .i64 0, .int .i64 2]) ∧ ∃ n, w' = w.drewN n := by
  have s1 := h.sched.c0
  have s2 := h.sched.c2
  have s4 := h.sched.c4
  rw [hin] at s4
  have HN := Lib.hid (fun n => next_none x.pb x.wb M G s.now (w.drewN n) (h.plan.upd ((Upd.refl [] w).drewN n) (by simp) (by simp)) h0 h1)
  have HC := Lib.hid (fun n => now_any x.cb s.now s.at' s.armed (w.drewN n) (h.clock.drewN n))
  clear h hin
  generalize s.now = t at *
  go_enter Try.func9, Try.ntmps9
  go_wp2_with fail
  go_quiet ((first | (go_at_call 10; exact Calls.quiet_of_same ((HC.out _).mono fun _ _ q => ⟨q.1, q.2.symm⟩)) | (go_at_call 26; exact Calls.quiet_of (HN.out _))))
  go_wp2_with fail
  go_ret3
  exact ⟨rfl, _, rfl⟩

theorem rnext_none (rb pb wb : Nat) (M G : Int) (T W J U L t : Int) (w : World) (h : RefAt w rb pb wb M G [] T W J U L) (h0 : 0 ≤ t) (h1 : t ≤ 281474976710656) :
    Calls Try.prog 37 #[.pointer (some ⟨pb, 0, none⟩), .int .i64 t] w fun e w' => e = .returned (.tuple #[.int .i64 0, .int .i64 0, .int .i64 2]) ∧ ∃ n, w' = w.drewN n := by
  obtain ⟨A, cap, hb, hcap, hA⟩ := h.plan
  have c2 := hb.c2
  clear h hb hA
  simp only [List.length_nil] at c2
  have d0 : decide (t < 0) = false := decide_eq_false (by omega)
  have d1 : decide (281474976710656 < t) = false := decide_eq_false (by omega)
  go_enter Try.func37, Try.ntmps37
  go_wp2
  go_ret3
  exact ⟨rfl, 0, rfl⟩

theorem renter_none (rb pb wb : Nat) (M G : Int) (T U L : Int) (w : World) (h : RefAt w rb pb wb M G [] T (-1) (-1) U L) (h0 : 0 ≤ T) (h1 : T ≤ 281474976710656) :
    Calls Try.prog 18 #[.pointer (some ⟨rb, 0, none⟩)] w fun e w' => e = .returned (.tuple #[.int .i64 0, .int .i64 0, .int .i64 2]) ∧ ∃ n, w' = w.drewN n := by
  have HN := Lib.hid (fun n => rnext_none rb pb wb M G T (-1) (-1) U L T (w.drewN n) (h.drewN n) h0 h1)
  have c0 := h.blk.c0
  have c1 := h.blk.c1
  have c2 := h.blk.c2
  clear h
  go_enter Try.func18, Try.ntmps18
  go_wp2
  go_quiet ((go_at_call 37; exact Calls.quiet_of (HN.out _)))
  go_wp2
  go_ret3
  exact ⟨rfl, _, rfl⟩

set_option maxHeartbeats 1000000 in
theorem clone_any (x : Ids) (M G : Int) (ws : List Sc.Win) (s : St) (w : World) (h : SchedAt w x M G ws s) :
    Calls Try.prog 21 #[.pointer (some ⟨x.sb, 0, none⟩)] w fun e w' => ∃ y : Ids, e = .returned (.pointer (some ⟨y.sb, 0, none⟩)) ∧ SchedAt w' y M G ws s ∧ y.pb = x.pb ∧ (0 < ws.length → y.wb = x.wb) ∧ (w.heap.size ≤ y.sb ∧ w.heap.size ≤ y.cb ∧ w.heap.size ≤ y.lb) ∧ Upd [] w w' := by
  have HS := Lib.hid h
  have HC := Lib.hid (fun W (u : Upd [] w W) => clock_clone x.cb s.now s.at' s.armed W (u.blk h.clock (by simp)))
  have HL := Lib.hid (fun W (u : Upd [] w W) => pic_clone x.lb s.pend W (u.blk h.pic (by simp)))
  have HK := Lib.hid (fun W (u : Upd [] w W) => And.intro (u.blk h.sched (by simp)).c0 (u.blk h.sched (by simp)).c1)
  have c0 := h.sched.c0
  have c1 := h.sched.c1
  have c2 := h.sched.c2
  have c3 := h.sched.c3
  have c4 := h.sched.c4
  have c5 := h.sched.c5
  have c6 := h.sched.c6
  have c7 := h.sched.c7
  have cl := h.sched.lt
  clear h
  obtain ⟨now, armed, at', pend, inside, window, major, last⟩ := s
  simp only at *
  go_enter Try.func21, Try.ntmps21
  go_wp2_with fail
  have ha := (Upd.refl [] w).alloc (.cells #[.pointer (some ⟨x.cb, 0, none⟩), .pointer (some ⟨x.lb, 0, none⟩), .pointer (some ⟨x.pb, 0, none⟩), .int .i64 G, .bool inside, .int .i64 window, .int .i64 major, .int .i64 last] 43)
  go_region_held3 (fun w' => w'.cell? ⟨x.sb, 0, none⟩ = some (.pointer (some ⟨x.cb, 0, none⟩)) ∧ w'.cell? ⟨x.sb, 1, none⟩ = some (.pointer (some ⟨x.lb, 0, none⟩))) (exact HK.out _ (by repeat (first | exact Upd.refl _ _ | refine Upd.alloc ?_ _ | refine Upd.drew ?_ | refine Upd.drewN ?_ _))) ((first | (go_at_call 40; refine (HC.out _ (by repeat (first | exact Upd.refl _ _ | refine Upd.alloc ?_ _ | refine Upd.drew ?_ | refine Upd.drewN ?_ _))).mono ?_; rintro e w1 ⟨rfl, rfl⟩) | (go_at_call 41; refine (HL.out _ (by repeat (first | exact Upd.refl _ _ | refine Upd.alloc ?_ _ | refine Upd.drew ?_ | refine Upd.drewN ?_ _))).mono ?_; rintro e w1 ⟨rfl, rfl⟩)))
  go_wp2
  go_ret
  have hs := HS.out
  obtain ⟨A', cap', hpb, hcap, hA'⟩ := hs.plan.blk
  have hp1 := hpb.lt
  have b1 := (((Blk.new w #[.pointer (some ⟨w.heap.size + 1, 0, none⟩), .pointer (some ⟨w.heap.size + 1 + 1, 0, none⟩), .pointer (some ⟨x.pb, 0, none⟩), .int .i64 G, .bool inside, .int .i64 window, .int .i64 major, .int .i64 last] 43).alloc (.cells #[.int .i64 now, .bool armed, .int .i64 at'] 78)).alloc (.cells #[.int .i64 1, .int .u32 pend, .int .u32 0] 93))
  have b2 := ((Blk.new (w.alloc (.cells #[.pointer (some ⟨w.heap.size + 1, 0, none⟩), .pointer (some ⟨w.heap.size + 1 + 1, 0, none⟩), .pointer (some ⟨x.pb, 0, none⟩), .int .i64 G, .bool inside, .int .i64 window, .int .i64 major, .int .i64 last] 43)) #[.int .i64 now, .bool armed, .int .i64 at'] 78).alloc (.cells #[.int .i64 1, .int .u32 pend, .int .u32 0] 93))
  have b3 := (Blk.new ((w.alloc (.cells #[.pointer (some ⟨w.heap.size + 1, 0, none⟩), .pointer (some ⟨w.heap.size + 1 + 1, 0, none⟩), .pointer (some ⟨x.pb, 0, none⟩), .int .i64 G, .bool inside, .int .i64 window, .int .i64 major, .int .i64 last] 43)).alloc (.cells #[.int .i64 now, .bool armed, .int .i64 at'] 78)) #[.int .i64 1, .int .u32 pend, .int .u32 0] 93)
  have hu : Upd [] w _ := ((((Upd.refl [] w).alloc (.cells #[.pointer (some ⟨w.heap.size + 1, 0, none⟩), .pointer (some ⟨w.heap.size + 1 + 1, 0, none⟩), .pointer (some ⟨x.pb, 0, none⟩), .int .i64 G, .bool inside, .int .i64 window, .int .i64 major, .int .i64 last] 43)).alloc (.cells #[.int .i64 now, .bool armed, .int .i64 at'] 78)).alloc (.cells #[.int .i64 1, .int .u32 pend, .int .u32 0] 93))
  have hpl : PlanAt _ x.pb x.wb M G ws := hs.plan.upd hu (by simp) (by simp)
  simp only [World.size_alloc] at b2 b3
  have hwb : 0 < ws.length → x.wb < w.heap.size := fun hn => World.block_lt_of_cell? w _ (hs.plan.cells 0 hn).1
  refine ⟨⟨w.heap.size, w.heap.size + 1, w.heap.size + 1 + 1, x.pb, if 0 < ws.length then x.wb else w.heap.size + 3⟩, rfl, ⟨b1, b2, b3, ⟨?_, ?_, hpl.small⟩, hs.pend, ?_, ?_, ?_⟩, rfl, fun hn => if_pos hn, ⟨Nat.le_refl _, Nat.le_succ _, Nat.le_add_right _ 2⟩, ?_⟩
  · obtain ⟨A2, c2, q1, q2, q3⟩ := hpl.blk
    exact ⟨A2, c2, q1, q2, fun hn => by rw [if_pos hn]; exact q3 hn⟩
  · intro i hi
    simp only [if_pos (show 0 < ws.length by omega)]
    exact hpl.cells i hi
  · simp only [Ids.own, List.mem_cons, List.not_mem_nil, or_false, not_or]; omega
  · simp only [Ids.own, List.mem_cons, List.not_mem_nil, or_false, not_or]
    split
    · rename_i hn; have := hwb hn; omega
    · omega
  · show w.heap.size ≠ w.heap.size + 1 ∧ w.heap.size ≠ w.heap.size + 1 + 1 ∧ w.heap.size + 1 ≠ w.heap.size + 1 + 1
    omega
  · exact ⟨hu.os, hu.tape, hu.output, hu.size, hu.block⟩
end Go.Proofs.Ythfkbenkladonaa
