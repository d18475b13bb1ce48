/-
  SchedBlind where the configuration is refused or has no windows; two times that share nothing. Conditions: as said.
-/
import Derived.Test.YthfkbenkladonaaT16
namespace Go.Proofs.Ythfkbenkladonaa
open Go.RowKit
attribute [local go_sem] max2_max min2_min max_two min_two

/-- two times that share nothing: what one does the other doesn't see -/
theorem keep_first {w0 w w' : World} {x y : Ids} {M G : Int} {ws : List Sc.Win} {s0 s : St} (h0 : SchedAt w0 x M G ws s0) (hn : 0 < ws.length) (hy : y.above ws.length w0.heap.size)
    (h : SchedAt w x M G ws s) (u : Upd y.own w w') : SchedAt w' x M G ws s := by
  obtain ⟨A, cap, hb, _, _⟩ := h0.plan.blk
  have l0 := h0.sched.lt
  have l1 := h0.clock.lt
  have l2 := h0.pic.lt
  have l3 := hb.lt
  have l4 := World.block_lt_of_cell? w0 _ (h0.plan.cells 0 hn).1
  simp only at l4
  refine h.upd u (fun k hk => ?_)
  have := above_own hy k hk
  omega

theorem keep_second {w0 w w' : World} {x y : Ids} {M G : Int} {ws : List Sc.Win} {s0 s : St} (h0 : SchedAt w0 x M G ws s0) (hn : 0 < ws.length) (hy : y.above ws.length w0.heap.size)
    (h : SchedAt w y M G ws s) (u : Upd x.own w w') : SchedAt w' y M G ws s := by
  have l0 := h0.sched.lt
  have l1 := h0.clock.lt
  have l2 := h0.pic.lt
  obtain ⟨a1, a2, a3, a4, a5⟩ := hy
  have a5 := a5 hn
  refine h.upd u (fun k hk => ?_)
  simp only [Ids.own, List.mem_cons, List.not_mem_nil, or_false] at hk
  omega

set_option maxRecDepth 100000 in
set_option maxHeartbeats 1000000 in
theorem blind_bad (f M G s l d : Int) (P : Value) (A : Option Addr) (cap : Nat) (C : Value) (ws : List Sc.Win) (who : Int) (B1 B2 B3 : Value) (w : World) (h : WinsAt w A ws) (he : planErr M G ws ≠ 0) :
    Calls Try.prog 4 #[cfgV f M G s l d P A ws.length cap C, .int .i64 who, B1, B2, B3] w fun e w' => e = .returned (.bool true) ∧ Upd [] w w' := by
  have HNB := Lib.hid (fun W (u : Upd [] w W) => new_bad f M G s l d P A cap C ws W (h.upd u (fun _ _ _ => by simp)) he)
  have he0 : (planErr M G ws == 0) = false := by simpa using he
  have he1 : (planErr M G ws != 0) = true := by simpa using he
  clear h he
  generalize planErr M G ws = E at *
  unfold cfgV at HNB ⊢
  go_enter Try.func4, Try.ntmps4
  go_wp2_with fail
  refine (works_any _).mono ?_
  rintro e w1 ⟨rfl, hu⟩
  have hB := hu.blk (Blk.new w #[.int .i64 f, .int .i64 M, .int .i64 G, .int .i64 s, .int .i64 l, .int .i64 d, P, .slice A ws.length cap, C] 26) (by simp)
  have HB := Lib.hid hB
  have HU := Lib.hid (((Upd.refl [] w).alloc (.cells #[.int .i64 f, .int .i64 M, .int .i64 G, .int .i64 s, .int .i64 l, .int .i64 d, P, .slice A ws.length cap, C] 26)).trans hu)
  have c0 := hB.c0; have c1 := hB.c1; have c2 := hB.c2; have c3 := hB.c3; have c4 := hB.c4; have c5 := hB.c5; have c6 := hB.c6; have c7 := hB.c7; have c8 := hB.c8
  clear hB hu
  go_wp2_with fail
  refine (HNB.out w1 HU.out).mono ?_
  rintro e w2 ⟨rfl, hu2⟩
  have hB := hu2.blk HB.out (by simp)
  have HU2 := Lib.hid (HU.out.trans hu2)
  clear hu2 c0 c1 c2 c3 c4 c5 c6 c7 c8
  have c0 := hB.c0; have c1 := hB.c1; have c2 := hB.c2; have c3 := hB.c3; have c4 := hB.c4; have c5 := hB.c5; have c6 := hB.c6; have c7 := hB.c7; have c8 := hB.c8
  clear hB
  go_wp2_with fail
  refine (HNB.out w2 HU2.out).mono ?_
  rintro e w3 ⟨rfl, hu3⟩
  have HU3 := Lib.hid (HU2.out.trans hu3)
  clear hu3
  go_wp2_with fail
  go_ret
  exact ⟨by simp, HU3.out⟩

set_option maxRecDepth 100000 in
set_option maxHeartbeats 1000000 in
theorem blind_none (f M G s l d : Int) (P : Value) (A : Option Addr) (cap : Nat) (C : Value) (who : Int) (B1 B2 B3 : Value) (w : World) (he : planErr M G [] = 0) :
    Calls Try.prog 4 #[cfgV f M G s l d P A 0 cap C, .int .i64 who, B1, B2, B3] w fun e w' => e = .returned (.bool true) ∧ Upd [] w w' := by
  have HNB := Lib.hid (fun W => new_ok0 f M G s l d P A cap C W he)
  clear he
  unfold cfgV at HNB ⊢
  go_enter Try.func4, Try.ntmps4
  go_wp2_with fail
  refine (works_any _).mono ?_
  rintro e w1 ⟨rfl, hu⟩
  have hB := hu.blk (Blk.new w #[.int .i64 f, .int .i64 M, .int .i64 G, .int .i64 s, .int .i64 l, .int .i64 d, P, .slice A 0 cap, C] 26) (by simp)
  have HB := Lib.hid hB
  have HU := Lib.hid (((Upd.refl [] w).alloc (.cells #[.int .i64 f, .int .i64 M, .int .i64 G, .int .i64 s, .int .i64 l, .int .i64 d, P, .slice A 0 cap, C] 26)).trans hu)
  have c0 := hB.c0; have c1 := hB.c1; have c2 := hB.c2; have c3 := hB.c3; have c4 := hB.c4; have c5 := hB.c5; have c6 := hB.c6; have c7 := hB.c7; have c8 := hB.c8
  clear hB hu
  go_wp2_with fail
  refine (HNB.out w1).mono ?_
  rintro e w2 ⟨x, rfl, hs, hx, hu2⟩
  have hB := hu2.blk HB.out (by simp)
  have HB2 := Lib.hid hB
  have HU2 := Lib.hid (HU.out.trans hu2)
  clear hu2 hs hx c0 c1 c2 c3 c4 c5 c6 c7 c8
  have c0 := hB.c0; have c1 := hB.c1; have c2 := hB.c2; have c3 := hB.c3; have c4 := hB.c4; have c5 := hB.c5; have c6 := hB.c6; have c7 := hB.c7; have c8 := hB.c8
  clear hB
  go_wp2_with fail
  refine (HNB.out w2).mono ?_
  rintro e w3 ⟨y, rfl, hs, hx, hu3⟩
  have HU3 := Lib.hid (HU2.out.trans hu3)
  have HB3 := Lib.hid (hu3.blk HB2.out (by simp))
  have c7 := HB3.out.c7
  clear hu3 hs hx
  go_wp2_with fail
  go_ret
  exact ⟨by simp, HU3.out⟩
end Go.Proofs.Ythfkbenkladonaa
