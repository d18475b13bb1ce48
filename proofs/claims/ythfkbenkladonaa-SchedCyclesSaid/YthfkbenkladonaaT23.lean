/-
  SchedCycles where the configuration is refused or has no windows: it answers true. Conditions: as said.
-/
import Derived.Test.YthfkbenkladonaaT16
namespace Go.Proofs.Ythfkbenkladonaa
open Go.RowKit
attribute [local go_sem] max2_max min2_min max_two min_two

/-- truths in memory: a slice that was handed in -/
def BoolsAt (w : World) (A : Option Addr) (n : Nat) (bs : List Bool) : Prop :=
  0 < n → ∃ b off, A = some ⟨b, off, none⟩ ∧ b < w.heap.size ∧ ∀ j, j < n → w.cell? ⟨b, off + j, none⟩ = some (.bool (bs.getD j false))

theorem may_leave (x : Ids) (M G E : Int) (ws : List Sc.Win) (w : World) (h : SchedAt w x M G ws (St.leave E)) :
    Calls Try.prog 11 #[.pointer (some ⟨x.sb, 0, none⟩)] w fun e w' => e = .returned (.bool false) ∧ ∃ n, w' = w.drewN n := by
  simpa [St.leave] using may_any x M G ws (St.leave E) w h

theorem inside_leave (x : Ids) (M G E : Int) (ws : List Sc.Win) (w : World) (h : SchedAt w x M G ws (St.leave E)) :
    Calls Try.prog 16 #[.pointer (some ⟨x.sb, 0, none⟩)] w fun e w' => e = .returned (.tuple #[.int .i64 (-1), .int .i64 (-1), .bool false]) ∧ ∃ n, w' = w.drewN n := by
  simpa [St.leave] using inside_any x M G ws (St.leave E) w h

theorem time_win (x : Ids) (M G : Int) (ws : List Sc.Win) (k : Int) (i : Nat) (last used : Int) (w : World) (h : SchedAt w x M G ws (St.inWin M G ws k i last used)) :
    Calls Try.prog 15 #[.pointer (some ⟨x.sb, 0, none⟩)] w fun e w' => e = .returned (.int .i64 (beginAt M ws k i + used)) ∧ w = w' := by
  have := time_any x M G ws (St.inWin M G ws k i last used) w h
  simpa [St.inWin] using this

theorem own_lt {w : World} {x : Ids} {M G : Int} {ws : List Sc.Win} {s : St} (h : SchedAt w x M G ws s) {b : Nat} (hb : w.heap.size ≤ b) : b ∉ x.own := by
  intro hm
  have h1 := h.sched.lt
  have h2 := h.clock.lt
  have h3 := h.pic.lt
  simp only [Ids.own, List.mem_cons, List.not_mem_nil, or_false] at hm
  omega

theorem cy_conds {M G : Int} {ws : List Sc.Win} (he : planErr M G ws = 0) : Sc.Good M G ws := by
  unfold planErr at he
  by_cases hb : M < 1 ∨ 16777216 < M ∨ G < 0 ∨ 16777216 < G
  · rw [if_pos hb] at he; omega
  · rw [if_neg hb] at he
    by_cases hl : 32 < ws.length
    · rw [if_pos hl] at he; omega
    · rw [if_neg hl] at he
      exact good_of (by omega) (by omega) (by omega) (by omega) (by omega) he

set_option maxRecDepth 100000 in
set_option maxHeartbeats 2000000 in
theorem cycles_bad (f M G s l d : Int) (P : Value) (A : Option Addr) (cap : Nat) (C : Value) (ws : List Sc.Win) (B : Option Addr) (m bcap : Nat) (D : Option Addr) (p dcap : Nat) (w : World) (h : WinsAt w A ws) (he : planErr M G ws ≠ 0) :
    Calls Try.prog 5 #[cfgV f M G s l d P A ws.length cap C, .slice B m bcap, .slice D p dcap] w fun e w' => e = .returned (.bool true) ∧ Upd [] w w' := by
  have HNB := Lib.hid (fun W (u : Upd [] w W) => new_bad f M G s l d P A cap C ws W (h.upd u (fun _ _ _ => by simp)) he)
  have he0 : (planErr M G ws == 0) = false := by simpa using he
  have he1 : (planErr M G ws != 0) = true := by simpa using he
  clear h he
  generalize planErr M G ws = E at *
  unfold cfgV at HNB ⊢
  go_enter Try.func5, Try.ntmps5
  go_wp2_with fail
  refine (works_any _).mono ?_
  rintro e w1 ⟨rfl, hu⟩
  have hB := hu.blk (Blk.new w #[.int .i64 f, .int .i64 M, .int .i64 G, .int .i64 s, .int .i64 l, .int .i64 d, P, .slice A ws.length cap, C] 26) (by simp)
  have HB := Lib.hid hB
  have HU := Lib.hid (((Upd.refl [] w).alloc (.cells #[.int .i64 f, .int .i64 M, .int .i64 G, .int .i64 s, .int .i64 l, .int .i64 d, P, .slice A ws.length cap, C] 26)).trans hu)
  have c0 := hB.c0; have c1 := hB.c1; have c2 := hB.c2; have c3 := hB.c3; have c4 := hB.c4; have c5 := hB.c5; have c6 := hB.c6; have c7 := hB.c7; have c8 := hB.c8
  clear hB hu
  go_wp2_with fail
  refine (HNB.out w1 HU.out).mono ?_
  rintro e w2 ⟨rfl, hu2⟩
  have HU2 := Lib.hid (HU.out.trans hu2)
  clear hu2
  go_wp2_with fail
  go_ret
  exact ⟨by simp, HU2.out⟩

set_option maxRecDepth 100000 in
set_option maxHeartbeats 2000000 in
theorem cycles_none (f M G s l d : Int) (P : Value) (A : Option Addr) (cap : Nat) (C : Value) (B : Option Addr) (m bcap : Nat) (D : Option Addr) (p dcap : Nat) (w : World) (he : planErr M G [] = 0) :
    Calls Try.prog 5 #[cfgV f M G s l d P A 0 cap C, .slice B m bcap, .slice D p dcap] w fun e w' => e = .returned (.bool true) ∧ Upd [] w w' := by
  have HNB := Lib.hid (fun W => new_ok0 f M G s l d P A cap C W he)
  clear he
  unfold cfgV at HNB ⊢
  go_enter Try.func5, Try.ntmps5
  go_wp2_with fail
  refine (works_any _).mono ?_
  rintro e w1 ⟨rfl, hu⟩
  have hB := hu.blk (Blk.new w #[.int .i64 f, .int .i64 M, .int .i64 G, .int .i64 s, .int .i64 l, .int .i64 d, P, .slice A 0 cap, C] 26) (by simp)
  have HB := Lib.hid hB
  have HU := Lib.hid (((Upd.refl [] w).alloc (.cells #[.int .i64 f, .int .i64 M, .int .i64 G, .int .i64 s, .int .i64 l, .int .i64 d, P, .slice A 0 cap, C] 26)).trans hu)
  have c0 := hB.c0; have c1 := hB.c1; have c2 := hB.c2; have c3 := hB.c3; have c4 := hB.c4; have c5 := hB.c5; have c6 := hB.c6; have c7 := hB.c7; have c8 := hB.c8
  clear hB hu
  go_wp2_with fail
  refine (HNB.out w1).mono ?_
  rintro e w2 ⟨x, rfl, hs, hx, hu2⟩
  have HU2 := Lib.hid (HU.out.trans hu2)
  have HB2 := Lib.hid (hu2.blk HB.out (by simp))
  have c7 := HB2.out.c7
  clear hu2 hs hx
  go_wp2_with fail
  go_ret
  exact ⟨by simp, HU2.out⟩
end Go.Proofs.Ythfkbenkladonaa
