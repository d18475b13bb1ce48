/-
  The frame table's and the time's New where there are no windows. Conditions: the numbers lie within their bounds.
-/
import Derived.Test.YthfkbenkladonaaT11
namespace Go.Proofs.Ythfkbenkladonaa
open Go.RowKit

theorem Blk.at {w : World} {cs : Array Value} {T : TypeId} {b : Nat} (h : b = w.heap.size) : Blk (w.alloc (.cells cs T)) b cs T := by subst h; exact Blk.new w cs T

set_option maxHeartbeats 1000000 in
theorem plannew_none (f M G s l d : Int) (P : Value) (cap : Nat) (C : Value) (w : World) (h1 : 1 ≤ M) (h2 : M ≤ 16777216) (h3 : 0 ≤ G) (h4 : G ≤ 16777216) :
    Calls Try.prog 23 #[cfgV f M G s l d P none 0 cap C] w fun e w' => ∃ pb wb, e = .returned (.tuple #[.pointer (some ⟨pb, 0, none⟩), .int .i64 0]) ∧ PlanAt w' pb wb M G [] ∧ w.heap.size ≤ pb ∧ w.heap.size ≤ wb ∧ pb ≠ wb ∧ wb < w'.heap.size ∧ Upd [] w w' := by
  unfold cfgV
  go_enter Try.func23, Try.ntmps23
  go_wp2
  refine wp_loop_rounds 1 ?_
  rw [rounds_succ]
  go_wp2
  go_region_held3 (fun w' => w'.cell? ⟨w.heap.size, 1, none⟩ = some (.int .i64 M) ∧ w'.cell? ⟨w.heap.size, 2, none⟩ = some (.int .i64 G) ∧ w'.cell? ⟨w.heap.size, 7, none⟩ = some (.slice none 0 cap)) (go_keep) (fail)
  all_goals
    go_wp2
    go_ret2
    refine ⟨_, w.heap.size, rfl, ⟨⟨_, _, Blk.drew (Blk.at (by simp)), by simp, fun h => by simp at h⟩, fun i hi => by simp at hi, by simp⟩, ?_, Nat.le_refl _, ?_, ?_, ?_⟩
    all_goals try (first | omega | (simp; done) | (simp; omega))
    all_goals exact ((((Upd.refl [] w).alloc _).alloc _).alloc _).drew

set_option maxHeartbeats 1000000 in
theorem plannew_empty (f M G s l d : Int) (P : Value) (a : Addr) (cap : Nat) (C : Value) (w : World) (h1 : 1 ≤ M) (h2 : M ≤ 16777216) (h3 : 0 ≤ G) (h4 : G ≤ 16777216) :
    Calls Try.prog 23 #[cfgV f M G s l d P (some a) 0 cap C] w fun e w' => ∃ pb wb, e = .returned (.tuple #[.pointer (some ⟨pb, 0, none⟩), .int .i64 0]) ∧ PlanAt w' pb wb M G [] ∧ w.heap.size ≤ pb ∧ w.heap.size ≤ wb ∧ pb ≠ wb ∧ wb < w'.heap.size ∧ Upd [] w w' := by
  unfold cfgV
  go_enter Try.func23, Try.ntmps23
  go_wp2
  refine wp_loop_rounds 1 ?_
  rw [rounds_succ]
  go_wp2
  go_region_held3 (fun w' => w'.cell? ⟨w.heap.size, 1, none⟩ = some (.int .i64 M) ∧ w'.cell? ⟨w.heap.size, 2, none⟩ = some (.int .i64 G) ∧ w'.cell? ⟨w.heap.size, 7, none⟩ = some (.slice (some a) 0 cap)) (go_keep) (fail)
  all_goals
    go_wp2
    go_ret2
    refine ⟨_, w.heap.size, rfl, ⟨⟨_, _, Blk.drew (Blk.at (by simp)), by simp, fun h => by simp at h⟩, fun i hi => by simp at hi, by simp⟩, ?_, Nat.le_refl _, ?_, ?_, ?_⟩
    all_goals try (first | omega | (simp; done) | (simp; omega))
    all_goals exact ((((Upd.refl [] w).alloc _).alloc _).alloc _).drew

theorem plannew0 (f M G s l d : Int) (P : Value) (A : Option Addr) (cap : Nat) (C : Value) (w : World) (h1 : 1 ≤ M) (h2 : M ≤ 16777216) (h3 : 0 ≤ G) (h4 : G ≤ 16777216) :
    Calls Try.prog 23 #[cfgV f M G s l d P A 0 cap C] w fun e w' => ∃ pb wb, e = .returned (.tuple #[.pointer (some ⟨pb, 0, none⟩), .int .i64 0]) ∧ PlanAt w' pb wb M G [] ∧ w.heap.size ≤ pb ∧ w.heap.size ≤ wb ∧ pb ≠ wb ∧ wb < w'.heap.size ∧ Upd [] w w' := by
  cases A with
  | none => exact plannew_none f M G s l d P cap C w h1 h2 h3 h4
  | some a => exact plannew_empty f M G s l d P a cap C w h1 h2 h3 h4

set_option maxHeartbeats 1000000 in
theorem new_ok0 (f M G s l d : Int) (P : Value) (A : Option Addr) (cap : Nat) (C : Value) (w : World) (he : planErr M G [] = 0) :
    Calls Try.prog 8 #[cfgV f M G s l d P A 0 cap C] w fun e w' => ∃ x : Ids, e = .returned (.tuple #[.pointer (some ⟨x.sb, 0, none⟩), .int .i64 0]) ∧ SchedAt w' x M G [] St.init ∧ x.above 1 w.heap.size ∧ Upd [] w w' := by
  have hcond : 1 ≤ M ∧ M ≤ 16777216 ∧ 0 ≤ G ∧ G ≤ 16777216 := by
    unfold planErr at he
    by_cases hb : M < 1 ∨ 16777216 < M ∨ G < 0 ∨ 16777216 < G
    · rw [if_pos hb] at he; omega
    · omega
  obtain ⟨h1, h2, h3, h4⟩ := hcond
  have HPH := Lib.hid (fun W => plannew0 f M G s l d P A cap C W h1 h2 h3 h4)
  clear he
  unfold cfgV at HPH ⊢
  go_enter Try.func8, Try.ntmps8
  go_wp2_with fail
  refine (HPH.out _).mono ?_
  rintro e w1 ⟨pb, wb, rfl, hp, hpb, hwb, hne, hwl, hu⟩
  have HB := Lib.hid (hu.blk (Blk.new w #[.int .i64 f, .int .i64 M, .int .i64 G, .int .i64 s, .int .i64 l, .int .i64 d, P, .slice A 0 cap, C] 26) (by simp))
  have HU := Lib.hid (((Upd.refl [] w).alloc (.cells #[.int .i64 f, .int .i64 M, .int .i64 G, .int .i64 s, .int .i64 l, .int .i64 d, P, .slice A 0 cap, C] 26)).trans hu)
  have HP := Lib.hid hp
  clear hp hu
  go_wp2_with fail
  refine (picnew_any w1).mono ?_
  rintro e w2 ⟨lb, rfl, hlb, hbl, hu2⟩
  have HB2 := Lib.hid (hu2.blk HB.out (by simp))
  have HU2 := Lib.hid (HU.out.trans hu2)
  have HP2 := Lib.hid (HP.out.upd hu2 (by simp) (by simp))
  have HL := Lib.hid hbl
  have c2 := HB2.out.c2
  have cl := HB2.out.lt
  clear hu2 hbl
  go_wp2_with fail
  go_region_held3 (fun w' => w'.cell? ⟨w.heap.size, 2, none⟩ = some (.int .i64 G)) (go_keep) ((go_at_call 25; go_must (refine (clocknew_any _).mono ?_; rintro e w3 ⟨cb, rfl, hcb, hbc, hu3⟩; have HC := Lib.hid hbc; have HCB := Lib.hid hcb; have hdr := ((Upd.refl [] w2).drew).trans hu3; have HU3 := Lib.hid hdr; have HB3 := Lib.hid (hdr.blk HB2.out (by simp)); have d2 := HB3.out.c2; clear hbc hcb hu3 hdr)))
  go_wp2
  go_ret2
  have hu3 := HU3.out
  have hs2 := HU2.out.size
  have hs3 := hu3.size
  have hcb := HCB.out
  have hbc := HC.out
  have hlb2 := HL.out.lt
  obtain ⟨A', cap', hpb', hcap', hA'⟩ := HP.out.blk
  have hp1 := hpb'.lt
  have hc1 := hbc.lt
  simp only [World.size_alloc] at hpb hwb
  simp only [World.size_drew] at hcb
  refine ⟨⟨w3.heap.size, cb, lb, pb, wb⟩, rfl, ⟨Blk.new _ _ _, hbc.alloc _, (hu3.blk HL.out (by simp)).alloc _, (HP2.out.upd hu3 (by simp) (by simp)).upd ((Upd.refl [] w3).alloc _) (by simp) (by simp), Or.inl rfl, ?_, ?_, ?_⟩, ⟨?_, ?_, ?_, ?_, ?_⟩, (HU2.out.trans hu3).alloc _⟩
  all_goals simp only [Ids.own, List.mem_cons, List.not_mem_nil, or_false, not_or]
  all_goals omega
end Go.Proofs.Ythfkbenkladonaa
