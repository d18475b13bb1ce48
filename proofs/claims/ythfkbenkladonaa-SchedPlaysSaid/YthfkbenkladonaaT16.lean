/-
  SchedShares where the configuration is refused or has no windows; counting of rounds. Conditions: as said.
-/
import Derived.Test.YthfkbenkladonaaT15
namespace Go.Proofs.Ythfkbenkladonaa
open Go.RowKit
attribute [local go_sem] max2_max min2_min max_two min_two

/-- what is written are blocks that were made since -/
theorem Upd.fresh {S : List Nat} {w a b : World} (h : Upd [] w a) (k : Upd S a b) (hS : ∀ n, n ∈ S → w.heap.size ≤ n) : Upd [] w b :=
  ⟨k.os.trans h.os, k.tape.trans h.tape, k.output.trans h.output, Nat.le_trans h.size k.size, fun i hi _ => (k.block i (Nat.lt_of_lt_of_le hi h.size) (fun hm => by have := hS i hm; omega)).trans (h.block i hi (by simp))⟩

theorem above_own {x : Ids} {n B : Nat} (h : x.above n B) : ∀ k, k ∈ x.own → B ≤ k := by
  intro k hk
  obtain ⟨a, b, c, _, _⟩ := h
  simp only [Ids.own, List.mem_cons, List.not_mem_nil, or_false] at hk
  omega

theorem not_own {x : Ids} {n B b : Nat} (h : x.above n B) (hb : b < B) : b ∉ x.own := fun hm => by have := above_own h b hm; omega

/-- how many of the first k rounds are of window 0 -/
def cnt (n : Nat) : Nat → Int
  | 0 => 0
  | k + 1 => cnt n k + if k % n = 0 then 1 else 0

theorem cnt_part (n q : Nat) : ∀ r, r ≤ n → cnt n (n * q + r) = cnt n (n * q) + if r = 0 then 0 else 1 := by
  intro r
  induction r with
  | zero => intro _; simp
  | succ r ih =>
    intro hr
    rw [show n * q + (r + 1) = (n * q + r) + 1 by omega, cnt, ih (by omega), Sc.mul_add_mod_lt (by omega)]
    by_cases h : r = 0
    · simp [h]
    · simp [h]

theorem cnt_rounds (n : Nat) (hn : 0 < n) (q : Nat) : cnt n (n * q) = q := by
  induction q with
  | zero => simp [cnt]
  | succ q ih =>
    rw [Nat.mul_add, Nat.mul_one, cnt_part n q n (Nat.le_refl _), ih, if_neg (by omega)]
    push_cast; rfl

theorem allTo_bound {M G : Int} {ws : List Sc.Win} (hg : Sc.Good M G ws) : ∀ k, k ≤ ws.length → 0 ≤ Sc.allTo ws k ∧ Sc.allTo ws k ≤ k * 16777216 := by
  intro k
  induction k with
  | zero => intro _; simp [Sc.allTo]
  | succ k ih =>
    intro hk
    have := ih (by omega)
    have hw := hg.w k (by omega)
    have := hg.m2
    rw [Sc.allTo]; push_cast; omega

theorem tot_bound {M G : Int} {ws : List Sc.Win} (hg : Sc.Good M G ws) (hn : 0 < ws.length) : ∀ k : Nat, 0 ≤ Sc.tot ws k ∧ Sc.tot ws k ≤ k * 16777216 := by
  intro k
  induction k with
  | zero => simp [Sc.tot]
  | succ k ih =>
    have hw := hg.w _ (Nat.mod_lt k hn)
    have := hg.m2
    rw [Sc.tot]; push_cast; omega

theorem cnt_bound (n : Nat) : ∀ k : Nat, 0 ≤ cnt n k ∧ cnt n k ≤ k := by
  intro k
  induction k with
  | zero => simp [cnt]
  | succ k ih => rw [cnt]; push_cast; split <;> omega

set_option maxRecDepth 100000 in
set_option maxHeartbeats 2000000 in
theorem shares_bad (f M G s l d : Int) (P : Value) (A : Option Addr) (cap : Nat) (C : Value) (ws : List Sc.Win) (B : Option Addr) (m bcap : Nat) (cost : Int) (w : World) (h : WinsAt w A ws) (he : planErr M G ws ≠ 0) :
    Calls Try.prog 3 #[cfgV f M G s l d P A ws.length cap C, .int .i64 cost, .slice B m bcap] w fun e w' => e = .returned (.bool true) ∧ Upd [] w w' := by
  have HNB := Lib.hid (fun W (u : Upd [] w W) => new_bad f M G s l d P A cap C ws W (h.upd u (fun _ _ _ => by simp)) he)
  have he0 : (planErr M G ws == 0) = false := by simpa using he
  have he1 : (planErr M G ws != 0) = true := by simpa using he
  clear h he
  generalize planErr M G ws = E at *
  unfold cfgV at HNB ⊢
  go_enter Try.func3, Try.ntmps3
  go_wp2_with fail
  refine (works_any _).mono ?_
  rintro e w1 ⟨rfl, hu⟩
  have hB := hu.blk (Blk.new w #[.int .i64 f, .int .i64 M, .int .i64 G, .int .i64 s, .int .i64 l, .int .i64 d, P, .slice A ws.length cap, C] 26) (by simp)
  have HB := Lib.hid hB
  have HU := Lib.hid (((Upd.refl [] w).alloc (.cells #[.int .i64 f, .int .i64 M, .int .i64 G, .int .i64 s, .int .i64 l, .int .i64 d, P, .slice A ws.length cap, C] 26)).trans hu)
  have c0 := hB.c0; have c1 := hB.c1; have c2 := hB.c2; have c3 := hB.c3; have c4 := hB.c4; have c5 := hB.c5; have c6 := hB.c6; have c7 := hB.c7; have c8 := hB.c8
  clear hB hu
  go_wp2_with fail
  refine (HNB.out w1 HU.out).mono ?_
  rintro e w2 ⟨rfl, hu2⟩
  have HU2 := Lib.hid (HU.out.trans hu2)
  clear hu2
  go_wp2_with fail
  go_ret
  exact ⟨by simp, HU2.out⟩

set_option maxRecDepth 100000 in
set_option maxHeartbeats 2000000 in
theorem shares_none (f M G s l d : Int) (P : Value) (A : Option Addr) (cap : Nat) (C : Value) (B : Option Addr) (m bcap : Nat) (cost : Int) (w : World) (he : planErr M G [] = 0) :
    Calls Try.prog 3 #[cfgV f M G s l d P A 0 cap C, .int .i64 cost, .slice B m bcap] w fun e w' => e = .returned (.bool true) ∧ Upd [] w w' := by
  have HNB := Lib.hid (fun W => new_ok0 f M G s l d P A cap C W he)
  clear he
  unfold cfgV at HNB ⊢
  go_enter Try.func3, Try.ntmps3
  go_wp2_with fail
  refine (works_any _).mono ?_
  rintro e w1 ⟨rfl, hu⟩
  have hB := hu.blk (Blk.new w #[.int .i64 f, .int .i64 M, .int .i64 G, .int .i64 s, .int .i64 l, .int .i64 d, P, .slice A 0 cap, C] 26) (by simp)
  have HB := Lib.hid hB
  have HU := Lib.hid (((Upd.refl [] w).alloc (.cells #[.int .i64 f, .int .i64 M, .int .i64 G, .int .i64 s, .int .i64 l, .int .i64 d, P, .slice A 0 cap, C] 26)).trans hu)
  have c0 := hB.c0; have c1 := hB.c1; have c2 := hB.c2; have c3 := hB.c3; have c4 := hB.c4; have c5 := hB.c5; have c6 := hB.c6; have c7 := hB.c7; have c8 := hB.c8
  clear hB hu
  go_wp2_with fail
  refine (HNB.out w1).mono ?_
  rintro e w2 ⟨x, rfl, hs, hx, hu2⟩
  have HU2 := Lib.hid (HU.out.trans hu2)
  have HB2 := Lib.hid (hu2.blk HB.out (by simp))
  have c7 := HB2.out.c7
  clear hu2 hs hx
  go_wp2_with fail
  go_ret
  exact ⟨by simp, HU2.out⟩
end Go.Proofs.Ythfkbenkladonaa
