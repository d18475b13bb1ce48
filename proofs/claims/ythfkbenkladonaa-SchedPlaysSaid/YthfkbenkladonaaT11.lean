/-
  The time's New, where it takes windows: a time at its begin, all of new memory. Conditions: the windows lie in memory and keep the rules.
-/
import Derived.Test.YthfkbenkladonaaT9
import Derived.Deep.RegionHeld3
import Derived.Deep.DeepMust
import Derived.Test.YthfkbenkladonaaT10
namespace Go.Proofs.Ythfkbenkladonaa
open Go.RowKit

set_option maxHeartbeats 1000000 in
theorem new_ok (f M G s l d : Int) (P : Value) (A : Option Addr) (cap : Nat) (C : Value) (ws : List Sc.Win) (w : World) (h : WinsAt w A ws) (hn0 : 0 < ws.length) (he : planErr M G ws = 0) :
    Calls Try.prog 8 #[cfgV f M G s l d P A ws.length cap C] w fun e w' => ∃ x : Ids, e = .returned (.tuple #[.pointer (some ⟨x.sb, 0, none⟩), .int .i64 0]) ∧ SchedAt w' x M G ws St.init ∧ x.above ws.length w.heap.size ∧ Upd [] w w' := by
  have hcond : 1 ≤ M ∧ M ≤ 16777216 ∧ 0 ≤ G ∧ G ≤ 16777216 ∧ ws.length ≤ 32 ∧ winErr M 0 ws = 0 := by
    unfold planErr at he
    by_cases hb : M < 1 ∨ 16777216 < M ∨ G < 0 ∨ 16777216 < G
    · rw [if_pos hb] at he; omega
    · rw [if_neg hb] at he
      by_cases hl : 32 < ws.length
      · rw [if_pos hl] at he; omega
      · rw [if_neg hl] at he; exact ⟨by omega, by omega, by omega, by omega, by omega, he⟩
  obtain ⟨h1, h2, h3, h4, h5, h6⟩ := hcond
  have HPH := Lib.hid (fun W (u : Upd [] w W) => plannew_ok f M G s l d P A cap C ws W (h.upd u (fun _ _ _ => by simp)) h1 h2 h3 h4 h5 h6 hn0)
  clear h he h6
  unfold cfgV at HPH ⊢
  go_enter Try.func8, Try.ntmps8
  go_wp2_with fail
  refine (HPH.out _ ((Upd.refl _ _).alloc _)).mono ?_
  rintro e w1 ⟨pb, wb, rfl, hp, hpb, hwb, hne, hu⟩
  have HB := Lib.hid (hu.blk (Blk.new w #[.int .i64 f, .int .i64 M, .int .i64 G, .int .i64 s, .int .i64 l, .int .i64 d, P, .slice A ws.length cap, C] 26) (by simp))
  have HU := Lib.hid (((Upd.refl [] w).alloc (.cells #[.int .i64 f, .int .i64 M, .int .i64 G, .int .i64 s, .int .i64 l, .int .i64 d, P, .slice A ws.length cap, C] 26)).trans hu)
  have HP := Lib.hid hp
  clear hp hu
  go_wp2_with fail
  refine (picnew_any w1).mono ?_
  rintro e w2 ⟨lb, rfl, hlb, hbl, hu2⟩
  have HB2 := Lib.hid (hu2.blk HB.out (by simp))
  have HU2 := Lib.hid (HU.out.trans hu2)
  have HP2 := Lib.hid (HP.out.upd hu2 (by simp) (by simp))
  have HL := Lib.hid hbl
  have c2 := HB2.out.c2
  have cl := HB2.out.lt
  clear hu2 hbl
  go_wp2_with fail
  go_region_held3 (fun w' => w'.cell? ⟨w.heap.size, 2, none⟩ = some (.int .i64 G)) (go_keep) ((go_at_call 25; go_must (refine (clocknew_any _).mono ?_; rintro e w3 ⟨cb, rfl, hcb, hbc, hu3⟩; have HC := Lib.hid hbc; have HCB := Lib.hid hcb; have hdr := ((Upd.refl [] w2).drew).trans hu3; have HU3 := Lib.hid hdr; have HB3 := Lib.hid (hdr.blk HB2.out (by simp)); have d2 := HB3.out.c2; clear hbc hcb hu3 hdr)))
  go_wp2
  go_ret2
  have hu3 := HU3.out
  have hs2 := HU2.out.size
  have hs3 := hu3.size
  have hcb := HCB.out
  have hbc := HC.out
  have hlb2 := HL.out.lt
  obtain ⟨A', cap', hpb', hcap', hA'⟩ := HP.out.blk
  have hp1 := hpb'.lt
  have hw1 := World.block_lt_of_cell? w1 _ (HP.out.cells 0 hn0).1
  have hc1 := hbc.lt
  simp only [World.size_alloc] at hpb hwb
  simp only [World.size_drew] at hcb
  simp only at hw1
  have hwb := hwb hn0
  refine ⟨⟨w3.heap.size, cb, lb, pb, wb⟩, rfl, ⟨Blk.new _ _ _, hbc.alloc _, (hu3.blk HL.out (by simp)).alloc _, (HP2.out.upd hu3 (by simp) (by simp)).upd ((Upd.refl [] w3).alloc _) (by simp) (by simp), Or.inl rfl, ?_, ?_, ?_⟩, ⟨?_, ?_, ?_, ?_, ?_⟩, (HU2.out.trans hu3).alloc _⟩
  all_goals simp only [Ids.own, List.mem_cons, List.not_mem_nil, or_false, not_or]
  all_goals omega
end Go.Proofs.Ythfkbenkladonaa
