/-
  The reference's Spend: what it answers and leaves. Conditions: the reference's time lies in memory.
-/
import Derived.Test.YthfkbenkladonaaT26
namespace Go.Proofs.Ythfkbenkladonaa
open Go.RowKit
attribute [local go_sem] max2_max min2_min max_two min_two

/-- a store into the reference's block -/
theorem RefAt.set {w w' : World} {rb pb wb : Nat} {M G : Int} {ws : List Sc.Win} {T W J U L T' W' J' U' L' : Int} (h : RefAt w rb pb wb M G ws T W J U L) (u : Upd [rb] w w')
    (hb : Blk w' rb #[.pointer (some ⟨pb, 0, none⟩), .int .i64 T', .int .i64 W', .int .i64 J', .int .i64 U', .int .i64 L'] 85) : RefAt w' rb pb wb M G ws T' W' J' U' L' := by
  obtain ⟨_, ⟨A, cap, hp, hc, ha⟩, hcells, n1, n2⟩ := h
  refine ⟨hb, ⟨A, cap, u.blk hp (by simpa using n1), hc, ha⟩, fun i hi => ?_, n1, n2⟩
  obtain ⟨c0, c1, c2⟩ := hcells i hi
  have hlt := World.block_lt_of_cell? w _ c0
  have e : w'.heap[wb]? = w.heap[wb]? := u.block wb hlt (by simpa using n2)
  exact ⟨(World.cell?_of_block (w := w) e).trans c0, (World.cell?_of_block (w := w) e).trans c1, (World.cell?_of_block (w := w) e).trans c2⟩

/-- what May answers -/
def RMay (rb : Nat) (b : Bool) (w : World) : Prop := ∀ n, Calls Try.prog 39 #[.pointer (some ⟨rb, 0, none⟩)] (w.drewN n) fun e w' => e = .returned (.bool b) ∧ ∃ m, w' = (w.drewN n).drewN m

theorem rspend_state (rb : Nat) (n : Int) (w : World) (hm : RMay rb false w) :
    Calls Try.prog 19 #[.pointer (some ⟨rb, 0, none⟩), .int .i64 n] w fun e w' => e = .returned (.int .i64 8) ∧ ∃ m, w' = w.drewN m := by
  have HM := Lib.hid (hm 0)
  clear hm
  go_enter Try.func19, Try.ntmps19
  go_wp2_with fail
  refine HM.out.mono ?_
  rintro e w1 ⟨rfl, m, rfl⟩
  go_wp2_with fail
  go_ret
  exact ⟨rfl, m, rfl⟩

theorem rspend_neg (rb : Nat) (n : Int) (w : World) (hm : RMay rb true w) (hn : n < 0) :
    Calls Try.prog 19 #[.pointer (some ⟨rb, 0, none⟩), .int .i64 n] w fun e w' => e = .returned (.int .i64 2) ∧ ∃ m, w' = w.drewN m := by
  have HM := Lib.hid (hm 0)
  clear hm
  go_enter Try.func19, Try.ntmps19
  go_wp2_with fail
  refine HM.out.mono ?_
  rintro e w1 ⟨rfl, m, rfl⟩
  go_wp2_with fail
  go_ret
  exact ⟨rfl, m, rfl⟩

theorem rspend_margin (rb pb wb : Nat) (M G : Int) (ws : List Sc.Win) (T W J U L : Int) (n : Int) (w : World) (h : RefAt w rb pb wb M G ws T W J U L) (hm : RMay rb true w) (h0 : 0 ≤ n) (hn : G < n) :
    Calls Try.prog 19 #[.pointer (some ⟨rb, 0, none⟩), .int .i64 n] w fun e w' => e = .returned (.int .i64 142) ∧ ∃ m, w' = w.drewN m := by
  obtain ⟨A, cap, hb, _, _⟩ := h.plan
  have c0 := h.blk.c0
  have p1 := hb.c1
  have HM := Lib.hid (hm 0)
  clear hm h hb
  go_enter Try.func19, Try.ntmps19
  go_wp2_with fail
  refine HM.out.mono ?_
  rintro e w1 ⟨rfl, m, rfl⟩
  go_wp2_with fail
  go_ret
  exact ⟨rfl, m, rfl⟩

theorem rspend_ok (rb pb wb : Nat) (M G : Int) (ws : List Sc.Win) (T W J U L : Int) (n : Int) (w : World) (h : RefAt w rb pb wb M G ws T W J U L) (hm : RMay rb true w) (h0 : 0 ≤ n) (hn : n ≤ G)
    (hT0 : 0 ≤ T) (hT : T + n ≤ 281474976710656) (hU0 : 0 ≤ U) (hU : U + n ≤ 281474976710656) :
    Calls Try.prog 19 #[.pointer (some ⟨rb, 0, none⟩), .int .i64 n] w fun e w' => e = .returned (.int .i64 0) ∧ RefAt w' rb pb wb M G ws (T + n) W J (U + n) L ∧ Upd [rb] w w' := by
  obtain ⟨A, cap, hb, _, _⟩ := h.plan
  have HR := Lib.hid h
  have c0 := h.blk.c0
  have c1 := h.blk.c1
  have c4 := h.blk.c4
  have f1 := h.blk.free 1
  have f4 := h.blk.free 4
  have p1 := hb.c1
  have HM := Lib.hid (hm 0)
  clear hm h hb
  go_enter Try.func19, Try.ntmps19
  go_wp2_with fail
  refine HM.out.mono ?_
  rintro e w1 ⟨rfl, m, rfl⟩
  go_wp2_with fail
  go_ret
  refine ⟨rfl, ?_⟩
  have hu : Upd [rb] w (((w.drewN m).setCell ⟨rb, 1, none⟩ (.int .i64 (T + n))).setCell ⟨rb, 4, none⟩ (.int .i64 (U + n))) := (((Upd.refl [rb] w).drewN m).setCell (by simp) _).setCell (by simp) _
  exact ⟨HR.out.set hu (((HR.out.blk.drewN m).set 1 _).set 4 _), hu⟩
end Go.Proofs.Ythfkbenkladonaa
