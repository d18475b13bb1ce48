/-
  The reference's New: the error that is told, or a time at its begin. Conditions: the windows lie in memory.
-/
import Derived.Test.YthfkbenkladonaaT33
namespace Go.Proofs.Ythfkbenkladonaa
open Go.RowKit

theorem planErr_zero {M G : Int} {ws : List Sc.Win} (he : planErr M G ws = 0) : 1 ≤ M ∧ M ≤ 16777216 ∧ 0 ≤ G ∧ G ≤ 16777216 ∧ ws.length ≤ 32 ∧ winErr M 0 ws = 0 := by
  unfold planErr at he
  by_cases hb : M < 1 ∨ 16777216 < M ∨ G < 0 ∨ 16777216 < G
  · rw [if_pos hb] at he; omega
  · rw [if_neg hb] at he
    by_cases hl : 32 < ws.length
    · rw [if_pos hl] at he; omega
    · rw [if_neg hl] at he; exact ⟨by omega, by omega, by omega, by omega, by omega, he⟩

theorem rplan_err (f M G s l d : Int) (P : Value) (A : Option Addr) (cap : Nat) (C : Value) (ws : List Sc.Win) (w : World) (h : WinsAt w A ws) (he : planErr M G ws ≠ 0) :
    Calls Try.prog 36 #[cfgV f M G s l d P A ws.length cap C] w fun e w' => e = .returned (.tuple #[.pointer none, .int .i64 (planErr M G ws)]) ∧ Upd [] w w' := by
  unfold planErr at he ⊢
  by_cases hb : M < 1 ∨ 16777216 < M ∨ G < 0 ∨ 16777216 < G
  · rw [if_pos hb] at he ⊢
    exact rnew_bad f M G s l d P A _ cap C w hb
  · rw [if_neg hb] at he ⊢
    by_cases hl : 32 < ws.length
    · rw [if_pos hl] at he ⊢
      exact rnew_long f M G s l d P A _ cap C w (by omega) (by omega) (by omega) (by omega) hl
    · rw [if_neg hl] at he ⊢
      exact rnew_err f M G s l d P A cap C ws w h (by omega) (by omega) (by omega) (by omega) (by omega) he

theorem rplan_ok (f M G s l d : Int) (P : Value) (A : Option Addr) (cap : Nat) (C : Value) (ws : List Sc.Win) (w : World) (h : WinsAt w A ws) (he : planErr M G ws = 0) :
    Calls Try.prog 36 #[cfgV f M G s l d P A ws.length cap C] w fun e w' => ∃ pb wb, e = .returned (.tuple #[.pointer (some ⟨pb, 0, none⟩), .int .i64 0]) ∧ RPlan w' pb wb M G ws ∧ w.heap.size ≤ pb ∧ (0 < ws.length → w.heap.size ≤ wb ∧ wb < w'.heap.size) ∧ (ws.length = 0 → wb = w'.heap.size + 1) ∧ Upd [] w w' := by
  obtain ⟨h1, h2, h3, h4, h5, h6⟩ := planErr_zero he
  by_cases hn : 0 < ws.length
  · refine (rnew_ok f M G s l d P A cap C ws w h h1 h2 h3 h4 h5 h6 hn).mono ?_
    rintro e w' ⟨pb, wb, he, hp, hb, hw, hu⟩
    exact ⟨pb, wb, he, hp, hb, hw, fun q => by omega, hu⟩
  · obtain rfl : ws = [] := List.eq_nil_of_length_eq_zero (by omega)
    refine (rnew_none f M G s l d P A cap C w h1 h2 h3 h4).mono ?_
    rintro e w' ⟨pb, he, hp, hb, hu⟩
    exact ⟨pb, _, he, hp (w'.heap.size + 1), hb, fun q => absurd q (by simp), fun _ => rfl, hu⟩

set_option maxHeartbeats 400000 in
theorem rsched_bad (f M G s l d : Int) (P : Value) (A : Option Addr) (cap : Nat) (C : Value) (ws : List Sc.Win) (w : World) (h : WinsAt w A ws) (he : planErr M G ws ≠ 0) :
    Calls Try.prog 17 #[cfgV f M G s l d P A ws.length cap C] w fun e w' => e = .returned (.tuple #[.pointer none, .int .i64 (planErr M G ws)]) ∧ Upd [] w w' := by
  have HPH := Lib.hid (fun W (u : Upd [] w W) => rplan_err f M G s l d P A cap C ws W (h.upd u (fun _ _ _ => by simp)) he)
  have hne : (planErr M G ws != 0) = true := by simpa using he
  clear h he
  generalize planErr M G ws = E at *
  unfold cfgV at HPH ⊢
  go_enter Try.func17, Try.ntmps17
  go_wp2_with fail
  refine (HPH.out _ ((Upd.refl _ _).alloc _)).mono ?_
  rintro e w1 ⟨rfl, hu⟩
  have HU := Lib.hid hu
  clear hu
  go_wp2_with fail
  go_ret2
  exact ⟨rfl, ((Upd.refl [] w).alloc _).trans HU.out⟩

set_option maxHeartbeats 400000 in
theorem rsched_ok (f M G s l d : Int) (P : Value) (A : Option Addr) (cap : Nat) (C : Value) (ws : List Sc.Win) (w : World) (h : WinsAt w A ws) (he : planErr M G ws = 0) :
    Calls Try.prog 17 #[cfgV f M G s l d P A ws.length cap C] w fun e w' => ∃ rb pb wb, e = .returned (.tuple #[.pointer (some ⟨rb, 0, none⟩), .int .i64 0]) ∧ RefSt w' rb pb wb M G ws 0 none ∧ (w.heap.size ≤ rb ∧ rb < w'.heap.size) ∧ w.heap.size ≤ pb ∧ (0 < ws.length → w.heap.size ≤ wb) ∧ Upd [] w w' := by
  have HPH := Lib.hid (fun W (u : Upd [] w W) => rplan_ok f M G s l d P A cap C ws W (h.upd u (fun _ _ _ => by simp)) he)
  clear h he
  unfold cfgV at HPH ⊢
  go_enter Try.func17, Try.ntmps17
  go_wp2_with fail
  refine (HPH.out _ ((Upd.refl _ _).alloc _)).mono ?_
  rintro e w1 ⟨pb, wb, rfl, hp, hb1, hb2, hb3, hu⟩
  have HU := Lib.hid hu
  have HP := Lib.hid hp
  have H1 := Lib.hid hb1
  have H2 := Lib.hid hb2
  have H3 := Lib.hid hb3
  clear hu hp hb1 hb2 hb3
  go_wp2_with fail
  go_ret2
  have hp := HP.out
  have hu := HU.out
  have h1 := H1.out
  have h2 := H2.out
  have h3 := H3.out
  have hs := hu.size
  simp only [World.size_alloc] at h1 h2 hs
  obtain ⟨A', cap', hpb, hcap, hA'⟩ := hp.plan
  have hpl := hpb.lt
  refine ⟨w1.heap.size, pb, wb, rfl, ⟨Blk.new _ _ _, ⟨A', cap', hpb.alloc _, hcap, hA'⟩, fun i hi => ?_, by omega, ?_⟩, ⟨by omega, by simp⟩, by omega, fun q => by have := h2 q; omega, (((Upd.refl [] w).alloc _).trans hu).alloc _⟩
  · obtain ⟨z0, z1, z2⟩ := hp.cells i hi
    have hlt := (h2 (by omega)).2
    exact ⟨(World.cell?_alloc_lt _ _ _ hlt).trans z0, (World.cell?_alloc_lt _ _ _ hlt).trans z1, (World.cell?_alloc_lt _ _ _ hlt).trans z2⟩
  · by_cases hn : ws.length = 0
    · have := h3 hn; omega
    · have := h2 (by omega); omega
end Go.Proofs.Ythfkbenkladonaa
