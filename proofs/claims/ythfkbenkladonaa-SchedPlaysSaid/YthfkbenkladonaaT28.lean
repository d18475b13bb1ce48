/-
  The reference table's Start and Next: what each answers. Conditions: the table lies in memory, the window's number is one of it.
-/
import Derived.Test.YthfkbenkladonaaT27
namespace Go.Proofs.Ythfkbenkladonaa
open Go.RowKit
attribute [local go_sem] max2_max min2_min max_two min_two

set_option maxHeartbeats 400000 in
theorem rstart_ok (rb pb wb : Nat) (M G : Int) (ws : List Sc.Win) (T W J U L k : Int) (i : Nat) (w : World) (h : RefAt w rb pb wb M G ws T W J U L) (hi : i < ws.length)
    (hk : 0 ≤ k) (hM : 1 ≤ M) (hq : k ≤ 281474976710656 / M) (h0 : 0 ≤ k * M) (hm : k * M ≤ 281474976710656 - (ws.getD i default).s) (hs : 0 ≤ (ws.getD i default).s) (hs2 : (ws.getD i default).s ≤ 16777216) :
    Calls Try.prog 38 #[.pointer (some ⟨pb, 0, none⟩), .int .i64 k, .int .i64 i] w fun e w' => e = .returned (.tuple #[.int .i64 (k * M + (ws.getD i default).s), .int .i64 0]) ∧ ∃ n, w' = w.drewN n := by
  obtain ⟨A, cap, hb, hcap, hA⟩ := h.plan
  obtain rfl := hA (by omega)
  obtain ⟨x0, x1, x2⟩ := h.cells i hi
  have c0 := hb.c0
  have c2 := hb.c2
  clear h hb x0 x2
  generalize (ws.getD i default).s = s at *
  generalize ws.length = n at *
  have hM0 : (M == 0) = false := beq_eq_false_iff_ne.2 (by omega)
  have g0 : decide ((i : Int) < 0) = false := decide_eq_false (by omega)
  have g4 : decide (n ≤ i) = false := decide_eq_false (by omega)
  have g1 : decide (k < 0) = false := decide_eq_false (by omega)
  have g2 : decide (281474976710656 / M < k) = false := decide_eq_false (by omega)
  have g3 : decide (281474976710656 - s < k * M) = false := decide_eq_false (by omega)
  have hd : (281474976710656 : Int).tdiv M = 281474976710656 / M := Int.tdiv_eq_ediv_of_nonneg (by omega)
  have hd1 : 281474976710656 / M ≤ 281474976710656 := Int.ediv_le_self _ (by omega)
  have hd0 : 0 ≤ 281474976710656 / M := Int.ediv_nonneg (by omega) (by omega)
  have e0 : IntKind.i64.wrap (k * M) = k * M := IntWalk.i64_in _ (by omega)
  have e1 : IntKind.i64.wrap (k * M + s) = k * M + s := IntWalk.i64_in _ (by omega)
  have e2 : IntKind.i64.wrap (281474976710656 - s) = 281474976710656 - s := IntWalk.i64_in _ (by omega)
  have e3 : IntKind.i64.wrap (281474976710656 / M) = 281474976710656 / M := IntWalk.i64_in _ (by omega)
  go_enter Try.func38, Try.ntmps38
  go_wp2
  go_quiet (fail)
  go_wp2
  go_quiet (fail)
  go_wp2
  go_ret2
  exact ⟨rfl, _, World.drewN_drewN ..⟩

set_option maxHeartbeats 400000 in
theorem rnext_ok (rb pb wb : Nat) (M G : Int) (ws : List Sc.Win) (T W J U L t : Int) (w : World) (h : RefAt w rb pb wb M G ws T W J U L) (hn : 0 < ws.length) (hn32 : ws.length ≤ 32) (h0 : 0 ≤ t) (h1 : t ≤ 281474976710656) (hM : 1 ≤ M) :
    Calls Try.prog 37 #[.pointer (some ⟨pb, 0, none⟩), .int .i64 t] w fun e w' => e = .returned (.tuple #[.int .i64 (Sc.next M ws t).1, .int .i64 (Sc.next M ws t).2, .int .i64 0]) ∧ ∃ n, w' = w.drewN n := by
  obtain ⟨A, cap, hb, hcap, hA⟩ := h.plan
  obtain rfl := hA (by omega)
  have c0 := hb.c0
  have c2 := hb.c2
  have hfirst : ∀ j, j < ws.length → (∀ j', j' < j → (ws.getD j' default).s < t % M) → t % M ≤ (ws.getD j default).s → Sc.next M ws t = (t / M, j) := by
    intro j hj h2 h3
    unfold Sc.next
    rw [Sc.firstAt_eq hj h2 h3, if_pos hj]
  have hlast : (∀ j', j' < ws.length → (ws.getD j' default).s < t % M) → Sc.next M ws t = (t / M + 1, 0) := by
    intro h2
    unfold Sc.next
    rw [Sc.firstAt_none h2, if_neg (by omega)]
  have HF := Lib.hid hfirst
  have HL := Lib.hid hlast
  have HC := Lib.hid h.cells
  clear hfirst hlast hA hb h
  have hd0 : 0 ≤ t / M := Int.ediv_nonneg h0 (by omega)
  have hd1 : t / M ≤ t := Int.ediv_le_self _ h0
  have hr0 : 0 ≤ t % M := Int.emod_nonneg _ (by omega)
  have hr1 : t % M ≤ t := by have := Int.emod_add_mul_ediv t M; have := Int.mul_nonneg (show 0 ≤ M by omega) hd0; omega
  have htm : t.tmod M = t % M := Int.tmod_eq_emod_of_nonneg h0
  have hM0 : (M == 0) = false := beq_eq_false_iff_ne.2 (by omega)
  generalize hN : ws.length = n at *
  clear hN
  have hn0 : ((n : Int) == 0) = false := by simp; omega
  go_enter Try.func37, Try.ntmps37
  go_wp2
  go_loopw [7] (fun v wr => ∃ j : Nat, j ≤ n ∧ v = .int .i64 j ∧ Hid (∀ j', j' < j → (ws.getD j' default).s < t % M) ∧ ∃ nd, wr = w.drewN nd) (fun v _ => n - (intOf v).toNat)
  case atStart => exact ⟨0, by omega, rfl, Lib.hid (fun j' hj => by omega), 0, rfl⟩
  case round =>
    obtain ⟨j, hj, rfl, HB, nd, rfl⟩ := hrel
    by_cases hlt : j < n
    · obtain ⟨x0, x1, x2⟩ := HC.out j hlt
      have er : IntKind.i64.wrap (t % M) = t % M := IntWalk.i64_in _ (by omega)
      by_cases hs : t % M ≤ (ws.getD j default).s
      · have hf := HF.out j hlt HB.out hs
        have HFF := Lib.hid hf
        clear hf x0 x2
        generalize (ws.getD j default).s = s at *
        have hds : decide (t % M ≤ s) = true := decide_eq_true hs
        go_wp2
        go_quiet (fail)
        go_wp2
        go_ret3
        rw [HFF.out]
        exact ⟨rfl, _, rfl⟩
      · have hB' : ∀ j', j' < j + 1 → (ws.getD j' default).s < t % M := by
          intro j' hj'
          by_cases e : j' = j
          · subst e; omega
          · exact HB.out j' (by omega)
        have HB2 := Lib.hid hB'
        clear hB' x0 x2
        generalize (ws.getD j default).s = s at *
        have hds : decide (t % M ≤ s) = false := decide_eq_false hs
        go_wp2
        go_quiet (fail)
        go_wp2
        go_roundw
        case rel => exact ⟨j + 1, by omega, by go_num, HB2, _, rfl⟩
        case measure => simp [intOf]; omega
    · have hf := HL.out (fun j' hj' => HB.out j' (by omega))
      have HFF := Lib.hid hf
      clear hf
      go_wp2
      go_ret3
      rw [HFF.out]
      exact ⟨rfl, _, rfl⟩
end Go.Proofs.Ythfkbenkladonaa
