/-
  idles: an owner who spends stays in the window. Conditions: the time is in a window; the numbers lie in memory.
-/
import Derived.Test.YthfkbenkladonaaT14
namespace Go.Proofs.Ythfkbenkladonaa
open Go.RowKit
attribute [local go_sem] max2_max min2_min max_two min_two

/-- numbers in memory: a slice that was handed in -/
def IntsAt (w : World) (A : Option Addr) (n : Nat) (zs : List Int) : Prop :=
  0 < n → ∃ b off, A = some ⟨b, off, none⟩ ∧ b < w.heap.size ∧ ∀ j, j < n → w.cell? ⟨b, off + j, none⟩ = some (.int .i64 (zs.getD j 0))

theorem IntsAt.upd {S : List Nat} {w w' : World} {A : Option Addr} {n : Nat} {zs : List Int} (h : IntsAt w A n zs) (up : Upd S w w') (hS : ∀ b off, A = some ⟨b, off, none⟩ → b < w.heap.size → b ∉ S) : IntsAt w' A n zs := by
  intro hn
  obtain ⟨b, off, rfl, hb, hc⟩ := h hn
  exact ⟨b, off, rfl, Nat.lt_of_lt_of_le hb up.size, fun j hj => (World.cell?_of_block (w := w) (up.block b hb (hS b off rfl hb))).trans (hc j hj)⟩

theorem cost_range (X G : Int) (h0 : 0 ≤ G) (h1 : G ≤ 16777216) : 0 ≤ wrap64 ((IntKind.u64.wrap X).tmod (G + 1)) ∧ wrap64 ((IntKind.u64.wrap X).tmod (G + 1)) ≤ G := by
  have hx : 0 ≤ IntKind.u64.wrap X := by
    rw [IntKind.wrap_u64]
    exact Int.emod_nonneg _ (by omega)
  rw [Int.tmod_eq_emod_of_nonneg hx]
  have a := Int.emod_nonneg (IntKind.u64.wrap X) (show G + 1 ≠ 0 by omega)
  have b := Int.emod_lt_of_pos (IntKind.u64.wrap X) (show 0 < G + 1 by omega)
  generalize IntKind.u64.wrap X % (G + 1) = r at *
  unfold wrap64
  omega

set_option maxRecDepth 100000 in
set_option maxHeartbeats 1000000 in
theorem idles_any (x : Ids) (M G : Int) (ws : List Sc.Win) (w : World) (k : Int) (i : Nat) (last used : Int) (hp : Place M G ws k i) (hu : UsedOk ws i used) (h : SchedAt w x M G ws (St.inWin M G ws k i last used))
    (A : Option Addr) (n cap : Nat) (zs : List Int) (kk : Int) (hz : IntsAt w A n zs) (hA : 0 < n → ∀ b off, A = some ⟨b, off, none⟩ → b ∉ x.own) :
    Calls Try.prog 13 #[.pointer (some ⟨x.sb, 0, none⟩), .int .i64 G, .slice A n cap, .int .i64 kk] w fun e w' => e = .returned (.tuple #[]) ∧
      ∃ used', SchedAt w' x M G ws (St.inWin M G ws k i last used') ∧ UsedOk ws i used' ∧ Upd x.own w w' := by
  have HSp := Lib.hid (fun W u m (hu : UsedOk ws i u) (h0 : 0 ≤ m) (h1 : m ≤ G) hs => spend_any x M G ws W k i last u m hp hu h0 h1 hs)
  have hg1 := hp.good.g1
  have hg2 := hp.good.g2
  have HZ := Lib.hid hz
  have HA := Lib.hid hA
  have HS := Lib.hid h
  have HUO := Lib.hid hu
  clear hz hA h hp hu
  go_enter Try.func13, Try.ntmps13
  go_wp2
  go_loopw [8] (fun v wr => ∃ j : Nat, j ≤ 10 ∧ v = .int .i64 j ∧ ∃ used', SchedAt wr x M G ws (St.inWin M G ws k i last used') ∧ UsedOk ws i used' ∧ Upd x.own w wr) (fun v _ => 11 - (intOf v).toNat)
  case atStart => exact ⟨0, by omega, rfl, used, HS.out, HUO.out, Upd.refl _ _⟩
  case round =>
    obtain ⟨j, hj, rfl, u, hs, huo, hup⟩ := hrel
    have HS1 := Lib.hid hs
    have HU1 := Lib.hid huo
    have HP1 := Lib.hid hup
    clear hs huo hup
    by_cases hlt : j < n ∧ j < 10
    · obtain ⟨b, off, hA', hb, hc⟩ := HZ.out (by omega)
      have hcj := (World.cell?_of_block (w := w) (HP1.out.block b hb (HA.out (by omega) b off hA'))).trans (hc j hlt.1)
      have hb1 : b < wr.heap.size := Nat.lt_of_lt_of_le hb HP1.out.size
      subst hA'
      obtain ⟨hl1, hl2⟩ := hlt
      clear hc
      generalize zs.getD j 0 = z at *
      go_wp2_with fail
      have hcr := cost_range (wrap64 (z + kk)) G hg1 hg2
      generalize wrap64 ((IntKind.u64.wrap (wrap64 (z + kk))).tmod (G + 1)) = c at *
      refine (HSp.out wr u c HU1.out hcr.1 hcr.2 HS1.out).mono ?_
      rintro e w2 ⟨rfl, hs2, hu2, hup2⟩
      have HS2 := Lib.hid hs2
      have HU2 := Lib.hid hu2
      have HP2 := Lib.hid (HP1.out.trans hup2)
      clear hs2 hu2 hup2 hcj hb hb1 hcr
      go_wp2_with fail
      go_roundw
      case rel => exact ⟨j + 1, by omega, by go_num, _, HS2.out, HU2.out, HP2.out⟩
      case measure => simp [intOf]; omega
    · have hbad : ¬ (j < n) ∨ ¬ (j < 10) := by omega
      clear hlt
      by_cases hl1 : j < n
      · have hl2 : ¬ j < 10 := by omega
        clear hbad
        go_wp2_with fail
        go_end0
        exact ⟨rfl, u, HS1.out, HU1.out, HP1.out⟩
      · clear hbad
        go_wp2_with fail
        go_end0
        exact ⟨rfl, u, HS1.out, HU1.out, HP1.out⟩
end Go.Proofs.Ythfkbenkladonaa
