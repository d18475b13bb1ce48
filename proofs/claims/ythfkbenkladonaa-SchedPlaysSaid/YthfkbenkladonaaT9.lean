/-
  The frame table's New, where it takes windows: a table of its own. Conditions: the windows lie in memory and keep the rules.
-/
import Derived.Test.YthfkbenkladonaaT8
import Derived.Deep.AppendLies
import Derived.Deep.RegionLaw
import Derived.Deep.RegionHeld3
namespace Go.Proofs.Ythfkbenkladonaa
open Go.RowKit

theorem Try.info45 : (Try.prog.info? 45).map (fun i => (i.zero, i.size, i.bytes)) = some (some (.agg #[.int .i64 0, .int .i64 0, .int .i64 0]), 3, 24) := by kernel_rfl

theorem addr_add (b off j : Nat) : (⟨b, off, none⟩ : Addr).add j = ⟨b, off + j, none⟩ := by
  unfold Addr.add
  split <;> simp_all

theorem Upd.grown {S : List Nat} {a b w' : World} {row : Option Nat} (h : Upd S a b) (hg : b.grownBy w' row) (hr : ∀ k, row = some k → a.heap.size ≤ k) : Upd S a w' :=
  ⟨hg.os.trans h.os, hg.tape.trans h.tape, hg.output.trans h.output, Nat.le_trans h.size hg.size, fun k hk hs => (hg.block k (Nat.lt_of_lt_of_le hk h.size) (fun e => by have := hr k e.symm; omega)).trans (h.block k hk hs)⟩

/-- the cells of an owned row -/
theorem own_cells {w : World} {base g n cap : Nat} {xs : List Value} (h : w.ownsRow base 45 3 (.slice (some ⟨g, 0, none⟩) n cap) n xs) :
    base ≤ g ∧ n ≤ cap ∧ ∀ j u, xs[j]? = some u → w.cell? ⟨g, j, none⟩ = some u := by
  obtain ⟨hl, h⟩ := h
  rcases h with ⟨h, _⟩ | ⟨g', cap', cur, hv, hb, hh, hle, hm, hsz, htk⟩
  · cases h
  · cases hv
    refine ⟨hb, hle, fun j u hj => ?_⟩
    unfold World.cell?
    simp only [hh]
    rw [← htk, List.getElem?_take] at hj
    split at hj
    · simpa using hj
    · cases hj

set_option maxHeartbeats 2000000 in
theorem plannew_ok (f M G s l d : Int) (P : Value) (A : Option Addr) (cap : Nat) (C : Value) (ws : List Sc.Win) (w : World) (h : WinsAt w A ws) (h1 : 1 ≤ M) (h2 : M ≤ 16777216) (h3 : 0 ≤ G) (h4 : G ≤ 16777216) (hn : ws.length ≤ 32)
    (he : winErr M 0 ws = 0) (hn0 : 0 < ws.length) :
    Calls Try.prog 23 #[cfgV f M G s l d P A ws.length cap C] w fun e w' => ∃ pb wb, e = .returned (.tuple #[.pointer (some ⟨pb, 0, none⟩), .int .i64 0]) ∧ PlanAt w' pb wb M G ws ∧ w.heap.size ≤ pb ∧ (0 < ws.length → w.heap.size ≤ wb) ∧ pb ≠ wb ∧ Upd [] w w' := by
  obtain ⟨b, off, rfl, hc⟩ := h hn0
  have HD := Lib.hid (fun j (hj : j < ws.length) e => winErr_drop (M := M) (e := e) hj)
  have HC := Lib.hid (fun j hj => (flat_get ws j hj))
  have HCC := Lib.hid hc
  have HE := Lib.hid he
  have lb := World.block_lt_of_cell? w _ (hc 0 _ (flat_get ws 0 hn0).1)
  simp only at lb
  clear hc h he
  unfold cfgV
  go_enter Try.func23, Try.ntmps23
  go_wp2
  go_loopw [4, 34] (fun e i wr => ∃ (j : Nat) (ev : Int), j ≤ ws.length ∧ e = .int .i64 ev ∧ i = .int .i64 j ∧ Hid (winErr M 0 ws = winErr M ev (ws.drop j)) ∧ (0 ≤ ev ∧ ev ≤ M) ∧ Upd [] w wr ∧ Blk wr w.heap.size #[.int .i64 f, .int .i64 M, .int .i64 G, .int .i64 s, .int .i64 l, .int .i64 d, P, .slice (some ⟨b, off, none⟩) ws.length cap, C] 26)
    (fun _ i _ => ws.length - (intOf i).toNat)
  case atStart => exact ⟨0, 0, by omega, rfl, rfl, Lib.hid rfl, ⟨by omega, by omega⟩, (Upd.refl _ _).alloc _, Blk.new _ _ _⟩
  case round =>
    obtain ⟨j, ev, hj, rfl, rfl, HR, hev, hu, hb⟩ := hrel
    have c1 := hb.c1
    have cl := hb.lt
    have lb' : b < wr.heap.size := Nat.lt_of_lt_of_le lb hu.size
    by_cases hlt : j < ws.length
    · obtain ⟨y0, y1, y2⟩ := HC.out j hlt
      have y0 := (World.cell?_of_block (w := w) (hu.block b lb (by simp))).trans (HCC.out _ _ y0)
      have y1 := (World.cell?_of_block (w := w) (hu.block b lb (by simp))).trans (HCC.out _ _ y1)
      have y2 := (World.cell?_of_block (w := w) (hu.block b lb (by simp))).trans (HCC.out _ _ y2)
      have HDj := Lib.hid (HD.out j hlt ev)
      have HU := Lib.hid hu
      have HB := Lib.hid hb
      clear hu hb
      generalize (ws.getD j default).o = O at *
      generalize (ws.getD j default).s = S at *
      generalize (ws.getD j default).l = L at *
      rw [← Nat.add_assoc] at y1 y2
      by_cases hbad : S < 0 ∨ L < 1 ∨ M < S ∨ M - S < L
      · have hres : winErr M 0 ws = 2 := by rw [HR.out, HDj.out, if_pos hbad]
        rw [HE.out] at hres
        exact absurd hres (by decide)
      · have hg1 : 0 ≤ S := by omega
        have hg2 : 1 ≤ L := by omega
        have hg3 : S ≤ M := by omega
        have hg4 : L ≤ M - S := by omega
        by_cases hov : S < ev
        · have hres : winErr M 0 ws = 140 := by rw [HR.out, HDj.out, if_neg hbad, if_pos hov]
          rw [HE.out] at hres
          exact absurd hres (by decide)
        · have hres : winErr M 0 ws = winErr M (S + L) (ws.drop (j + 1)) := by rw [HR.out, HDj.out, if_neg hbad, if_neg hov]
          have HRS := Lib.hid hres
          clear hres hbad
          go_wp2
          go_roundw
          case rel => exact ⟨j + 1, S + L, by omega, rfl, by go_num, HRS, ⟨by omega, by omega⟩, HU.out.alloc _, HB.out.alloc _⟩
          case measure => simp [intOf]; omega
    · have c2 := hb.c2
      have c7 := hb.c7
      have HU := Lib.hid hu
      have HB := Lib.hid hb
      obtain ⟨i0, hi, hz0, hz1, hz2⟩ := info_parts Try.info45
      clear hu hb HD HC HE HR
      have hnews : ∀ j u, (flat ws)[j]? = some u → wr.cell? ⟨b, off + j, none⟩ = some u := fun j u hu => (World.cell?_of_block (w := w) (HU.out.block b lb (by simp))).trans (HCC.out j u hu)
      have hnews2 : ∀ j u, (flat ws)[j]? = some u → ((wr.alloc (.cells #[] 45)).drew).cell? ((⟨b, off, none⟩ : Addr).add j) = some u := fun j u hu => by
        rw [addr_add]
        exact (World.cell?_alloc_lt _ _ _ lb').trans (hnews j u hu)
      have hown : ((wr.alloc (.cells #[] 45)).drew).ownsRow wr.heap.size 45 3 (.slice (some ⟨wr.heap.size, 0, none⟩) 0 0) 0 [] := World.ownsRow_lit wr #[] 0 (Nat.le_refl _) (by unfold maxLen; omega) rfl
      have HO := Lib.hid hown
      have HN := Lib.hid hnews2
      clear hnews HCC hnews2 hown
      go_wp2_with fail
      go_region_held3 (fun w' => w'.cell? ⟨w.heap.size, 1, none⟩ = some (.int .i64 M) ∧ w'.cell? ⟨w.heap.size, 2, none⟩ = some (.int .i64 G) ∧ w'.cell? ⟨w.heap.size, 7, none⟩ = some (.slice (some ⟨b, off, none⟩) ws.length cap)) (go_keep) ((refine step_append_lies _ rfl (.tmp 79) (.tmp 81) 23 rfl wr.heap.size 45 i0 _ 3 24 Try.underlying23 hi hz0 hz1 hz2 rfl (by decide) (.slice (some ⟨wr.heap.size, 0, none⟩) 0 0) 0 [] (by simp [Act.eval]) HO.out ⟨b, off, none⟩ ws.length cap (flat ws) (by simp [Act.eval]) (flat_length ws) HN.out (flat_one ws) hn0 (by unfold maxLen; omega) (by omega) (by simp) _ rfl ?_; intro g cap' w' hown' hgrow hg hlt; have HOW := Lib.hid hown'; have HG := Lib.hid hgrow; have HL := Lib.hid hlt; have hbx := Lib.hid ((Upd.grown (((Upd.refl [] wr).alloc (.cells #[] 45)).drew) hgrow (fun k hk => by simp [Value.ownBlock] at hk; omega)).blk HB.out (by simp)); have d1 := hbx.out.c1; have d2 := hbx.out.c2; have d7 := hbx.out.c7; have dl := hbx.out.lt; clear hown' hgrow hg hlt hi hz0 hz1 hz2 c1 c2 c7 cl lb' lb))
      go_wp2
      go_ret2
      have ho := HOW.out
      simp only [Nat.zero_add, List.nil_append] at ho
      obtain ⟨hb, hle, hcell⟩ := own_cells ho
      have hu2 := ((HU.out.alloc (.cells #[] 45)).drew).grown HG.out (fun k hk => by simp [Value.ownBlock] at hk; have := HU.out.size; omega)
      have hlt := HL.out
      have hsz := HU.out.size
      refine ⟨w'.heap.size, g, rfl, ⟨⟨_, _, by simpa using Blk.new _ _ _, hle, fun _ => rfl⟩, fun i hi => ?_, hn⟩, hu2.size, fun _ => by omega, by omega, hu2.alloc _⟩
      obtain ⟨z0, z1, z2⟩ := flat_get ws i hi
      exact ⟨(World.cell?_alloc_lt _ _ _ hlt).trans (hcell _ _ z0), (World.cell?_alloc_lt _ _ _ hlt).trans (hcell _ _ z1), (World.cell?_alloc_lt _ _ _ hlt).trans (hcell _ _ z2)⟩
end Go.Proofs.Ythfkbenkladonaa
