/-
  The frame table's New, where it refuses: the error that is told. Conditions: the windows lie in memory.
-/
import Derived.Test.YthfkbenkladonaaT4
namespace Go.Proofs.Ythfkbenkladonaa
open Go.RowKit

set_option maxHeartbeats 400000 in
theorem picnew_any (w : World) :
    Calls Try.prog 24 #[.int .i64 1] w fun e w' => ∃ b, e = .returned (.tuple #[.pointer (some ⟨b, 0, none⟩), .int .i64 0]) ∧ w.heap.size ≤ b ∧ Blk w' b #[.int .i64 1, .int .u32 0, .int .u32 0] 93 ∧ Upd [] w w' := by
  go_enter Try.func24, Try.ntmps24
  go_wp2
  go_ret2
  exact ⟨_, rfl, Nat.le_refl _, Blk.new _ _ _, (Upd.refl _ _).alloc _⟩

set_option maxHeartbeats 400000 in
theorem clocknew_any (w : World) :
    Calls Try.prog 25 #[] w fun e w' => ∃ b, e = .returned (.pointer (some ⟨b, 0, none⟩)) ∧ w.heap.size ≤ b ∧ Blk w' b #[.int .i64 0, .bool false, .int .i64 0] 78 ∧ Upd [] w w' := by
  go_enter Try.func25, Try.ntmps25
  go_wp2
  go_ret
  exact ⟨_, rfl, Nat.le_refl _, Blk.new _ _ _, (Upd.refl _ _).alloc _⟩

/-- the error of windows -/
def winErr (M : Int) : Int → List Sc.Win → Int
  | _, [] => 0
  | e, x :: r => if x.s < 0 ∨ x.l < 1 ∨ M < x.s ∨ M - x.s < x.l then 2 else if x.s < e then 140 else winErr M (x.s + x.l) r

/-- the error of a frame table -/
def planErr (M G : Int) (ws : List Sc.Win) : Int :=
  if M < 1 ∨ 16777216 < M ∨ G < 0 ∨ 16777216 < G then 2 else if 32 < ws.length then 9 else winErr M 0 ws

/-- windows as cells -/
def flat : List Sc.Win → List Value
  | [] => []
  | x :: r => .int .i64 x.o :: .int .i64 x.s :: .int .i64 x.l :: flat r

theorem flat_length (ws : List Sc.Win) : (flat ws).length = ws.length * 3 := by
  induction ws with
  | nil => rfl
  | cons x r ih => simp only [flat, List.length_cons, ih]; omega

theorem flat_get (ws : List Sc.Win) : ∀ i, i < ws.length → (flat ws)[i * 3]? = some (.int .i64 (ws.getD i default).o) ∧ (flat ws)[i * 3 + 1]? = some (.int .i64 (ws.getD i default).s) ∧ (flat ws)[i * 3 + 2]? = some (.int .i64 (ws.getD i default).l) := by
  induction ws with
  | nil => intro i hi; simp at hi
  | cons x r ih =>
    intro i hi
    cases i with
    | zero => simp [flat]
    | succ i =>
      obtain ⟨h0, h1, h2⟩ := ih i (by simpa using hi)
      have e : (i + 1) * 3 = i * 3 + 3 := by omega
      rw [e]
      exact ⟨by simpa [flat] using h0, by simpa [flat] using h1, by simpa [flat] using h2⟩

theorem flat_one (ws : List Sc.Win) : ∀ u ∈ flat ws, u.oneCell' = true := by
  induction ws with
  | nil => intro u hu; simp [flat] at hu
  | cons x r ih =>
    intro u hu
    simp only [flat, List.mem_cons] at hu
    rcases hu with rfl | rfl | rfl | hu
    · rfl
    · rfl
    · rfl
    · exact ih u hu

/-- windows in memory: a slice that was handed in -/
def WinsAt (w : World) (A : Option Addr) (ws : List Sc.Win) : Prop :=
  0 < ws.length → ∃ b off, A = some ⟨b, off, none⟩ ∧ ∀ j u, (flat ws)[j]? = some u → w.cell? ⟨b, off + j, none⟩ = some u

theorem WinsAt.upd {S : List Nat} {w w' : World} {A : Option Addr} {ws : List Sc.Win} (h : WinsAt w A ws) (up : Upd S w w') (hS : ∀ b off, A = some ⟨b, off, none⟩ → b ∉ S) : WinsAt w' A ws := by
  intro hn
  obtain ⟨b, off, rfl, hc⟩ := h hn
  refine ⟨b, off, rfl, fun j u hu => ?_⟩
  have := hc j u hu
  have hlt := World.block_lt_of_cell? w _ this
  exact (World.cell?_of_block (w := w) (up.block b hlt (hS b off rfl))).trans this

/-- a configuration as a value: its numbers, its windows -/
def cfgV (f M G s l d : Int) (P : Value) (A : Option Addr) (n cap : Nat) (C : Value) : Value :=
  .agg #[.int .i64 f, .int .i64 M, .int .i64 G, .int .i64 s, .int .i64 l, .int .i64 d, P, .slice A n cap, C]

set_option maxHeartbeats 400000 in
theorem plannew_bad (f M G s l d : Int) (P : Value) (A : Option Addr) (n cap : Nat) (C : Value) (w : World) (hb : M < 1 ∨ 16777216 < M ∨ G < 0 ∨ 16777216 < G) :
    Calls Try.prog 23 #[cfgV f M G s l d P A n cap C] w fun e w' => e = .returned (.tuple #[.pointer none, .int .i64 2]) ∧ Upd [] w w' := by
  unfold cfgV
  rcases hb with h | h | h | h
  all_goals
    go_enter Try.func23, Try.ntmps23
    go_wp2
    all_goals first
      | (go_ret2; exact ⟨rfl, (Upd.refl _ _).alloc _⟩)
      | (exfalso; omega)

set_option maxHeartbeats 400000 in
theorem plannew_long (f M G s l d : Int) (P : Value) (A : Option Addr) (n cap : Nat) (C : Value) (w : World) (h1 : 1 ≤ M) (h2 : M ≤ 16777216) (h3 : 0 ≤ G) (h4 : G ≤ 16777216) (hn : 32 < n) :
    Calls Try.prog 23 #[cfgV f M G s l d P A n cap C] w fun e w' => e = .returned (.tuple #[.pointer none, .int .i64 9]) ∧ Upd [] w w' := by
  unfold cfgV
  go_enter Try.func23, Try.ntmps23
  go_wp2
  go_ret2
  exact ⟨rfl, (Upd.refl _ _).alloc _⟩

theorem winErr_drop {M e : Int} {ws : List Sc.Win} {j : Nat} (hj : j < ws.length) :
    winErr M e (ws.drop j) = if (ws.getD j default).s < 0 ∨ (ws.getD j default).l < 1 ∨ M < (ws.getD j default).s ∨ M - (ws.getD j default).s < (ws.getD j default).l then 2 else if (ws.getD j default).s < e then 140 else winErr M ((ws.getD j default).s + (ws.getD j default).l) (ws.drop (j + 1)) := by
  rw [List.drop_eq_getElem_cons hj]
  have : ws.getD j default = ws[j] := by simp [List.getD, hj]
  rw [this, winErr]

set_option maxHeartbeats 1000000 in
theorem plannew_err (f M G s l d : Int) (P : Value) (A : Option Addr) (cap : Nat) (C : Value) (ws : List Sc.Win) (w : World) (h : WinsAt w A ws) (h1 : 1 ≤ M) (h2 : M ≤ 16777216) (h3 : 0 ≤ G) (h4 : G ≤ 16777216) (hn : ws.length ≤ 32)
    (he : winErr M 0 ws ≠ 0) :
    Calls Try.prog 23 #[cfgV f M G s l d P A ws.length cap C] w fun e w' => e = .returned (.tuple #[.pointer none, .int .i64 (winErr M 0 ws)]) ∧ Upd [] w w' := by
  have hn0 : 0 < ws.length := by
    cases ws with
    | nil => simp [winErr] at he
    | cons => simp
  obtain ⟨b, off, rfl, hc⟩ := h hn0
  have HD := Lib.hid (fun j (hj : j < ws.length) e => winErr_drop (M := M) (e := e) hj)
  have HC := Lib.hid (fun j hj => (flat_get ws j hj))
  have HCC := Lib.hid hc
  have HE := Lib.hid he
  have lb := World.block_lt_of_cell? w _ (hc 0 _ (flat_get ws 0 hn0).1)
  simp only at lb
  clear hc h he
  unfold cfgV
  go_enter Try.func23, Try.ntmps23
  go_wp2
  go_loopw [4, 34] (fun e i wr => ∃ (j : Nat) (ev : Int), j ≤ ws.length ∧ e = .int .i64 ev ∧ i = .int .i64 j ∧ Hid (winErr M 0 ws = winErr M ev (ws.drop j)) ∧ (0 ≤ ev ∧ ev ≤ M) ∧ Upd [] w wr ∧ Blk wr w.heap.size #[.int .i64 f, .int .i64 M, .int .i64 G, .int .i64 s, .int .i64 l, .int .i64 d, P, .slice (some ⟨b, off, none⟩) ws.length cap, C] 26)
    (fun _ i _ => ws.length - (intOf i).toNat)
  case atStart => exact ⟨0, 0, by omega, rfl, rfl, Lib.hid rfl, ⟨by omega, by omega⟩, (Upd.refl _ _).alloc _, Blk.new _ _ _⟩
  case round =>
    obtain ⟨j, ev, hj, rfl, rfl, HR, hev, hu, hb⟩ := hrel
    have c1 := hb.c1
    have cl := hb.lt
    have lb' : b < wr.heap.size := Nat.lt_of_lt_of_le lb hu.size
    by_cases hlt : j < ws.length
    · obtain ⟨y0, y1, y2⟩ := HC.out j hlt
      have y0 := (World.cell?_of_block (w := w) (hu.block b lb (by simp))).trans (HCC.out _ _ y0)
      have y1 := (World.cell?_of_block (w := w) (hu.block b lb (by simp))).trans (HCC.out _ _ y1)
      have y2 := (World.cell?_of_block (w := w) (hu.block b lb (by simp))).trans (HCC.out _ _ y2)
      have HDj := Lib.hid (HD.out j hlt ev)
      have HU := Lib.hid hu
      have HB := Lib.hid hb
      clear hu hb
      generalize (ws.getD j default).o = O at *
      generalize (ws.getD j default).s = S at *
      generalize (ws.getD j default).l = L at *
      rw [← Nat.add_assoc] at y1 y2
      by_cases hbad : S < 0 ∨ L < 1 ∨ M < S ∨ M - S < L
      · have hres : winErr M 0 ws = 2 := by rw [HR.out, HDj.out, if_pos hbad]
        have HRS := Lib.hid hres
        clear hres
        rcases hbad with hx | hx | hx | hx
        all_goals
          go_wp2
          all_goals first
            | (go_ret2; exact ⟨by rw [HRS.out]; rfl, HU.out.alloc _⟩)
            | (exfalso; omega)
      · have hg1 : 0 ≤ S := by omega
        have hg2 : 1 ≤ L := by omega
        have hg3 : S ≤ M := by omega
        have hg4 : L ≤ M - S := by omega
        by_cases hov : S < ev
        · have hres : winErr M 0 ws = 140 := by rw [HR.out, HDj.out, if_neg hbad, if_pos hov]
          have HRS := Lib.hid hres
          clear hres hbad
          go_wp2
          go_ret2
          exact ⟨by rw [HRS.out]; rfl, HU.out.alloc _⟩
        · have hres : winErr M 0 ws = winErr M (S + L) (ws.drop (j + 1)) := by rw [HR.out, HDj.out, if_neg hbad, if_neg hov]
          have HRS := Lib.hid hres
          clear hres hbad
          go_wp2
          go_roundw
          case rel => exact ⟨j + 1, S + L, by omega, rfl, by go_num, HRS, ⟨by omega, by omega⟩, HU.out.alloc _, HB.out.alloc _⟩
          case measure => simp [intOf]; omega
    · have hje : ws.drop j = [] := List.drop_eq_nil_of_le (by omega)
      exact absurd (by rw [HR.out, hje]; rfl) HE.out
end Go.Proofs.Ythfkbenkladonaa
