/-
  Small lemmas: a block of cells that is known whole; a world in which named blocks alone have turned.
-/
import Derived.Test.YtcjellbnildpfaaDoorRows
import Derived.WalkKit
import Derived.WalkSpells
import Derived.WalkLawsBesides
import Derived.Deep.QuietTactic
import Derived.BigQuiet
import Derived.Deep.RegionWith
import Derived.Lib.Hide
namespace Go.Proofs.YtcjellbnildpfaaDoor
open Go.RowKit

/-- block b holds just these cells -/
def Blk (w : World) (b : Nat) (cs : Array Value) (T : TypeId) : Prop := w.heap[b]? = some (.cells cs T (0, 0))

theorem Blk.cell {w : World} {b : Nat} {cs : Array Value} {T : TypeId} (h : Blk w b cs T) (j : Nat) (v : Value) (hj : cs[j]? = some v) : w.cell? ⟨b, j, none⟩ = some v := by
  unfold Blk at h
  unfold World.cell?
  rw [h]
  simpa using hj

theorem Blk.c0 {w : World} {b : Nat} {T : TypeId} {v0 : Value} {r : List Value} (h : Blk w b (List.toArray (v0 :: r)) T) : w.cell? ⟨b, 0, none⟩ = some v0 := h.cell 0 _ (by simp)
theorem Blk.c1 {w : World} {b : Nat} {T : TypeId} {v0 v1 : Value} {r : List Value} (h : Blk w b (List.toArray (v0 :: v1 :: r)) T) : w.cell? ⟨b, 1, none⟩ = some v1 := h.cell 1 _ (by simp)
theorem Blk.c2 {w : World} {b : Nat} {T : TypeId} {v0 v1 v2 : Value} {r : List Value} (h : Blk w b (List.toArray (v0 :: v1 :: v2 :: r)) T) : w.cell? ⟨b, 2, none⟩ = some v2 := h.cell 2 _ (by simp)
theorem Blk.c3 {w : World} {b : Nat} {T : TypeId} {v0 v1 v2 v3 : Value} {r : List Value} (h : Blk w b (List.toArray (v0 :: v1 :: v2 :: v3 :: r)) T) : w.cell? ⟨b, 3, none⟩ = some v3 := h.cell 3 _ (by simp)
theorem Blk.c4 {w : World} {b : Nat} {T : TypeId} {v0 v1 v2 v3 v4 : Value} {r : List Value} (h : Blk w b (List.toArray (v0 :: v1 :: v2 :: v3 :: v4 :: r)) T) : w.cell? ⟨b, 4, none⟩ = some v4 := h.cell 4 _ (by simp)
theorem Blk.c5 {w : World} {b : Nat} {T : TypeId} {v0 v1 v2 v3 v4 v5 : Value} {r : List Value} (h : Blk w b (List.toArray (v0 :: v1 :: v2 :: v3 :: v4 :: v5 :: r)) T) : w.cell? ⟨b, 5, none⟩ = some v5 := h.cell 5 _ (by simp)
theorem Blk.c6 {w : World} {b : Nat} {T : TypeId} {v0 v1 v2 v3 v4 v5 v6 : Value} {r : List Value} (h : Blk w b (List.toArray (v0 :: v1 :: v2 :: v3 :: v4 :: v5 :: v6 :: r)) T) : w.cell? ⟨b, 6, none⟩ = some v6 := h.cell 6 _ (by simp)
theorem Blk.c7 {w : World} {b : Nat} {T : TypeId} {v0 v1 v2 v3 v4 v5 v6 v7 : Value} {r : List Value} (h : Blk w b (List.toArray (v0 :: v1 :: v2 :: v3 :: v4 :: v5 :: v6 :: v7 :: r)) T) : w.cell? ⟨b, 7, none⟩ = some v7 := h.cell 7 _ (by simp)
theorem Blk.c8 {w : World} {b : Nat} {T : TypeId} {v0 v1 v2 v3 v4 v5 v6 v7 v8 : Value} {r : List Value} (h : Blk w b (List.toArray (v0 :: v1 :: v2 :: v3 :: v4 :: v5 :: v6 :: v7 :: v8 :: r)) T) : w.cell? ⟨b, 8, none⟩ = some v8 := h.cell 8 _ (by simp)

theorem Blk.free {w : World} {b : Nat} {cs : Array Value} {T : TypeId} (h : Blk w b cs T) (j : Nat) : w.frozen? ⟨b, j, none⟩ = false := by
  unfold Blk at h
  unfold World.frozen?
  rw [h]
  simp

theorem Blk.lt {w : World} {b : Nat} {cs : Array Value} {T : TypeId} (h : Blk w b cs T) : b < w.heap.size := (Array.getElem?_eq_some_iff.1 h).1

theorem Blk.drew {w : World} {b : Nat} {cs : Array Value} {T : TypeId} (h : Blk w b cs T) : Blk w.drew b cs T := h
theorem Blk.drewN {w : World} {b : Nat} {cs : Array Value} {T : TypeId} (h : Blk w b cs T) (n : Nat) : Blk (w.drewN n) b cs T := h
theorem Blk.alloc {w : World} {b : Nat} {cs : Array Value} {T : TypeId} (h : Blk w b cs T) (o : Obj) : Blk (w.alloc o) b cs T :=
  (Below.heap_alloc w o b h.lt).trans h
theorem Blk.new (w : World) (cs : Array Value) (T : TypeId) : Blk (w.alloc (.cells cs T)) w.heap.size cs T := by
  show (w.heap.push _)[w.heap.size]? = _
  simp
theorem Blk.set {w : World} {b : Nat} {cs : Array Value} {T : TypeId} (h : Blk w b cs T) (j : Nat) (v : Value) : Blk (w.setCell ⟨b, j, none⟩ v) b (cs.setIfInBounds j v) T := by
  unfold Blk at h ⊢
  simp only [World.setCell, Array.getElem?_modify, if_pos, h]
  rfl
theorem Blk.other {w : World} {b : Nat} {cs : Array Value} {T : TypeId} (h : Blk w b cs T) {a : Addr} (hne : b ≠ a.block) (v : Value) : Blk (w.setCell a v) b cs T :=
  (Below.heap_setCell w a v b hne).trans h

/-- but for the blocks of S (and new ones) the world w' is as w was -/
structure Upd (S : List Nat) (w w' : World) : Prop where
  os : w'.os = w.os
  tape : w'.tape = w.tape
  output : w'.output = w.output
  size : w.heap.size ≤ w'.heap.size
  block : ∀ k, k < w.heap.size → k ∉ S → w'.heap[k]? = w.heap[k]?

theorem Upd.refl (S : List Nat) (w : World) : Upd S w w := ⟨rfl, rfl, rfl, Nat.le_refl _, fun _ _ _ => rfl⟩
theorem Upd.trans {S : List Nat} {a b c : World} (h : Upd S a b) (k : Upd S b c) : Upd S a c :=
  ⟨k.os.trans h.os, k.tape.trans h.tape, k.output.trans h.output, Nat.le_trans h.size k.size, fun i hi hs => (k.block i (Nat.lt_of_lt_of_le hi h.size) hs).trans (h.block i hi hs)⟩
theorem Upd.mono {S S' : List Nat} {a b : World} (h : Upd S a b) (hs : ∀ k, k ∈ S → k ∈ S') : Upd S' a b :=
  ⟨h.os, h.tape, h.output, h.size, fun i hi hn => h.block i hi (fun hm => hn (hs i hm))⟩
theorem Upd.drew {S : List Nat} {a b : World} (h : Upd S a b) : Upd S a b.drew := ⟨h.os, h.tape, h.output, h.size, h.block⟩
theorem Upd.drewN {S : List Nat} {a b : World} (h : Upd S a b) (n : Nat) : Upd S a (b.drewN n) := ⟨h.os, h.tape, h.output, h.size, h.block⟩
theorem Upd.alloc {S : List Nat} {a b : World} (h : Upd S a b) (o : Obj) : Upd S a (b.alloc o) :=
  h.trans ⟨rfl, rfl, rfl, by simp, fun k hk _ => Below.heap_alloc _ _ _ hk⟩
theorem Upd.setCell {S : List Nat} {a b : World} (h : Upd S a b) {p : Addr} (hp : p.block ∈ S) (u : Value) : Upd S a (b.setCell p u) :=
  h.trans ⟨rfl, rfl, rfl, by simp [World.setCell], fun k _ hs => Below.heap_setCell _ _ _ _ (fun e => hs (e ▸ hp))⟩
theorem Upd.below {w w' : World} (h : Below w.heap.size w w') (S : List Nat) : Upd S w w' := ⟨h.os, h.tape, h.output, h.size, fun k hk _ => h.block k hk⟩
theorem Upd.to_below {w w' : World} (h : Upd [] w w') : Below w.heap.size w w' := ⟨h.os, h.tape, h.output, h.size, fun k hk => h.block k hk (by simp)⟩
theorem Upd.blk {S : List Nat} {w w' : World} (h : Upd S w w') {b : Nat} {cs : Array Value} {T : TypeId} (hb : Blk w b cs T) (hn : b ∉ S) : Blk w' b cs T :=
  (h.block b hb.lt hn).trans hb

/-- 'max' and 'min' of two whole numbers -/
theorem max2_max (k k' : IntKind) (x y : Int) : Builtin.max2 (.int k x) (.int k' y) = pure (.int k (max x y)) := by
  have : max x y = if x < y then y else x := by split <;> omega
  rw [this]
  simp only [Builtin.max2, gt_iff_lt]
theorem min2_min (k k' : IntKind) (x y : Int) : Builtin.min2 (.int k x) (.int k' y) = pure (.int k (min x y)) := by
  have : min x y = if y < x then y else x := by split <;> omega
  rw [this]
  simp only [Builtin.min2]
theorem max_two (ats : Array TypeId) (ty : TypeId) (a b : Value) : Builtin.max_ ats ty #[a, b] = (Builtin.max2 a b >>= fun s => pure s) := by simp only [Builtin.max_, List.foldlM_cons, List.foldlM_nil]
theorem min_two (ats : Array TypeId) (ty : TypeId) (a b : Value) : Builtin.min_ ats ty #[a, b] = (Builtin.min2 a b >>= fun s => pure s) := by simp only [Builtin.min_, List.foldlM_cons, List.foldlM_nil]
end Go.Proofs.YtcjellbnildpfaaDoor
