/-
  Plain facts on the frame table: which window is the next one. Conditions: a good table.
-/
namespace Go.Proofs.Ythfkbenkladonaa.Sc
structure Win where
  o : Int
  s : Int
  l : Int
instance : Inhabited Win := ⟨⟨0, 0, 0⟩⟩

/-- the windows are in order, within the major frame, and none overlaps another one -/
structure Good (M G : Int) (ws : List Win) : Prop where
  m1 : 1 ≤ M
  m2 : M ≤ 16777216
  g1 : 0 ≤ G
  g2 : G ≤ 16777216
  n : ws.length ≤ 32
  w : ∀ i, i < ws.length → 0 ≤ (ws.getD i default).s ∧ 1 ≤ (ws.getD i default).l ∧ (ws.getD i default).s + (ws.getD i default).l ≤ M
  ord : ∀ i, i + 1 < ws.length → (ws.getD i default).s + (ws.getD i default).l ≤ (ws.getD (i + 1) default).s

theorem Good.le {M G : Int} {ws : List Win} (h : Good M G ws) {i j : Nat} (hij : i < j) (hj : j < ws.length) :
    (ws.getD i default).s + (ws.getD i default).l ≤ (ws.getD j default).s := by
  induction j with
  | zero => omega
  | succ j ih =>
    have h1 := h.ord j hj
    by_cases e : i = j
    · subst e; exact h1
    · have := ih (by omega) (by omega)
      have := (h.w j (by omega)).2.1
      omega

/-- 'the first window from place k on that begins at x or behind it' -/
def firstFrom (ws : List Win) (x : Int) : (todo k : Nat) → Nat
  | 0, k => k
  | d + 1, k => if x ≤ (ws.getD k default).s then k else firstFrom ws x d (k + 1)

def firstAt (ws : List Win) (x : Int) : Nat := firstFrom ws x ws.length 0

theorem firstFrom_spec (ws : List Win) (x : Int) (d : Nat) : ∀ k, k ≤ firstFrom ws x d k ∧ firstFrom ws x d k ≤ k + d ∧
    (∀ j, k ≤ j → j < firstFrom ws x d k → (ws.getD j default).s < x) ∧ (firstFrom ws x d k < k + d → x ≤ (ws.getD (firstFrom ws x d k) default).s) := by
  induction d with
  | zero => intro k; simp only [firstFrom]; exact ⟨by omega, by omega, fun j _ _ => by omega, fun h => by omega⟩
  | succ d ih =>
    intro k
    simp only [firstFrom]
    by_cases h : x ≤ (ws.getD k default).s
    · rw [if_pos h]; exact ⟨by omega, by omega, fun j _ _ => by omega, fun _ => h⟩
    · rw [if_neg h]
      obtain ⟨a, b, c, e⟩ := ih (k + 1)
      refine ⟨by omega, by omega, fun j h1 h2 => ?_, fun h1 => e (by omega)⟩
      by_cases e2 : j = k
      · subst e2; omega
      · exact c j (by omega) h2

theorem firstAt_eq {ws : List Win} {x : Int} {i : Nat} (hi : i < ws.length) (h1 : ∀ j, j < i → (ws.getD j default).s < x) (h2 : x ≤ (ws.getD i default).s) : firstAt ws x = i := by
  obtain ⟨_, b, c, e⟩ := firstFrom_spec ws x ws.length 0
  unfold firstAt
  by_cases hl : firstFrom ws x ws.length 0 < i
  · have := h1 _ hl; have := e (by omega); omega
  · by_cases hg : i < firstFrom ws x ws.length 0
    · have := c i (by omega) hg; omega
    · omega

theorem firstAt_none {ws : List Win} {x : Int} (h1 : ∀ j, j < ws.length → (ws.getD j default).s < x) : firstAt ws x = ws.length := by
  obtain ⟨_, b, c, e⟩ := firstFrom_spec ws x ws.length 0
  unfold firstAt
  by_cases hl : firstFrom ws x ws.length 0 < ws.length
  · have := h1 _ hl; have := e (by omega); omega
  · omega

/-- the next window from a cycle on: its major frame, its place -/
def next (M : Int) (ws : List Win) (t : Int) : Int × Nat := if firstAt ws (t % M) < ws.length then (t / M, firstAt ws (t % M)) else (t / M + 1, 0)

theorem next_zero {M G : Int} {ws : List Win} (h : Good M G ws) (hn : ws ≠ []) : next M ws 0 = (0, 0) := by
  have hl : 0 < ws.length := by cases ws; exact absurd rfl hn; simp
  have : firstAt ws (0 % M) = 0 := by
    rw [Int.zero_emod]
    exact firstAt_eq hl (fun j hj => by omega) (h.w 0 hl).1
  unfold next
  rw [this, if_pos hl, Int.zero_ediv]

theorem ediv_of {k M r : Int} (h : 0 ≤ r) (h2 : r < M) : (k * M + r) / M = k ∧ (k * M + r) % M = r := by
  have hM : M ≠ 0 := by omega
  constructor
  · rw [Int.add_comm, Int.add_mul_ediv_right _ _ hM, Int.ediv_eq_zero_of_lt h h2, Int.zero_add]
  · rw [Int.add_comm, Int.add_mul_emod_self_right, Int.emod_eq_of_lt h h2]

theorem next_after {M G : Int} {ws : List Win} (h : Good M G ws) (k : Int) {i : Nat} (hi : i < ws.length) :
    next M ws (k * M + ((ws.getD i default).s + (ws.getD i default).l)) = if i + 1 < ws.length then (k, i + 1) else (k + 1, 0) := by
  obtain ⟨w1, w2, w3⟩ := h.w i hi
  by_cases hM : (ws.getD i default).s + (ws.getD i default).l < M
  · obtain ⟨e1, e2⟩ := @ediv_of k M ((ws.getD i default).s + (ws.getD i default).l) (by omega) hM
    unfold next
    rw [e1, e2]
    have hb : ∀ j, j < i + 1 → (ws.getD j default).s < (ws.getD i default).s + (ws.getD i default).l := by
      intro j hj
      by_cases e : j = i
      · subst e; omega
      · have := h.le (show j < i by omega) hi; have := (h.w j (by omega)).2.1; omega
    by_cases hn : i + 1 < ws.length
    · rw [firstAt_eq hn hb (h.ord i hn), if_pos hn]
    · rw [firstAt_none (fun j hj => hb j (by omega)), if_neg (by omega), if_neg hn]
  · have hlast : ¬ i + 1 < ws.length := by
      intro hn; have := h.ord i hn; have := (h.w _ hn).2; omega
    have e : (ws.getD i default).s + (ws.getD i default).l = M := by omega
    rw [e, if_neg hlast]
    have e1 : k * M + M = (k + 1) * M + 0 := by rw [Int.add_mul, Int.one_mul, Int.add_zero]
    rw [e1]
    obtain ⟨e2, e3⟩ := @ediv_of (k + 1) M 0 (by omega) (by have := h.m1; omega)
    unfold next
    rw [e2, e3]
    have hl : 0 < ws.length := by omega
    rw [firstAt_eq hl (fun j hj => by omega) (h.w 0 hl).1, if_pos hl]

end Go.Proofs.Ythfkbenkladonaa.Sc
