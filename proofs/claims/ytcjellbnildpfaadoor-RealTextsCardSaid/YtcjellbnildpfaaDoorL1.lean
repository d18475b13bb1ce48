/-
  Plain facts: the numerals that Text writes are read back. Conditions: as each states.
-/
import Derived.Test.YtcjellbnildpfaaDoorA9
namespace Go.Proofs.YtcjellbnildpfaaDoor
open Go.RowKit

theorem dec_step (c : UInt8) : ∀ (l : List UInt8) (acc v : Nat), Lib.parseUint10 acc l = .ok v → 48 ≤ c.toNat → c.toNat ≤ 57 → v * 10 + (c.toNat - 48) < 1844674407370955162 →
    Lib.parseUint10 acc (l ++ [c]) = .ok (v * 10 + (c.toNat - 48)) := by
  intro l
  induction l with
  | nil =>
    intro acc v h h1 h2 h3
    simp only [Lib.parseUint10, Lib.NumEnd.ok.injEq] at h
    subst h
    show Lib.parseUint10 acc [c] = _
    simp only [Lib.parseUint10]
    rw [if_pos ⟨h1, h2⟩, if_neg (by omega), if_neg (by omega)]
  | cons b r ih =>
    intro acc v h h1 h2 h3
    rw [List.cons_append]
    simp only [Lib.parseUint10] at h ⊢
    split at h
    · rename_i hb
      rw [if_pos hb]
      split at h
      · cases h
      · rename_i h4
        rw [if_neg h4]
        split at h
        · cases h
        · rename_i h5
          rw [if_neg h5]
          exact ih _ _ h h1 h2 h3
    · cases h

theorem dec_back (u : Nat) (h : u < 1844674407370955162) : Lib.parseUint10 0 (Lib.decDigits u) = .ok u := by
  induction u using Nat.strongRecOn with
  | _ u ih =>
    by_cases hs : u < 10
    · rw [Lib.decDigits_one hs]
      have := dec_step (UInt8.ofNat (48 + u)) [] 0 0 rfl (by simp; omega) (by simp; omega) (by simp; omega)
      rw [List.nil_append] at this
      rw [this]
      congr 1
      simp; omega
    · rw [Lib.decDigits, dif_neg hs]
      have h1 := ih (u / 10) (by omega) (by omega)
      have := dec_step (UInt8.ofNat (48 + u % 10)) _ 0 _ h1 (by simp; omega) (by simp; omega) (by simp; omega)
      rw [this]
      congr 1
      simp; omega

theorem dec_head (u : Nat) : ∃ c r, Lib.decDigits u = c :: r ∧ 48 ≤ c.toNat ∧ c.toNat ≤ 57 := by
  induction u using Nat.strongRecOn with
  | _ u ih =>
    by_cases hs : u < 10
    · rw [Lib.decDigits_one hs]
      exact ⟨_, _, rfl, by simp; omega, by simp; omega⟩
    · rw [Lib.decDigits, dif_neg hs]
      obtain ⟨c, r, e, h1, h2⟩ := ih (u / 10) (by omega)
      exact ⟨c, r ++ _, by rw [e]; rfl, h1, h2⟩

theorem atoi_itoa (n : Int) (h0 : -10000 < n) (h1 : n < 10000) : Lib.atoiAll (Lib.itoa n) = .ok n := by
  unfold Lib.itoa
  by_cases hn : n < 0
  · rw [if_pos hn]
    have hd := dec_back n.natAbs (by omega)
    obtain ⟨c, r, e, _, _⟩ := dec_head n.natAbs
    unfold Lib.atoiAll
    simp only
    rw [if_pos (by simp), show Lib.parseMag (Lib.decDigits n.natAbs) = .ok n.natAbs from by unfold Lib.parseMag; rw [if_neg (by rw [e]; simp)]; exact hd]
    simp only
    rw [if_neg (by simp), if_neg (by rintro ⟨_, q⟩; omega)]
    simp
    omega
  · rw [if_neg hn]
    have hd := dec_back n.toNat (by omega)
    obtain ⟨c, r, e, h2, h3⟩ := dec_head n.toNat
    rw [e] at hd ⊢
    unfold Lib.atoiAll
    simp only
    rw [if_neg (by omega), show Lib.parseMag (c :: r) = .ok n.toNat from by unfold Lib.parseMag; rw [if_neg (by simp)]; exact hd]
    simp only
    rw [if_neg (by rintro ⟨_, q⟩; omega), if_neg (by rintro ⟨q, _⟩; omega)]
    have : ¬ c.toNat = 45 := by omega
    simp [this]
    omega

theorem hx_dg (d : Nat) (h : d < 16) : hx (dgB d) = some d := by
  have key : ∀ d : Fin 16, hx (dgB d.val) = some d.val := by decide
  exact key ⟨d, h⟩

theorem hex_step (c : UInt8) (d : Nat) (hc : hx c = some d) : ∀ (l : List UInt8) (acc v : Nat), hexV acc l = some v → hexV acc (l ++ [c]) = some (v * 16 + d) := by
  intro l
  induction l with
  | nil => intro acc v h; cases h; show hexV acc [c] = _; unfold hexV; rw [hc]; rfl
  | cons b r ih =>
    intro acc v h
    rw [List.cons_append]
    unfold hexV at h ⊢
    cases hb : hx b with
    | none => rw [hb] at h; cases h
    | some k => rw [hb] at h; simp only at h ⊢; exact ih _ _ h

theorem hex_back (u : Nat) : hexV 0 (hexD u) = some u := by
  induction u using Nat.strongRecOn with
  | _ u ih =>
    by_cases hs : u < 16
    · rw [hexD_small hs]
      unfold hexV
      rw [hx_dg u hs]
      show some (0 * 16 + u) = _
      simp
    · rw [hexD_great hs, hex_step _ _ (hx_dg (u % 16) (by omega)) _ _ _ (ih (u / 16) (by omega))]
      congr 1; omega

theorem hex_zeros (k : Nat) (l : List UInt8) : hexV 0 (Lib.repeatL [48] k ++ l) = hexV 0 l := by
  induction k with
  | zero => rfl
  | succ k ih =>
    show hexV 0 (48 :: (Lib.repeatL [48] k ++ l)) = _
    rw [← ih]
    rfl

theorem rep_is (k : Nat) : Lib.repeatL [48] k = List.replicate k 48 := by
  induction k with
  | zero => rfl
  | succ k ih => show 48 :: Lib.repeatL [48] k = _; rw [ih]; rfl

/-- what is trimmed and filled up again is as it was -/
theorem trim_fill (l : List UInt8) : Lib.trimRightB l 48 ++ List.replicate (l.length - (Lib.trimRightB l 48).length) 48 = l := by
  unfold Lib.trimRightB
  have h : ∀ m : List UInt8, List.replicate (m.length - (m.dropWhile (· == 48)).length) 48 ++ m.dropWhile (· == 48) = m := by
    intro m
    induction m with
    | nil => rfl
    | cons b r ih =>
      rw [List.dropWhile_cons]
      by_cases hb : b = 48
      · subst hb
        rw [if_pos (by decide)]
        have hl := (List.dropWhile_sublist (p := (· == 48)) (l := r)).length_le
        rw [List.length_cons, show r.length + 1 - (r.dropWhile (· == 48)).length = (r.length - (r.dropWhile (· == 48)).length) + 1 by omega, List.replicate_succ, List.cons_append, ih]
      · rw [if_neg (by simpa using hb)]
        simp
  have := congrArg List.reverse (h l.reverse)
  rw [List.reverse_append, List.reverse_replicate, List.reverse_reverse, List.length_reverse] at this
  rw [List.length_reverse]
  exact this

def hexB (c : UInt8) : Prop := (48 ≤ c.toNat ∧ c.toNat ≤ 57) ∨ (97 ≤ c.toNat ∧ c.toNat ≤ 102)
theorem dg_hexB (d : Nat) (h : d < 16) : hexB (dgB d) := by
  have key : ∀ d : Fin 16, (48 ≤ (dgB d.val).toNat ∧ (dgB d.val).toNat ≤ 57) ∨ (97 ≤ (dgB d.val).toNat ∧ (dgB d.val).toNat ≤ 102) := by decide
  exact key ⟨d, h⟩
theorem hexD_hexB (u : Nat) : ∀ c ∈ hexD u, hexB c := by
  induction u using Nat.strongRecOn with
  | _ u ih =>
    by_cases hs : u < 16
    · rw [hexD_small hs]
      intro c hc
      rw [List.mem_singleton.1 hc]
      exact dg_hexB u hs
    · rw [hexD_great hs]
      intro c hc
      rcases List.mem_append.1 hc with hc | hc
      · exact ih _ (by omega) c hc
      · rw [List.mem_singleton.1 hc]
        exact dg_hexB _ (by omega)
theorem trim_mem (l : List UInt8) : ∀ c ∈ Lib.trimRightB l 48, c ∈ l := by
  intro c hc
  unfold Lib.trimRightB at hc
  have := (List.dropWhile_sublist (p := (· == (48 : UInt8))) (l := l.reverse)).mem (List.mem_reverse.1 hc)
  exact List.mem_reverse.1 this

theorem index_app (p q : List UInt8) (c : UInt8) (h : c ∉ p) : Lib.indexByte (p ++ c :: q) c = p.length := by
  induction p with
  | nil => simp [Lib.indexByte]
  | cons b r ih =>
    have hb : ¬ b = c := fun e => h (by rw [e]; exact List.mem_cons_self ..)
    have hr := ih (fun m => h (List.mem_cons_of_mem _ m))
    rw [List.cons_append]
    unfold Lib.indexByte
    rw [if_neg (by simpa using hb), hr, if_neg (by simp), List.length_cons]
    rfl
theorem index_not (p : List UInt8) (c : UInt8) (h : c ∉ p) : Lib.indexByte p c = -1 := by
  induction p with
  | nil => rfl
  | cons b r ih =>
    have hb : ¬ b = c := fun e => h (by rw [e]; exact List.mem_cons_self ..)
    unfold Lib.indexByte
    rw [if_neg (by simpa using hb), ih (fun m => h (List.mem_cons_of_mem _ m))]
    rfl

theorem cutV_at (p q : List UInt8) (c : UInt8) (h : c ∉ p) : cutV ⟨(p ++ c :: q).toArray⟩ c = (⟨p.toArray⟩, ⟨q.toArray⟩, true) := by
  unfold cutV
  rw [show ({ data := (p ++ c :: q).toArray } : ByteArray).data.toList = p ++ c :: q by simp, index_app p q c h, if_neg (by omega), Lib.extract_eq, Lib.extract_eq]
  rw [show ({ data := (p ++ c :: q).toArray } : ByteArray).data.toList = p ++ c :: q by simp]
  have e2 : (p ++ c :: q).drop (p.length + 1) = q := by
    rw [show p ++ c :: q = (p ++ [c]) ++ q by simp, show p.length + 1 = (p ++ [c]).length by simp, List.drop_left]
  simp only [Int.toNat_natCast, List.drop_zero, Nat.sub_zero, List.take_left, e2]
  rw [List.take_of_length_le]
  show q.length ≤ (p ++ c :: q).toArray.size - (p.length + 1)
  simp
  omega
theorem cutV_not (p : List UInt8) (c : UInt8) (h : c ∉ p) : cutV ⟨p.toArray⟩ c = (⟨p.toArray⟩, ⟨#[]⟩, false) := by
  unfold cutV
  rw [show ({ data := p.toArray } : ByteArray).data.toList = p by simp, index_not p c h, if_pos rfl]
end Go.Proofs.YtcjellbnildpfaaDoor
