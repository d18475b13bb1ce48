/-
  Plain facts: the reference's way of reading a text answers as the program's. No condition.
-/
import Derived.Test.YtcjellbnildpfaaDoorW5
namespace Go.Proofs.YtcjellbnildpfaaDoor
open Go.RowKit

/-- a float without its sign, as the reference reads it -/
def refB (t : List UInt8) : Option Nat :=
  if t = [48] then some 0 else if t = [105, 110, 102] then some 9218868437227405312
  else if 3 < t.length ∧ t.length < 40 ∧ t.take 2 = [48, 120] then (if t[3]? = some 46 then hexR t 4 else hexR t 3) else none
/-- what the reference answers -/
def refV (s : ByteArray) : Option Nat :=
  if s.data.toList = [110, 97, 110] then some 9221120237041090560
  else if s.data.toList.head? = some 45 then chk s 9223372036854775808 (refB (s.data.toList.drop 1)) else chk s 0 (refB s.data.toList)

def valT : List UInt8 → Nat
  | [] => 0
  | c :: r => (hx c).getD 0 * 16 ^ r.length + valT r

theorem valT_cons (c : UInt8) (r : List UInt8) : valT (c :: r) = (hx c).getD 0 * 16 ^ r.length + valT r := rfl
set_option maxRecDepth 100000 in
theorem hx_digV {c : UInt8} (h : hexB c) : hx c = digV c.toNat ∧ ∃ d, hx c = some d := by
  have key : ∀ n : Fin 256, (48 ≤ n.val ∧ n.val ≤ 57) ∨ (97 ≤ n.val ∧ n.val ≤ 102) → hxN n.val (n.val ||| 32) = digV n.val ∧ (hxN n.val (n.val ||| 32)).isSome = true := by decide +kernel
  obtain ⟨h1, h2⟩ := key ⟨c.toNat, c.toNat_lt⟩ h
  exact ⟨h1, Option.isSome_iff_exists.1 h2⟩

theorem hexV_val (l : List UInt8) (h : ∀ c ∈ l, hexB c) : ∀ acc, hexV acc l = some (acc * 16 ^ l.length + valT l) := by
  induction l with
  | nil => intro acc; simp [hexV, valT]
  | cons c r ih =>
    intro acc
    obtain ⟨_, d, hd⟩ := hx_digV (h c (List.mem_cons_self ..))
    unfold hexV valT
    rw [hd]
    simp only [Option.getD_some]
    rw [ih (fun c hc => h c (List.mem_cons_of_mem _ hc)), List.length_cons, Nat.pow_succ, Nat.add_mul, Nat.mul_assoc, Nat.mul_comm 16, Nat.add_assoc]

theorem scan_letters (T : List UInt8) (h : ∀ c ∈ T, hexB c) : ∀ (k f : Nat) (q : List UInt8), k + T.length ≤ 13 →
    scanR k f (T ++ 112 :: q) = (f + valT T * 16 ^ (13 - (k + T.length)), 112 :: q) := by
  induction T with
  | nil =>
    intro k f q _
    show scanR k f (112 :: q) = _
    unfold scanR
    have : (if k < 13 then digV (112 : UInt8).toNat else none) = none := by split <;> rfl
    rw [this]
    simp [valT]
  | cons c r ih =>
    intro k f q hk
    rw [List.length_cons] at hk
    obtain ⟨h1, d, hd⟩ := hx_digV (h c (List.mem_cons_self ..))
    rw [List.cons_append]
    unfold scanR
    rw [if_pos (by omega), ← h1, hd]
    simp only
    rw [ih (fun c hc => h c (List.mem_cons_of_mem _ hc)) (k + 1) _ q (by omega)]
    rw [valT_cons, hd]
    simp only [Option.getD_some]
    rw [List.length_cons, Nat.add_mul, Nat.mul_assoc, ← Nat.pow_add, show r.length + (13 - (k + (r.length + 1))) = 12 - k by omega, show k + 1 + r.length = k + (r.length + 1) by omega, Nat.add_assoc]

theorem zeros_val (n : Nat) : ∀ acc, hexV acc (Lib.repeatL [48] n) = some (acc * 16 ^ n) := by
  induction n with
  | zero => intro acc; simp [Lib.repeatL, hexV]
  | succ n ih =>
    intro acc
    show hexV acc (48 :: Lib.repeatL [48] n) = _
    unfold hexV
    rw [show hx 48 = some 0 from rfl]
    simp only
    rw [ih, Nat.pow_succ, Nat.add_zero, Nat.mul_assoc, Nat.mul_comm 16]
theorem hexV_app (l m : List UInt8) (h : ∀ c ∈ l, hexB c) : ∀ acc, hexV acc (l ++ m) = hexV (acc * 16 ^ l.length + valT l) m := by
  induction l with
  | nil => intro acc; simp [valT]
  | cons c r ih =>
    intro acc
    obtain ⟨_, d, hd⟩ := hx_digV (h c (List.mem_cons_self ..))
    rw [List.cons_append]
    unfold valT
    rw [hexV, hd]
    simp only [Option.getD_some]
    rw [ih (fun c hc => h c (List.mem_cons_of_mem _ hc)), List.length_cons, Nat.pow_succ, Nat.add_mul, Nat.mul_assoc, Nat.mul_comm 16, Nat.add_assoc]

theorem decV_snoc (c : UInt8) (h1 : 48 ≤ c.toNat) (h2 : c.toNat ≤ 57) : ∀ (l : List UInt8) (acc v : Nat), decV acc l = some v → decV acc (l ++ [c]) = some (v * 10 + (c.toNat - 48)) := by
  intro l
  induction l with
  | nil => intro acc v h; cases h; show decV acc [c] = _; unfold decV; rw [if_pos ⟨h1, h2⟩]; rfl
  | cons b r ih =>
    intro acc v h
    rw [List.cons_append]
    unfold decV at h ⊢
    split at h
    · rename_i hb
      rw [if_pos hb]
      exact ih _ _ h
    · cases h
theorem decV_back (u : Nat) : decV 0 (Lib.decDigits u) = some u := by
  induction u using Nat.strongRecOn with
  | _ u ih =>
    by_cases hs : u < 10
    · rw [Lib.decDigits_one hs]
      have := decV_snoc (UInt8.ofNat (48 + u)) (by simp; omega) (by simp; omega) [] 0 0 rfl
      rw [List.nil_append] at this
      rw [this]
      congr 1
      simp; omega
    · rw [Lib.decDigits, dif_neg hs, decV_snoc _ (by simp; omega) (by simp; omega) _ _ _ (ih (u / 10) (by omega))]
      congr 1
      simp; omega
theorem nvR_itoa (n : Int) (h0 : -10000 < n) (h1 : n < 10000) : nvR (Lib.itoa n) = some n := by
  have hl := itoa_len n h0 h1
  unfold Lib.itoa at hl ⊢
  by_cases hn : n < 0
  · rw [if_pos hn] at hl ⊢
    obtain ⟨c, r, e, _, _⟩ := dec_head n.natAbs
    unfold nvR
    rw [if_pos (show (45 :: Lib.decDigits n.natAbs).head? = some 45 from rfl), if_neg (by rw [List.length_cons] at hl ⊢; rw [e] at hl ⊢; rw [List.length_cons] at hl ⊢; omega)]
    rw [show List.drop 1 (45 :: Lib.decDigits n.natAbs) = Lib.decDigits n.natAbs from rfl, decV_back]
    simp only [Option.map_some]
    congr 1; omega
  · rw [if_neg hn] at hl ⊢
    obtain ⟨c, r, e, h2, h3⟩ := dec_head n.toNat
    have hb := decV_back n.toNat
    rw [e] at hb hl ⊢
    unfold nvR
    rw [if_neg (by
      intro q
      have : c = 45 := by simpa using q
      subst this
      revert h2; decide), if_neg (by rw [List.length_cons] at hl ⊢; omega), hb]
    simp only [Option.map_some]
    congr 1; omega

/-- what stands in a text is read back -/
theorem hexR_body (E R : Nat) (hE : E ≤ 2046) (hR : R < 4503599627370496) :
    (if (bodyV E R)[3]? = some 46 then hexR (bodyV E R) 4 else hexR (bodyV E R) 3) = some (E * 4503599627370496 + R) ∧ 3 < (bodyV E R).length ∧ (bodyV E R).take 2 = [48, 120] ∧ bodyV E R ≠ [48] ∧ bodyV E R ≠ [105, 110, 102] := by
  obtain ⟨X, hX⟩ : ∃ X : Int, (if E = 0 then 1 else (E : Int)) - 1023 = X := ⟨_, rfl⟩
  have hX1 : -1022 ≤ X := by rw [← hX]; split <;> omega
  have hX2 : X ≤ 1023 := by rw [← hX]; split <;> omega
  have hX3 : X + 1023 = if E = 0 then 1 else (E : Int) := by rw [← hX]; omega
  obtain ⟨ld, hld⟩ : ∃ ld : UInt8, (if E = 0 then [48, 120, 48] else [48, 120, 49] : List UInt8) = [48, 120, ld] ∧ (ld = 49 ↔ E ≠ 0) := by
    by_cases h : E = 0
    · exact ⟨48, by rw [if_pos h], by simp [h]⟩
    · exact ⟨49, by rw [if_neg h], by simp [h]⟩
  obtain ⟨l1, l2⟩ := hld
  have hN := nvR_itoa X (by omega) (by omega)
  have hval : (if decide (ld = 49) then (X + 1023).toNat * 4503599627370496 + R else R) = E * 4503599627370496 + R := by
    by_cases h : E = 0
    · rw [if_neg (by simp [l2, h]), h]; omega
    · rw [if_pos (by simp [l2, h]), hX3, if_neg h]; omega
  have hend : ∀ f, f = R → endR (decide (ld = 49)) f (112 :: Lib.itoa X) = some (E * 4503599627370496 + R) := by
    rintro f rfl
    show (match nvR (Lib.itoa X) with | some e => if -1022 ≤ e ∧ e ≤ 1023 then some (if decide (ld = 49) then (e + 1023).toNat * 4503599627370496 + f else f) else none | none => none) = _
    rw [hN]
    simp only
    rw [if_pos ⟨hX1, hX2⟩, hval]
  by_cases hR0 : R = 0
  · have hb : bodyV E R = 48 :: 120 :: ld :: 112 :: Lib.itoa X := by
      unfold bodyV fracV
      rw [l1, hX, if_pos hR0]; rfl
    rw [hb]
    refine ⟨?_, by simp, rfl, by simp, by simp⟩
    rw [if_neg (by simp)]
    unfold hexR
    have hs := scan_letters [] (by simp) 0 0 (Lib.itoa X) (by simp)
    rw [List.nil_append] at hs
    rw [show List.drop 3 (48 :: 120 :: ld :: 112 :: Lib.itoa X) = 112 :: Lib.itoa X from rfl, hs]
    have := hend 0 hR0.symm
    simpa [valT] using this
  · obtain ⟨T, hT, hTl, hTh, hTv⟩ := frac_parts R hR hR0
    have hb : bodyV E R = 48 :: 120 :: ld :: 46 :: (T ++ 112 :: Lib.itoa X) := by
      unfold bodyV
      rw [l1, hX, hT]; simp
    rw [hb]
    refine ⟨?_, by simp, rfl, by simp, by simp⟩
    rw [if_pos (by simp)]
    unfold hexR
    have hs := scan_letters T hTh 0 0 (Lib.itoa X) (by omega)
    rw [show List.drop 4 (48 :: 120 :: ld :: 46 :: (T ++ 112 :: Lib.itoa X)) = T ++ 112 :: Lib.itoa X from rfl, hs]
    have hRv : 0 + valT T * 16 ^ (13 - (0 + T.length)) = R := by
      have h1 : hexV 0 (48 :: T ++ Lib.repeatL [48] (13 - T.length)) = hexV 0 (T ++ Lib.repeatL [48] (13 - T.length)) := rfl
      rw [h1, hexV_app T _ hTh, zeros_val] at hTv
      have := Option.some.inj hTv
      rw [Nat.zero_mul, Nat.zero_add] at this
      rw [Nat.zero_add, Nat.zero_add]
      exact this
    have := hend _ hRv
    simpa using this
end Go.Proofs.YtcjellbnildpfaaDoor
