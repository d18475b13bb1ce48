/-
  The reference's digit, digits and number: what each answers. Conditions: as each states.
-/
import Derived.Test.YtcjellbnildpfaaDoorL2
namespace Go.Proofs.YtcjellbnildpfaaDoor
open Go.RowKit

/-- a letter as a digit at base 16, small letters alone -/
def digV (c : Nat) : Option Nat := if 48 ≤ c ∧ c ≤ 57 then some (c - 48) else if 97 ≤ c ∧ c ≤ 102 then some (c - 87) else none
def digI (c : Nat) : Int := match digV c with | some d => d | none => -1

set_option maxRecDepth 100000 in
theorem digit_any (c : Nat) (w : World) (h : c < 256) : Calls Tryd.prog 22 #[.int .u8 c] w fun e w' => e = .returned (.int .i64 (digI c)) ∧ w = w' := by
  unfold digI digV
  by_cases h1 : 48 ≤ c
  · have g1 : decide ((48 : Int) ≤ (c : Int)) = true := decide_eq_true (by omega)
    by_cases h2 : c ≤ 57
    · have g2 : decide ((c : Int) ≤ 57) = true := decide_eq_true (by omega)
      rw [if_pos ⟨h1, h2⟩]
      go_enter Tryd.func22, Tryd.ntmps22
      go_wp2_with fail
      go_ret
      exact ⟨congrArg (fun v => Ending.returned (.int .i64 v)) (by omega), rfl⟩
    · have g2 : decide ((c : Int) ≤ 57) = false := decide_eq_false (by omega)
      rw [if_neg (by omega)]
      by_cases h3 : 97 ≤ c
      · have g3 : decide ((97 : Int) ≤ (c : Int)) = true := decide_eq_true (by omega)
        by_cases h4 : c ≤ 102
        · have g4 : decide ((c : Int) ≤ 102) = true := decide_eq_true (by omega)
          rw [if_pos ⟨h3, h4⟩]
          go_enter Tryd.func22, Tryd.ntmps22
          go_wp2_with fail
          go_ret
          exact ⟨congrArg (fun v => Ending.returned (.int .i64 v)) (by omega), rfl⟩
        · have g4 : decide ((c : Int) ≤ 102) = false := decide_eq_false (by omega)
          rw [if_neg (by omega)]
          go_enter Tryd.func22, Tryd.ntmps22
          go_wp2_with fail
          go_ret
          exact ⟨rfl, rfl⟩
      · have g3 : decide ((97 : Int) ≤ (c : Int)) = false := decide_eq_false (by omega)
        rw [if_neg (by omega)]
        go_enter Tryd.func22, Tryd.ntmps22
        go_wp2_with fail
        go_ret
        exact ⟨rfl, rfl⟩
  · have g1 : decide ((48 : Int) ≤ (c : Int)) = false := decide_eq_false (by omega)
    have g3 : decide ((97 : Int) ≤ (c : Int)) = false := decide_eq_false (by omega)
    rw [if_neg (by omega), if_neg (by omega)]
    go_enter Tryd.func22, Tryd.ntmps22
    go_wp2_with fail
    go_ret
    exact ⟨rfl, rfl⟩

theorem byte_str (wr : World) (d : Nat) (hd : d < 10) (z : Int) (hz : z = 48 + d) :
    (convert 69 9 (.slice (some ⟨wr.heap.size, 0, none⟩) 1 1)).run Tryd.prog (wr.alloc (.cells #[.int .u8 z] 5)) = .ok (.string ⟨#[dgB d]⟩) (wr.alloc (.cells #[.int .u8 z] 5)) := by
  have hv : ((dgB d).toNat : Int) = z := by
    rw [hz]
    unfold dgB dg
    rw [if_pos hd]
    simp
    try omega
  exact run_convert_bytes_back (P := Tryd.prog) (wr.alloc (.cells #[.int .u8 z] 5)) 69 9 5 ⟨wr.heap.size, 0, none⟩ 1 [dgB d] Tryd.underlying69 Tryd.underlying5 Tryd.underlying9 (fun j hj => by
    have hj0 : j = 0 := by simpa using hj
    subst hj0
    rw [addr_add]
    show _ = some (Value.int .u8 ((dgB d).toNat : Int))
    rw [hv]
    exact (Blk.new wr #[.int .u8 z] 5).cell 0 _ rfl)

theorem dg_dec (d : Nat) (h : d < 10) : dgB d = UInt8.ofNat (48 + d) := by
  unfold dgB dg; rw [if_pos h]

set_option maxRecDepth 100000 in
set_option maxHeartbeats 2000000 in
theorem digits_pos (M : Nat) (hM : M ≤ 1023) (w : World) :
    Calls Tryd.prog 29 #[.int .i64 M] w fun e w' => e = .returned (.string ⟨(Lib.decDigits M).toArray⟩) ∧ Upd [] w w' := by
  have g0 : decide ((M : Int) < 0) = false := decide_eq_false (by omega)
  go_enter Tryd.func29, Tryd.ntmps29
  go_wp2_with fail
  go_loopw [3, 4] (fun vs vm wr => ∃ (u : Nat) (t : List UInt8), u ≤ 1023 ∧ vs = .string ⟨t.toArray⟩ ∧ vm = .int .i64 u ∧ Upd [] w wr ∧ Hid (u = 0 → t ≠ [] → t = Lib.decDigits M) ∧ Hid (u ≠ 0 ∨ t = [] → Lib.decDigits u ++ t = Lib.decDigits M) ∧ t.length + u ≤ 1024) (fun vs vm _ => 2 * (intOf vm).toNat + (match vs with | .string s => 1 - s.size | _ => 0))
  case atStart => exact ⟨M, [], hM, rfl, by first | rfl | exact congrArg (Value.int .i64) (by omega), Upd.refl _ _, Lib.hid (fun _ h => absurd rfl h), Lib.hid (fun _ => List.append_nil _), by simp; omega⟩
  case round =>
    obtain ⟨u, t, hu, rfl, rfl, hup, H1, H2, hl⟩ := hrel
    by_cases hu0 : u = 0
    · subst hu0
      by_cases ht : t = []
      · subst ht
        have hcv := byte_str wr 0 (by omega) 48 rfl
        go_wp2
        go_roundw
        case rel => exact ⟨0, [dgB 0], by omega, rfl, rfl, hup.alloc _, Lib.hid (fun _ _ => by have := H2.out (.inr rfl); rw [← this, Lib.decDigits_one (by omega)]; decide), Lib.hid (fun h => by simp at h), by simp⟩
        case measure => simp [intOf]; decide
      · have hq := H1.out rfl ht
        have ht1 : (t == []) = false := by simpa using ht
        have ht2 : t.isEmpty = false := by cases t <;> simp at ht ⊢
        have ht3 : (({ data := t.toArray } : ByteArray).toList == []) = false := by rw [ByteArray.toList_eq]; simpa using ht
        have ht4 : (({ data := t.toArray } : ByteArray).toList).isEmpty = false := by rw [ByteArray.toList_eq]; exact ht2
        have HQ0 := Lib.hid hq
        clear ht hq H1 H2
        go_wp2
        go_ret
        refine ⟨congrArg Ending.returned (congrArg Value.string (ByteArray.ext ?_)), hup⟩
        rw [← HQ0.out]
        all_goals simp
    · have c1 : decide ((0 : Int) < (u : Int)) = true := decide_eq_true (by omega)
      obtain ⟨d, hd⟩ : ∃ d, u % 10 = d := ⟨_, rfl⟩
      obtain ⟨q, hq⟩ : ∃ q, u / 10 = q := ⟨_, rfl⟩
      have e1 : (u : Int) % 10 = (d : Int) := by omega
      have e2 : (u : Int) / 10 = (q : Int) := by omega
      have e3 : Int.tmod (u : Int) 10 = (d : Int) := by rw [Int.tmod_eq_emod_of_nonneg (by omega)]; exact e1
      have e4 : Int.tdiv (u : Int) 10 = (q : Int) := by rw [Int.tdiv_eq_ediv_of_nonneg (by omega)]; exact e2
      have hd10 : d < 10 := by omega
      have hcv := byte_str wr d hd10 (48 + d) rfl
      have HD := Lib.hid hd
      have HQ := Lib.hid hq
      have HU0 := Lib.hid hu0
      clear hd hq hu0
      go_wp2
      go_roundw
      case rel => exact ⟨q, dgB d :: t, by have := HQ.out; omega, congrArg Value.string (ByteArray.ext (by simp)), rfl, hup.alloc _, Lib.hid (fun h0 _ => by
          have := H2.out (.inl HU0.out)
          have h9 : u < 10 := by have := HQ.out; omega
          rw [Lib.decDigits_one h9] at this
          rw [← this, dg_dec d hd10, show d = u by have := HD.out; omega]; rfl), Lib.hid (fun h0 => by
          have := H2.out (.inl HU0.out)
          have h9 : ¬ u < 10 := by
            rcases h0 with h0 | h0
            · have := HQ.out; omega
            · cases h0
          rw [Lib.decDigits, dif_neg h9, HQ.out, HD.out] at this
          rw [← this, dg_dec d hd10]; simp), by have := HQ.out; have := HU0.out; simp; omega⟩
      case measure =>
        have := HQ.out
        have := HU0.out
        simp [intOf]
        omega

set_option maxRecDepth 100000 in
set_option maxHeartbeats 2000000 in
theorem digits_neg (M : Nat) (hM : M ≤ 1023) (n : Int) (n0 : -1023 ≤ n) (n1 : n < 0) (hm : -n = (M : Int)) (w : World) :
    Calls Tryd.prog 29 #[.int .i64 n] w fun e w' => e = .returned (.string ⟨(45 :: Lib.decDigits M).toArray⟩) ∧ Upd [] w w' := by
  have g0 : decide (n < 0) = true := decide_eq_true n1
  go_enter Tryd.func29, Tryd.ntmps29
  go_wp2_with fail
  go_loopw [3, 4] (fun vs vm wr => ∃ (u : Nat) (t : List UInt8), u ≤ 1023 ∧ vs = .string ⟨t.toArray⟩ ∧ vm = .int .i64 u ∧ Upd [] w wr ∧ Hid (u = 0 → t ≠ [] → t = Lib.decDigits M) ∧ Hid (u ≠ 0 ∨ t = [] → Lib.decDigits u ++ t = Lib.decDigits M) ∧ t.length + u ≤ 1024) (fun vs vm _ => 2 * (intOf vm).toNat + (match vs with | .string s => 1 - s.size | _ => 0))
  case atStart => exact ⟨M, [], hM, rfl, by first | rfl | exact congrArg (Value.int .i64) (by omega), Upd.refl _ _, Lib.hid (fun _ h => absurd rfl h), Lib.hid (fun _ => List.append_nil _), by simp; omega⟩
  case round =>
    obtain ⟨u, t, hu, rfl, rfl, hup, H1, H2, hl⟩ := hrel
    by_cases hu0 : u = 0
    · subst hu0
      by_cases ht : t = []
      · subst ht
        have hcv := byte_str wr 0 (by omega) 48 rfl
        go_wp2
        go_roundw
        case rel => exact ⟨0, [dgB 0], by omega, rfl, rfl, hup.alloc _, Lib.hid (fun _ _ => by have := H2.out (.inr rfl); rw [← this, Lib.decDigits_one (by omega)]; decide), Lib.hid (fun h => by simp at h), by simp⟩
        case measure => simp [intOf]; decide
      · have hq := H1.out rfl ht
        have ht1 : (t == []) = false := by simpa using ht
        have ht2 : t.isEmpty = false := by cases t <;> simp at ht ⊢
        have ht3 : (({ data := t.toArray } : ByteArray).toList == []) = false := by rw [ByteArray.toList_eq]; simpa using ht
        have ht4 : (({ data := t.toArray } : ByteArray).toList).isEmpty = false := by rw [ByteArray.toList_eq]; exact ht2
        have HQ0 := Lib.hid hq
        clear ht hq H1 H2
        go_wp2
        go_ret
        refine ⟨congrArg Ending.returned (congrArg Value.string (ByteArray.ext ?_)), hup⟩
        rw [← HQ0.out]
        all_goals simp
    · have c1 : decide ((0 : Int) < (u : Int)) = true := decide_eq_true (by omega)
      obtain ⟨d, hd⟩ : ∃ d, u % 10 = d := ⟨_, rfl⟩
      obtain ⟨q, hq⟩ : ∃ q, u / 10 = q := ⟨_, rfl⟩
      have e1 : (u : Int) % 10 = (d : Int) := by omega
      have e2 : (u : Int) / 10 = (q : Int) := by omega
      have e3 : Int.tmod (u : Int) 10 = (d : Int) := by rw [Int.tmod_eq_emod_of_nonneg (by omega)]; exact e1
      have e4 : Int.tdiv (u : Int) 10 = (q : Int) := by rw [Int.tdiv_eq_ediv_of_nonneg (by omega)]; exact e2
      have hd10 : d < 10 := by omega
      have hcv := byte_str wr d hd10 (48 + d) rfl
      have HD := Lib.hid hd
      have HQ := Lib.hid hq
      have HU0 := Lib.hid hu0
      clear hd hq hu0
      go_wp2
      go_roundw
      case rel => exact ⟨q, dgB d :: t, by have := HQ.out; omega, congrArg Value.string (ByteArray.ext (by simp)), rfl, hup.alloc _, Lib.hid (fun h0 _ => by
          have := H2.out (.inl HU0.out)
          have h9 : u < 10 := by have := HQ.out; omega
          rw [Lib.decDigits_one h9] at this
          rw [← this, dg_dec d hd10, show d = u by have := HD.out; omega]; rfl), Lib.hid (fun h0 => by
          have := H2.out (.inl HU0.out)
          have h9 : ¬ u < 10 := by
            rcases h0 with h0 | h0
            · have := HQ.out; omega
            · cases h0
          rw [Lib.decDigits, dif_neg h9, HQ.out, HD.out] at this
          rw [← this, dg_dec d hd10]; simp), by have := HQ.out; have := HU0.out; simp; omega⟩
      case measure =>
        have := HQ.out
        have := HU0.out
        simp [intOf]
        omega

end Go.Proofs.YtcjellbnildpfaaDoor
