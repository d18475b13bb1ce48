/-
  number of every string: what it answers. Conditions: the tables and the two errors lie as their texts lay them, the string is no longer than memory.
-/
import Derived.Test.YtcjellbnildpfaaDoorA7
namespace Go.Proofs.YtcjellbnildpfaaDoor
open Go.RowKit

/-- what stands behind 0x, as a float without its sign -/
def numR (s : ByteArray) : Option Nat :=
  match atoiV (cutV s 112).2.1 with
  | none => none
  | some e => if (cutV s 112).2.2 = true ∧ (cutV (cutV s 112).1 46).2.1.size ≤ 13 ∧ -1022 ≤ e ∧ e ≤ 1023 then
      (match hexV 0 (48 :: (cutV (cutV s 112).1 46).2.1.data.toList ++ Lib.repeatL [48] (13 - (cutV (cutV s 112).1 46).2.1.size)) with
        | none => none
        | some v => some (if (cutV (cutV s 112).1 46).1 = ⟨#[48]⟩ then v else (e + 1023).toNat * 4503599627370496 + v))
    else none

theorem hx_lt (c : UInt8) (d : Nat) (h : hx c = some d) : d < 16 := by
  unfold hx hxN at h
  split at h
  · cases h; omega
  · split at h
    · cases h; omega
    · cases h
theorem hexV_lt (l : List UInt8) : ∀ (acc v : Nat), hexV acc l = some v → v < (acc + 1) * 16 ^ l.length := by
  induction l with
  | nil => intro acc v h; cases h; simp
  | cons c r ih =>
    intro acc v h
    unfold hexV at h
    split at h
    · rename_i d hd
      have h1 := ih _ _ h
      have h2 := hx_lt c d hd
      have h3 : (acc * 16 + d + 1) * 16 ^ r.length ≤ ((acc + 1) * 16) * 16 ^ r.length := Nat.mul_le_mul_right _ (by omega)
      rw [List.length_cons, Nat.pow_succ]
      have h4 : (acc + 1) * (16 ^ r.length * 16) = ((acc + 1) * 16) * 16 ^ r.length := by ac_rfl
      omega
    · cases h

theorem hexV_frac (d : ByteArray) (Z : List UInt8) (c : Nat) (hz : Z.length = c) (b1 : d.size ≤ 13) (hc : 13 - d.size = c) {u : Nat} (h : hexV 0 (48 :: d.data.toList ++ Z) = some u) : u < 4503599627370496 := by
  have h1 : hexV 0 (d.data.toList ++ Z) = some u := h
  have h2 := hexV_lt _ _ _ h1
  have h3 : (d.data.toList ++ Z).length = 13 := by
    rw [List.length_append, Array.length_toList, hz]
    show d.size + c = 13
    omega
  rw [h3] at h2
  exact h2

theorem or_parts (v : Int) (u : Nat) (hu : u < 4503599627370496) (b2 : -1022 ≤ v) (b3 : v ≤ 1023) :
    bits .or .u64 ((v + 1023) * 4503599627370496) (u : Int) = (((v + 1023).toNat * 4503599627370496 + u : Nat) : Int) := by
  obtain ⟨k, hk⟩ : ∃ k : Nat, v + 1023 = k := ⟨(v + 1023).toNat, by omega⟩
  have hk2 : k < 2047 := by omega
  rw [hk]
  have h := u64_or_nat (k * 4503599627370496) u (by omega) (by omega)
  have e : ((k * 4503599627370496 : Nat) : Int) = (k : Int) * 4503599627370496 := by omega
  rw [e] at h
  rw [h]
  congr 1
  have h2 := Nat.two_pow_add_eq_or_of_lt (i := 52) (b := u) (by exact hu) k
  rw [show (2 ^ 52 : Nat) = 4503599627370496 from rfl, Nat.mul_comm] at h2
  rw [Int.toNat_natCast]
  exact h2.symm

set_option maxRecDepth 100000 in
set_option maxHeartbeats 4000000 in
theorem number_any (s : ByteArray) (w : World) (hs : s.size ≤ 140737488355328) (h : Errs w) :
    Calls Tryd.prog 21 #[.string s] w fun e w' => e = .returned (.tuple #[.int .u64 ((numR s).getD 0 : Nat), .bool (numR s).isSome]) ∧ Upd [] w w' := by
  have HE := Lib.hid h
  obtain ⟨R, hR⟩ : ∃ R, R = numR s := ⟨_, rfl⟩
  have C1 := Lib.hid (fun w => cut_any s 112 w (by omega))
  have z1 := cutV_size s 112
  rw [← hR]
  unfold numR at hR
  generalize cutV s 112 = c1 at *
  obtain ⟨head, tail, k1⟩ := c1
  simp only at hR C1 z1
  have C2 := Lib.hid (fun w => cut_any head 46 w (by omega))
  have z2 := cutV_size head 46
  generalize cutV head 46 = c2 at *
  obtain ⟨digit, digits, k2⟩ := c2
  simp only at hR C2 z2
  have C3 := Lib.hid (fun w => atoi_any tail w (by omega))
  have HR := Lib.hid hR
  clear hR h
  go_enter Tryd.func21, Tryd.ntmps21
  go_wp2_with fail
  refine (C1.out w).mono ?_
  rintro e w1 ⟨rfl, hu1⟩
  have HU1 := Lib.hid hu1
  clear hu1
  go_wp2_with fail
  refine (C2.out w1).mono ?_
  rintro e w2 ⟨rfl, hu2⟩
  have HU2 := Lib.hid (HU1.out.trans hu2)
  clear hu2 HU1
  go_wp2_with fail
  refine (C3.out w2 (HE.out.upd HU2.out)).mono ?_
  rintro e w3 ⟨⟨v, er, rfl, hv⟩, hu3⟩
  have HU3 := Lib.hid (HU2.out.trans hu3)
  clear HU2 hu3
  rcases hv with ⟨hv, rfl⟩ | ⟨hv, p, rfl⟩
  · have HR2 := HR.out
    rw [hv] at HR2
    simp only at HR2
    have HR3 := Lib.hid HR2
    clear HR2 hv HR
    cases k1
    · have HR4 := HR3.out
      rw [if_neg (by simp)] at HR4
      subst HR4
      clear HR3
      go_wp2_with fail
      go_ret2
      exact ⟨rfl, HU3.out⟩
    · by_cases b1 : digits.size ≤ 13
      · have g1 : decide ((13 : Int) < (digits.size : Int)) = false := decide_eq_false (by omega)
        by_cases b2 : -1022 ≤ v
        · have g2 : decide (v < (-1022 : Int)) = false := decide_eq_false (by omega)
          by_cases b3 : v ≤ 1023
          · have g3 : decide ((1023 : Int) < v) = false := decide_eq_false (by omega)
            have HR4 := HR3.out
            rw [if_pos ⟨rfl, b1, b2, b3⟩] at HR4
            obtain ⟨c, hc⟩ : ∃ c, 13 - digits.size = c := ⟨_, rfl⟩
            have hci : (13 : Int) - (digits.size : Int) = (c : Int) := by omega
            rw [hc] at HR4
            have HR5 := Lib.hid HR4
            have HC := Lib.hid hc
            clear HR4 HR3 hc
            go_wp2_with fail
            refine (Tryd.strings_Repeat ⟨#[48]⟩ c w3 (by omega) (by show 1 * c ≤ _; omega)).mono ?_
            rintro e w4 ⟨rfl, hb⟩
            have HU4 := Lib.hid (HU3.out.trans (Upd.below hb []))
            clear hb HU3
            have hz : (Lib.repeatL [48] c).length = c := by rw [Lib.repeatL_length]; simp
            generalize Lib.repeatL [48] c = Z at *
            go_wp2_with fail
            have ht : (({ data := #[48] } : ByteArray) ++ digits ++ { data := Z.toArray }).data.toList = 48 :: digits.data.toList ++ Z := by simp
            have hts : (({ data := #[48] } : ByteArray) ++ digits ++ { data := Z.toArray }).size = 14 := by
              rw [ByteArray.size_append, ByteArray.size_append]
              show 1 + digits.size + Z.toArray.size = 14
              have := HC.out
              simp; omega
            refine (puint_any _ w4 (by rw [hts]; omega) (by rw [hts]; omega) (HE.out.upd HU4.out)).mono ?_
            rintro e w5 ⟨⟨u, er, rfl, hq⟩, hu5⟩
            have HU5 := Lib.hid (HU4.out.trans hu5)
            clear HU4 hu5
            rw [ht] at hq
            have HR6 := HR5.out
            rcases hq with ⟨hq, rfl⟩ | ⟨hq, p, rfl⟩
            · rw [hq] at HR6
              simp only at HR6
              have hu : u < 4503599627370496 := by
                exact hexV_frac _ _ c hz b1 HC.out hq
              clear hq ht hts HR5
              by_cases hd : digit = ⟨#[48]⟩
              · rw [if_pos hd] at HR6
                subst HR6 hd
                go_wp2_with fail
                go_ret2
                exact ⟨rfl, HU5.out⟩
              · have hor := or_parts v u hu b2 b3
                rw [if_neg hd] at HR6
                generalize (v + 1023).toNat * 4503599627370496 + u = q at *
                subst HR6
                have hdb : (digit.toList == [48]) = false := by
                  rw [beq_eq_false_iff_ne]
                  intro q'
                  apply hd
                  rw [ByteArray.toList_eq] at q'
                  exact ByteArray.ext (Array.ext' q')
                clear hd
                go_wp2_with fail
                go_ret2
                exact ⟨rfl, HU5.out⟩
            · rw [hq] at HR6
              simp only at HR6
              subst HR6
              clear hq ht hts HR5
              go_wp2_with fail
              go_ret2
              exact ⟨rfl, HU5.out⟩
          · have HR4 := HR3.out
            rw [if_neg (by rintro ⟨_, _, _, q⟩; exact b3 q)] at HR4
            subst HR4
            clear HR3
            have g3 : decide ((1023 : Int) < v) = true := decide_eq_true (by omega)
            go_wp2_with fail
            go_ret2
            exact ⟨rfl, HU3.out⟩
        · have HR4 := HR3.out
          rw [if_neg (by rintro ⟨_, _, q, _⟩; exact b2 q)] at HR4
          subst HR4
          clear HR3
          have g2 : decide (v < (-1022 : Int)) = true := decide_eq_true (by omega)
          go_wp2_with fail
          go_ret2
          exact ⟨rfl, HU3.out⟩
      · have HR4 := HR3.out
        rw [if_neg (by rintro ⟨_, q, _⟩; exact b1 q)] at HR4
        subst HR4
        clear HR3
        have g1 : decide ((13 : Int) < (digits.size : Int)) = true := decide_eq_true (by omega)
        go_wp2_with fail
        go_ret2
        exact ⟨rfl, HU3.out⟩
  · have HR2 := HR.out
    rw [hv] at HR2
    simp only at HR2
    subst HR2
    clear HR hv
    cases k1
    all_goals
      go_wp2_with fail
      go_ret2
      exact ⟨rfl, HU3.out⟩
end Go.Proofs.YtcjellbnildpfaaDoor
