/-
  The reference's Parse at a text with hexadecimal letters: no sign, a point. Condition: the string is no longer than memory.
-/
import Derived.Test.YtcjellbnildpfaaDoorW5
namespace Go.Proofs.YtcjellbnildpfaaDoor
open Go.RowKit

set_option maxRecDepth 100000 in
set_option maxHeartbeats 8000000 in
theorem rhex_pd (s : ByteArray) (w : World) (h3 : 3 < s.size) (h40 : s.size < 40) (t1 : (s.toList == [110, 97, 110]) = false) (c0 : UInt8) (hc0 : s[0]'(by omega) = c0) (t2 : ((c0.toNat : Int) == 45) = false)
    (t3 : (s.toList == [48]) = false) (t4 : (s.toList == [105, 110, 102]) = false) (t5 : ((s.extract 0 2).toList == [48, 120]) = true) (c3 : UInt8) (hc3 : s[3]'h3 = c3) (t6 : ((c3.toNat : Int) == 46) = true) :
    Calls Tryd.prog 10 #[.string s] w fun e w' => e = .returned (parseA (chk s 0 (hexR s.data.toList 4))) ∧ Upd [] w w' := by
  have g1 : decide ((0 : Int) < (s.size : Int)) = true := decide_eq_true (by omega)
  have g2 : decide ((3 : Int) < (s.size : Int)) = true := decide_eq_true (by omega)
  have g3 : decide ((s.size : Int) < 40) = true := decide_eq_true (by omega)
  have s1 : (0 : Int) ≤ 2 := by omega
  have s2 : (2 : Int) ≤ (s.size : Int) := by omega
  have s3 : (0 : Int) ≤ 1 := by omega
  have s4 : (1 : Int) ≤ (s.size : Int) := by omega
  have CK := Lib.hid (fun b => chk_some s 0 b)
  obtain ⟨c2, hc2, hl2⟩ := byte_at s 2 (by omega)
  obtain ⟨one, hone⟩ : ∃ one, decide (s.data.toList[2]? = some 49) = one := ⟨_, rfl⟩
  have t7 : ((c2.toNat : Int) == 49) = one := by
    rw [← hone, hl2, Bool.eq_iff_iff]
    simp only [beq_iff_eq, decide_eq_true_eq, Option.some.injEq]
    constructor
    · intro q
      apply UInt8.toNat.inj
      show c2.toNat = 49
      omega
    · rintro rfl; rfl
  unfold hexR
  rw [hone]
  obtain ⟨SC, hSC⟩ : ∃ SC, SC = scanR 0 0 (s.data.toList.drop 4) := ⟨_, rfl⟩
  rw [← hSC]
  obtain ⟨RES, hRES⟩ : ∃ RES, RES = chk s 0 (endR one SC.1 SC.2) := ⟨_, rfl⟩
  rw [← hRES]
  have HRES := Lib.hid hRES
  clear hRES
  have HSC := Lib.hid hSC
  clear hSC hone hl2
  go_enter Tryd.func10, Tryd.ntmps10
  go_wp2_with fail
  go_loop [6, 7, 8] (fun va vf vk => ∃ (p f k : Nat), p ≤ s.size ∧ 3 ≤ p ∧ k ≤ 13 ∧ va = .int .i64 p ∧ vf = .int .u64 f ∧ vk = .int .i64 k ∧ f < 4503599627370496 ∧ Hid (f % 16 ^ (13 - k) = 0) ∧ Hid (SC = scanR k f (s.data.toList.drop p))) (fun va _ _ => s.size - (intOf va).toNat)
  case atStart => exact ⟨4, 0, 0, by omega, by omega, by omega, rfl, rfl, rfl, by omega, Lib.hid rfl, HSC⟩
  case round =>
    obtain ⟨p, f, k, hp, hp3, hk, rfl, rfl, rfl, hf, HF, HS⟩ := hrel
    by_cases hlt : p < s.size
    · have b1 : decide ((p : Int) < (s.size : Int)) = true := decide_eq_true (by omega)
      obtain ⟨c, hc, hlc⟩ := byte_at s p hlt
      have hc256 : c.toNat < 256 := c.toNat_lt
      have HRD := Lib.hid (dig_round (k := k) (f := f) hlc)
      have HDR := Lib.hid (show s.data.toList.drop p = c :: s.data.toList.drop (p + 1) from by
        obtain ⟨hk', e⟩ := List.getElem?_eq_some_iff.1 hlc
        rw [List.drop_eq_getElem_cons hk', e])
      have HDG := Lib.hid (fun w => digit_any c.toNat w hc256)
      by_cases hgo : k < 13 ∧ ∃ d, digV c.toNat = some d
      · obtain ⟨hk13, d, hdv⟩ := hgo
        have b2 : decide ((k : Int) < 13) = true := decide_eq_true (by omega)
        have hd16 := digV_lt hdv
        have hdi : digI c.toNat = (d : Int) := by unfold digI; rw [hdv]
        rw [hdi] at HDG
        have b3 : decide ((0 : Int) ≤ (d : Int)) = true := decide_eq_true (by omega)
        have o1 := shl_digit k d hk13 hd16
        obtain ⟨o2, o3, o4⟩ := or_digit k f d hk13 hf HF.out hd16
        have HST := Lib.hid (show SC = scanR (k + 1) (f + d * 16 ^ (12 - k)) (s.data.toList.drop (p + 1)) from by
          have h1 := HS.out
          have h2 := HRD.out
          rw [if_pos hk13, hdv] at h2
          exact h1.trans h2)
        generalize d * 16 ^ (12 - k) = D at *
        generalize f + D = F at *
        have HO4 := Lib.hid o4
        clear o4 HS HRD HDR hlc hdv hdi
        go_wp2_with (go_at_call 22; refine (HDG.out _).mono ?_; rintro e w2 ⟨rfl, rfl⟩)
        go_round
        case rel => exact ⟨p + 1, F, k + 1, by omega, by omega, by omega, congrArg (Value.int .i64) (by omega), rfl, congrArg (Value.int .i64) (by omega), o3, Lib.hid (by have := HO4.out; rw [show 13 - (k + 1) = 12 - k by omega]; exact this), HST⟩
        case measure => simp [intOf]; omega
      · have HE : SC = (f, c :: s.data.toList.drop (p + 1)) := by
          have h1 := HS.out
          have h2 := HRD.out
          have h3 : (if k < 13 then digV c.toNat else none) = none := by
            by_cases hk13 : k < 13
            · rw [if_pos hk13]
              cases hdv : digV c.toNat with
              | none => rfl
              | some d => exact absurd ⟨hk13, d, hdv⟩ hgo
            · rw [if_neg hk13]
          rw [h3] at h2
          rw [h1, h2, HDR.out]
        have hstop : decide ((k : Int) < 13) = false ∨ (decide ((k : Int) < 13) = true ∧ digI c.toNat = -1) := by
          by_cases hk13 : k < 13
          · right
            refine ⟨decide_eq_true (by omega), ?_⟩
            unfold digI
            cases hdv : digV c.toNat with
            | none => rfl
            | some d => exact absurd ⟨hk13, d, hdv⟩ hgo
          · left; exact decide_eq_false (by omega)
        have hend : endR one SC.1 SC.2 = if c = 112 then (match nvR (s.data.toList.drop (p + 1)) with | some e => if -1022 ≤ e ∧ e ≤ 1023 then some (if one then (e + 1023).toNat * 4503599627370496 + f else f) else none | none => none) else none := by
          rw [HE]
          by_cases hp : c = 112
          · subst hp; rfl
          · rw [if_neg hp]
            unfold endR
            split
            · rename_i q
              cases q
              exact absurd rfl hp
            · rfl
        have HR1 := Lib.hid (HRES.out.trans (congrArg (chk s 0) hend))
        have HNV := Lib.hid (fun w => rnumber_any (s.extract (p + 1) s.size) w (by rw [ByteArray.size_extract]; omega))
        have hex : (s.extract (p + 1) s.size).data.toList = s.data.toList.drop (p + 1) := by
          rw [Lib.extract_eq, List.take_of_length_le (by rw [List.length_drop, Array.length_toList]; exact Nat.le_refl _)]
        rw [hex] at HNV
        generalize nvR (s.data.toList.drop (p + 1)) = O at *
        clear HE HS HRD HDR hlc hgo hend HSC HRES
        have q1 : (0 : Int) ≤ (p : Int) + 1 := by omega
        have q2 : (p : Int) + 1 ≤ (s.size : Int) := by omega
        by_cases hp : c = 112
        · have b4 : ((c.toNat : Int) == 112) = true := by rw [hp]; rfl
          have hr := HR1.out
          rw [if_pos hp] at hr
          cases O with
          | none =>
            have HNV2 := Lib.hid (show ∀ w, Calls Tryd.prog 23 #[.string (s.extract (p + 1) s.size)] w fun e w' => e = .returned (.tuple #[.int .i64 0, .bool false]) ∧ w = w' from HNV.out)
            have HN := Lib.hid (show RES = none from hr)
            clear HNV HR1 hr CK hp
            rcases hstop with st | ⟨st, st2⟩
            all_goals
              (try rw [st2] at HDG)
              go_wp2_with (first | ((with_reducible refine (HDG.out _).mono ?_); rintro e w2 ⟨rfl, rfl⟩) | ((with_reducible refine (HNV2.out _).mono ?_); rintro e w2 ⟨rfl, rfl⟩) | (go_at_call 12; refine (HX.out _).mono ?_; rintro e w3 ⟨rfl, hu⟩; have HU := Lib.hid hu; clear hu))
              go_ret2
              exact ⟨by rw [HN.out]; rfl, Upd.refl _ _⟩
          | some e =>
            have HNV2 := Lib.hid (show ∀ w, Calls Tryd.prog 23 #[.string (s.extract (p + 1) s.size)] w fun r w' => r = .returned (.tuple #[.int .i64 e, .bool true]) ∧ w = w' from HNV.out)
            simp only at hr
            by_cases r1 : -1022 ≤ e
            · have m1 : decide (e < (-1022 : Int)) = false := decide_eq_false (by omega)
              by_cases r2 : e ≤ 1023
              · have m2 : decide ((1023 : Int) < e) = false := decide_eq_false (by omega)
                rw [if_pos ⟨r1, r2⟩] at hr
                cases one
                · simp only [Bool.false_eq_true, if_false] at hr
                  obtain ⟨Y2, hY2⟩ : ∃ Y2, 0 + f = Y2 := ⟨_, rfl⟩
                  have o2 : bits .or .u64 0 (f : Int) = (Y2 : Int) := by
                    have h := or_base false f (by omega)
                    rw [← hY2]
                    exact h
                  have w64 : W64 Y2 := by unfold W64; omega
                  have HX := Lib.hid (fun w => rtext_any Y2 w w64)
                  obtain ⟨k9, ⟨k1, k2, k3, k4⟩, k5⟩ := CK.out f
                  rw [k5] at hr
                  rw [hY2] at k1 k2 k3 k4 hr
                  have HN := Lib.hid hr
                  clear HNV HR1 hr CK hp k5 hY2 w64
                  generalize textV Y2 = TV at *
                  cases k9
                  all_goals
                    simp only [Bool.not_true, Bool.not_false, if_true, if_false, Bool.false_eq_true] at k1 k2 HN
                    rcases hstop with st | ⟨st, st2⟩
                    all_goals
                      (try rw [st2] at HDG)
                      go_wp2_with (first | ((with_reducible refine (HDG.out _).mono ?_); rintro e w2 ⟨rfl, rfl⟩) | ((with_reducible refine (HNV2.out _).mono ?_); rintro e w2 ⟨rfl, rfl⟩) | (go_at_call 12; refine (HX.out _).mono ?_; rintro e w3 ⟨rfl, hu⟩; have HU := Lib.hid hu; clear hu))
                      go_ret2
                      exact ⟨by rw [HN.out]; rfl, HU.out⟩
                · simp only [if_true] at hr
                  obtain ⟨X, hX⟩ : ∃ X, (e + 1023).toNat = X := ⟨_, rfl⟩
                  have he : e + 1023 = (X : Int) := by omega
                  have hX2 : X ≤ 2046 := by omega
                  rw [hX] at hr
                  obtain ⟨Y1, hY1⟩ : ∃ Y1, 0 + X * 4503599627370496 = Y1 := ⟨_, rfl⟩
                  have o1 : bits .or .u64 0 ((e + 1023) * 4503599627370496) = (Y1 : Int) := by
                    have h := or_base false (X * 4503599627370496) (by omega)
                    rw [show (e + 1023) * 4503599627370496 = ((X * 4503599627370496 : Nat) : Int) by omega, ← hY1]
                    exact h
                  obtain ⟨Y2, hY2⟩ : ∃ Y2, 0 + (X * 4503599627370496 + f) = Y2 := ⟨_, rfl⟩
                  have o2 : bits .or .u64 (Y1 : Int) (f : Int) = (Y2 : Int) := by
                    have h := or_low (0 + X) f (by omega) hf
                    rw [show (0 + X) * 4503599627370496 = Y1 by omega, show Y1 + f = Y2 by omega] at h
                    exact h
                  have y2 : Y2 < 18446744073709551616 := by omega
                  clear hX he hY1
                  have w64 : W64 Y2 := by unfold W64; omega
                  have HX := Lib.hid (fun w => rtext_any Y2 w w64)
                  obtain ⟨k9, ⟨k1, k2, k3, k4⟩, k5⟩ := CK.out (X * 4503599627370496 + f)
                  rw [k5] at hr
                  rw [hY2] at k1 k2 k3 k4 hr
                  have HN := Lib.hid hr
                  clear HNV HR1 hr CK hp k5 hY2 w64
                  generalize textV Y2 = TV at *
                  cases k9
                  all_goals
                    simp only [Bool.not_true, Bool.not_false, if_true, if_false, Bool.false_eq_true] at k1 k2 HN
                    rcases hstop with st | ⟨st, st2⟩
                    all_goals
                      (try rw [st2] at HDG)
                      go_wp2_with (first | ((with_reducible refine (HDG.out _).mono ?_); rintro e w2 ⟨rfl, rfl⟩) | ((with_reducible refine (HNV2.out _).mono ?_); rintro e w2 ⟨rfl, rfl⟩) | (go_at_call 12; refine (HX.out _).mono ?_; rintro e w3 ⟨rfl, hu⟩; have HU := Lib.hid hu; clear hu))
                      go_ret2
                      exact ⟨by rw [HN.out]; rfl, HU.out⟩
              · have m2 : decide ((1023 : Int) < e) = true := decide_eq_true (by omega)
                rw [if_neg (by omega)] at hr
                have HN := Lib.hid (show RES = none from hr)
                clear HNV HR1 hr CK hp
                rcases hstop with st | ⟨st, st2⟩
                all_goals
                  (try rw [st2] at HDG)
                  go_wp2_with (first | ((with_reducible refine (HDG.out _).mono ?_); rintro e w2 ⟨rfl, rfl⟩) | ((with_reducible refine (HNV2.out _).mono ?_); rintro e w2 ⟨rfl, rfl⟩) | (go_at_call 12; refine (HX.out _).mono ?_; rintro e w3 ⟨rfl, hu⟩; have HU := Lib.hid hu; clear hu))
                  go_ret2
                  exact ⟨by rw [HN.out]; rfl, Upd.refl _ _⟩
            · have m1 : decide (e < (-1022 : Int)) = true := decide_eq_true (by omega)
              rw [if_neg (by omega)] at hr
              have HN := Lib.hid (show RES = none from hr)
              clear HNV HR1 hr CK hp
              rcases hstop with st | ⟨st, st2⟩
              all_goals
                (try rw [st2] at HDG)
                go_wp2_with (first | ((with_reducible refine (HDG.out _).mono ?_); rintro e w2 ⟨rfl, rfl⟩) | ((with_reducible refine (HNV2.out _).mono ?_); rintro e w2 ⟨rfl, rfl⟩) | (go_at_call 12; refine (HX.out _).mono ?_; rintro e w3 ⟨rfl, hu⟩; have HU := Lib.hid hu; clear hu))
                go_ret2
                exact ⟨by rw [HN.out]; rfl, Upd.refl _ _⟩
        · have b4 : ((c.toNat : Int) == 112) = false := by
            rw [beq_eq_false_iff_ne]
            intro q
            apply hp
            apply UInt8.toNat.inj
            show c.toNat = 112
            omega
          have hr := HR1.out
          rw [if_neg hp] at hr
          have HN := Lib.hid (show RES = none from hr)
          clear HNV HR1 hr CK hp
          rcases hstop with st | ⟨st, st2⟩
          all_goals
            (try rw [st2] at HDG)
            go_wp2_with (first | ((with_reducible refine (HDG.out _).mono ?_); rintro e w2 ⟨rfl, rfl⟩) | ((with_reducible refine (HNV2.out _).mono ?_); rintro e w2 ⟨rfl, rfl⟩) | (go_at_call 12; refine (HX.out _).mono ?_; rintro e w3 ⟨rfl, hu⟩; have HU := Lib.hid hu; clear hu))
            go_ret2
            exact ⟨by rw [HN.out]; rfl, Upd.refl _ _⟩
    · have b1 : decide ((p : Int) < (s.size : Int)) = false := decide_eq_false (by omega)
      have hr := HRES.out
      have hs2 := HS.out
      rw [List.drop_eq_nil_of_le (by rw [Array.length_toList]; show s.size ≤ p; omega)] at hs2
      rw [hs2] at hr
      have HN := Lib.hid (show RES = none from hr)
      clear hr hs2 CK HS HRES HSC
      go_wp2_with fail
      go_ret2
      exact ⟨by rw [HN.out]; rfl, Upd.refl _ _⟩

end Go.Proofs.YtcjellbnildpfaaDoor
