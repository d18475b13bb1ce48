/-
  The reference's Parse of every string. Condition: the string is no longer than memory.
-/
import Derived.Test.YtcjellbnildpfaaDoorW6
import Derived.Test.YtcjellbnildpfaaDoorW7
import Derived.Test.YtcjellbnildpfaaDoorW8
import Derived.Test.YtcjellbnildpfaaDoorL4
namespace Go.Proofs.YtcjellbnildpfaaDoor
open Go.RowKit

set_option maxRecDepth 100000 in
set_option maxHeartbeats 4000000 in
theorem rparse_any (s : ByteArray) (w : World) (hs : s.size ≤ 140737488355328) :
    Calls Tryd.prog 10 #[.string s] w fun e w' => e = .returned (parseA (refV s)) ∧ Upd [] w w' := by
  unfold refV
  by_cases hl : s.data.toList = [110, 97, 110]
  · rw [if_pos hl]
    have t1 : (s.toList == [110, 97, 110]) = true := by rw [ByteArray.toList_eq, hl]; rfl
    clear hl
    go_enter Tryd.func10, Tryd.ntmps10
    go_wp2_with fail
    go_ret2
    exact ⟨rfl, Upd.refl _ _⟩
  · rw [if_neg hl]
    have t1 : (s.toList == [110, 97, 110]) = false := by rw [ByteArray.toList_eq]; simpa using hl
    clear hl
    by_cases h0 : s.size = 0
    · have hnil : s.data.toList = [] := List.eq_nil_of_length_eq_zero (by rw [Array.length_toList]; exact h0)
      rw [hnil]
      show Calls Tryd.prog 10 #[.string s] w fun e w' => e = .returned (parseA none) ∧ Upd [] w w'
      have hse : s = ⟨#[]⟩ := ByteArray.ext (Array.ext' hnil)
      clear hnil h0 t1
      subst hse
      go_enter Tryd.func10, Tryd.ntmps10
      go_wp2_with fail
      go_ret2
      exact ⟨rfl, Upd.refl _ _⟩
    · have h0' : 0 < s.size := by omega
      obtain ⟨c0, hc0, hl0⟩ := byte_at s 0 h0'
      have g1 : decide ((0 : Int) < (s.size : Int)) = true := decide_eq_true (by omega)
      have hhead : s.data.toList.head? = some c0 := by rw [List.head?_eq_getElem?, hl0]
      have s3 : (0 : Int) ≤ 1 := by omega
      have s4 : (1 : Int) ≤ (s.size : Int) := by omega
      by_cases hneg : c0 = 45
      · have t2 : ((c0.toNat : Int) == 45) = true := by rw [hneg]; rfl
        rw [if_pos (by rw [hhead, hneg])]
        obtain ⟨T, hT⟩ : ∃ T, s.extract 1 s.size = T := ⟨_, rfl⟩
        have hTl : s.data.toList.drop 1 = T.data.toList := by
          rw [← hT, Lib.extract_eq, List.take_of_length_le (by rw [List.length_drop, Array.length_toList]; exact Nat.le_refl _)]
        rw [hTl]
        have CK := fun b => chk_some s 9223372036854775808 b
        clear hhead hl0 hneg hTl
        by_cases r1 : T.data.toList = [48]
        · have t3 : (T.toList == [48]) = true := by rw [ByteArray.toList_eq, r1]; rfl
          unfold refB
          rw [if_pos r1]
          clear r1
          have w64 : W64 (9223372036854775808) := by unfold W64; omega
          have HX := Lib.hid (fun w => rtext_any (9223372036854775808) w w64)
          obtain ⟨k9, ⟨k1, k2, k3, k4⟩, k5⟩ := CK (9223372036854775808 - 9223372036854775808)
          rw [show 9223372036854775808 + (9223372036854775808 - 9223372036854775808) = 9223372036854775808 from rfl] at k1 k2 k3 k4 k5
          rw [show chk s 9223372036854775808 (some 0) = _ from k5]
          clear CK k5 w64
          generalize textV (9223372036854775808) = TV at *
          cases k9
          all_goals
            simp only [Bool.not_true, Bool.not_false] at k1 k2
            go_enter Tryd.func10, Tryd.ntmps10
            go_wp2_with (go_at_call 12; refine (HX.out _).mono ?_; rintro e w3 ⟨rfl, hu⟩; have HU := Lib.hid hu; clear hu)
            go_ret2
            exact ⟨rfl, HU.out⟩
        · have t3 : (T.toList == [48]) = false := by rw [ByteArray.toList_eq]; simpa using r1
          by_cases r2 : T.data.toList = [105, 110, 102]
          · have t4 : (T.toList == [105, 110, 102]) = true := by rw [ByteArray.toList_eq, r2]; rfl
            unfold refB
            rw [if_neg r1, if_pos r2]
            clear r1 r2
            have o2 : bits .or .u64 9223372036854775808 9218868437227405312 = 18442240474082181120 := or_base true 9218868437227405312 (by decide)
            have w64 : W64 (18442240474082181120) := by unfold W64; omega
            have HX := Lib.hid (fun w => rtext_any (18442240474082181120) w w64)
            obtain ⟨k9, ⟨k1, k2, k3, k4⟩, k5⟩ := CK (18442240474082181120 - 9223372036854775808)
            rw [show 9223372036854775808 + (18442240474082181120 - 9223372036854775808) = 18442240474082181120 from rfl] at k1 k2 k3 k4 k5
            rw [show chk s 9223372036854775808 (some 9218868437227405312) = _ from k5]
            clear CK k5 w64
            generalize textV (18442240474082181120) = TV at *
            cases k9
            all_goals
              simp only [Bool.not_true, Bool.not_false] at k1 k2
              go_enter Tryd.func10, Tryd.ntmps10
              go_wp2_with (go_at_call 12; refine (HX.out _).mono ?_; rintro e w3 ⟨rfl, hu⟩; have HU := Lib.hid hu; clear hu)
              go_ret2
              exact ⟨rfl, HU.out⟩
          · have t4 : (T.toList == [105, 110, 102]) = false := by rw [ByteArray.toList_eq]; simpa using r2
            have hx : (T.extract 0 2).toList = T.data.toList.take 2 := by
              rw [ByteArray.toList_eq, Lib.extract_eq]
              simp
            by_cases r3 : 3 < T.data.toList.length ∧ T.data.toList.length < 40 ∧ T.data.toList.take 2 = [48, 120]
            · have t5 : ((T.extract 0 2).toList == [48, 120]) = true := by rw [hx, r3.2.2]; rfl
              have h3 : 3 < T.size := by have := r3.1; rw [Array.length_toList] at this; exact this
              have h40 : T.size < 40 := by have := r3.2.1; rw [Array.length_toList] at this; exact this
              obtain ⟨c3, hc3, hl3⟩ := byte_at T 3 h3
              by_cases hd : c3 = 46
              · have t6 : ((c3.toNat : Int) == 46) = true := by rw [hd]; rfl
                have hR : refB T.data.toList = hexR T.data.toList 4 := by
                  unfold refB
                  rw [if_neg r1, if_neg r2, if_pos r3, if_pos (by rw [hl3, hd])]
                rw [hR]
                exact rhex_nd s T w hs h0' hT h3 h40 t1 c0 hc0 t2 t3 t4 t5 c3 hc3 t6
              · have t6 : ((c3.toNat : Int) == 46) = false := by
                  rw [beq_eq_false_iff_ne]
                  intro q
                  apply hd
                  apply UInt8.toNat.inj
                  show c3.toNat = 46
                  omega
                have hR : refB T.data.toList = hexR T.data.toList 3 := by
                  unfold refB
                  rw [if_neg r1, if_neg r2, if_pos r3, if_neg (by rw [hl3]; simpa using hd)]
                rw [hR]
                exact rhex_nw s T w hs h0' hT h3 h40 t1 c0 hc0 t2 t3 t4 t5 c3 hc3 t6
            · have hR : refB T.data.toList = none := by
                unfold refB
                rw [if_neg r1, if_neg r2, if_neg r3]
              rw [hR]
              show Calls Tryd.prog 10 #[.string s] w fun e w' => e = .returned (parseA none) ∧ Upd [] w w'
              rw [Array.length_toList] at r3
              have s1 : (0 : Int) ≤ 2 := by omega
              by_cases a1 : 3 < T.size
              · have g2 : decide ((3 : Int) < (T.size : Int)) = true := decide_eq_true (by omega)
                have s2 : (2 : Int) ≤ (T.size : Int) := by omega
                by_cases a2 : T.size < 40
                · have g3 : decide ((T.size : Int) < 40) = true := decide_eq_true (by omega)
                  have t5 : ((T.extract 0 2).toList == [48, 120]) = false := by
                    rw [hx, beq_eq_false_iff_ne]
                    intro q
                    exact r3 ⟨a1, a2, q⟩
                  clear r1 r2 r3 hR CK hx
                  go_enter Tryd.func10, Tryd.ntmps10
                  go_wp2_with fail
                  go_ret2
                  exact ⟨rfl, Upd.refl _ _⟩
                · have g3 : decide ((T.size : Int) < 40) = false := decide_eq_false (by omega)
                  clear r1 r2 r3 hR CK hx
                  go_enter Tryd.func10, Tryd.ntmps10
                  go_wp2_with fail
                  go_ret2
                  exact ⟨rfl, Upd.refl _ _⟩
              · have g2 : decide ((3 : Int) < (T.size : Int)) = false := decide_eq_false (by omega)
                clear r1 r2 r3 hR CK hx
                go_enter Tryd.func10, Tryd.ntmps10
                go_wp2_with fail
                go_ret2
                exact ⟨rfl, Upd.refl _ _⟩
      · have t2 : ((c0.toNat : Int) == 45) = false := by
          rw [beq_eq_false_iff_ne]
          intro q
          apply hneg
          apply UInt8.toNat.inj
          show c0.toNat = 45
          omega
        rw [if_neg (by rw [hhead]; simpa using hneg)]
        have CK := fun b => chk_some s 0 b
        clear hhead hl0 hneg
        by_cases r1 : s.data.toList = [48]
        · have t3 : (s.toList == [48]) = true := by rw [ByteArray.toList_eq, r1]; rfl
          unfold refB
          rw [if_pos r1]
          clear r1
          have w64 : W64 (0) := by unfold W64; omega
          have HX := Lib.hid (fun w => rtext_any (0) w w64)
          obtain ⟨k9, ⟨k1, k2, k3, k4⟩, k5⟩ := CK (0 - 0)
          rw [show 0 + (0 - 0) = 0 from rfl] at k1 k2 k3 k4 k5
          rw [show chk s 0 (some 0) = _ from k5]
          clear CK k5 w64
          generalize textV (0) = TV at *
          cases k9
          all_goals
            simp only [Bool.not_true, Bool.not_false] at k1 k2
            go_enter Tryd.func10, Tryd.ntmps10
            go_wp2_with (go_at_call 12; refine (HX.out _).mono ?_; rintro e w3 ⟨rfl, hu⟩; have HU := Lib.hid hu; clear hu)
            go_ret2
            exact ⟨rfl, HU.out⟩
        · have t3 : (s.toList == [48]) = false := by rw [ByteArray.toList_eq]; simpa using r1
          by_cases r2 : s.data.toList = [105, 110, 102]
          · have t4 : (s.toList == [105, 110, 102]) = true := by rw [ByteArray.toList_eq, r2]; rfl
            unfold refB
            rw [if_neg r1, if_pos r2]
            clear r1 r2
            have o2 : bits .or .u64 0 9218868437227405312 = 9218868437227405312 := or_base false 9218868437227405312 (by decide)
            have w64 : W64 (9218868437227405312) := by unfold W64; omega
            have HX := Lib.hid (fun w => rtext_any (9218868437227405312) w w64)
            obtain ⟨k9, ⟨k1, k2, k3, k4⟩, k5⟩ := CK (9218868437227405312 - 0)
            rw [show 0 + (9218868437227405312 - 0) = 9218868437227405312 from rfl] at k1 k2 k3 k4 k5
            rw [show chk s 0 (some 9218868437227405312) = _ from k5]
            clear CK k5 w64
            generalize textV (9218868437227405312) = TV at *
            cases k9
            all_goals
              simp only [Bool.not_true, Bool.not_false] at k1 k2
              go_enter Tryd.func10, Tryd.ntmps10
              go_wp2_with (go_at_call 12; refine (HX.out _).mono ?_; rintro e w3 ⟨rfl, hu⟩; have HU := Lib.hid hu; clear hu)
              go_ret2
              exact ⟨rfl, HU.out⟩
          · have t4 : (s.toList == [105, 110, 102]) = false := by rw [ByteArray.toList_eq]; simpa using r2
            have hx : (s.extract 0 2).toList = s.data.toList.take 2 := by
              rw [ByteArray.toList_eq, Lib.extract_eq]
              simp
            by_cases r3 : 3 < s.data.toList.length ∧ s.data.toList.length < 40 ∧ s.data.toList.take 2 = [48, 120]
            · have t5 : ((s.extract 0 2).toList == [48, 120]) = true := by rw [hx, r3.2.2]; rfl
              have h3 : 3 < s.size := by have := r3.1; rw [Array.length_toList] at this; exact this
              have h40 : s.size < 40 := by have := r3.2.1; rw [Array.length_toList] at this; exact this
              obtain ⟨c3, hc3, hl3⟩ := byte_at s 3 h3
              by_cases hd : c3 = 46
              · have t6 : ((c3.toNat : Int) == 46) = true := by rw [hd]; rfl
                have hR : refB s.data.toList = hexR s.data.toList 4 := by
                  unfold refB
                  rw [if_neg r1, if_neg r2, if_pos r3, if_pos (by rw [hl3, hd])]
                rw [hR]
                exact rhex_pd s w h3 h40 t1 c0 hc0 t2 t3 t4 t5 c3 hc3 t6
              · have t6 : ((c3.toNat : Int) == 46) = false := by
                  rw [beq_eq_false_iff_ne]
                  intro q
                  apply hd
                  apply UInt8.toNat.inj
                  show c3.toNat = 46
                  omega
                have hR : refB s.data.toList = hexR s.data.toList 3 := by
                  unfold refB
                  rw [if_neg r1, if_neg r2, if_pos r3, if_neg (by rw [hl3]; simpa using hd)]
                rw [hR]
                exact rhex_pw s w h3 h40 t1 c0 hc0 t2 t3 t4 t5 c3 hc3 t6
            · have hR : refB s.data.toList = none := by
                unfold refB
                rw [if_neg r1, if_neg r2, if_neg r3]
              rw [hR]
              show Calls Tryd.prog 10 #[.string s] w fun e w' => e = .returned (parseA none) ∧ Upd [] w w'
              rw [Array.length_toList] at r3
              have s1 : (0 : Int) ≤ 2 := by omega
              by_cases a1 : 3 < s.size
              · have g2 : decide ((3 : Int) < (s.size : Int)) = true := decide_eq_true (by omega)
                have s2 : (2 : Int) ≤ (s.size : Int) := by omega
                by_cases a2 : s.size < 40
                · have g3 : decide ((s.size : Int) < 40) = true := decide_eq_true (by omega)
                  have t5 : ((s.extract 0 2).toList == [48, 120]) = false := by
                    rw [hx, beq_eq_false_iff_ne]
                    intro q
                    exact r3 ⟨a1, a2, q⟩
                  clear r1 r2 r3 hR CK hx
                  go_enter Tryd.func10, Tryd.ntmps10
                  go_wp2_with fail
                  go_ret2
                  exact ⟨rfl, Upd.refl _ _⟩
                · have g3 : decide ((s.size : Int) < 40) = false := decide_eq_false (by omega)
                  clear r1 r2 r3 hR CK hx
                  go_enter Tryd.func10, Tryd.ntmps10
                  go_wp2_with fail
                  go_ret2
                  exact ⟨rfl, Upd.refl _ _⟩
              · have g2 : decide ((3 : Int) < (s.size : Int)) = false := decide_eq_false (by omega)
                clear r1 r2 r3 hR CK hx
                go_enter Tryd.func10, Tryd.ntmps10
                go_wp2_with fail
                go_ret2
                exact ⟨rfl, Upd.refl _ _⟩
end Go.Proofs.YtcjellbnildpfaaDoor
