/-
  Text of the program: what it answers. Conditions: the tables lie as their texts lay them.
-/
import Derived.Test.YtcjellbnildpfaaDoorA2
import Derived.Test.YtcjellbnildpfaaDoorR6
import Derived.Test.YtcjellbnildpfaaDoorShelf
import Derived.Lib.SmallJoins
import Derived.Lib.AppendIntMem
namespace Go.Proofs.YtcjellbnildpfaaDoor
open Go.RowKit

/-- the tables that are read -/
structure Tabs (w : World) : Prop where
  bits : Tab w
  pow : Lib.TabIs Tryd.prog w "internal/strconv.uint64pow10" .u64 Lib.pow10Tab
  six : 8 < w.heap.size

theorem Tabs.upd {w w' : World} (h : Tabs w) (u : Upd [] w w') : Tabs w' :=
  ⟨h.bits.below (by have := h.six; omega) u.to_below, Joins.tab_stays (show Tryd.prog.globalNamed "internal/strconv.uint64pow10" = some 1 by kernel_rfl) h.pow u.to_below (Nat.le_refl _), Nat.lt_of_lt_of_le h.six u.size⟩

/-- the exponent's part and the fraction's -/
def fracV (R : Nat) : List UInt8 := if R = 0 then [] else 46 :: Lib.trimRightB (Lib.repeatL [48] (13 - (hexD R).length) ++ hexD R) 48
def bodyV (E R : Nat) : List UInt8 := (if E = 0 then [48, 120, 48] else [48, 120, 49]) ++ fracV R ++ [112] ++ Lib.itoa ((if E = 0 then 1 else (E : Int)) - 1023)
def sgnV (a : Nat) : List UInt8 := if FP.neg a then [45] else []
def textV (a : Nat) : List UInt8 :=
  if FP.isNaN a then [110, 97, 110] else sgnV a ++ (if FP.rung a = 9218868437227405312 then [105, 110, 102] else if FP.rung a = 0 then [48] else bodyV (FP.rung a / 4503599627370496) (FP.rung a % 4503599627370496))

theorem hexD_len (R : Nat) (k : Nat) (hk : 0 < k) (h : R < 16 ^ k) : (hexD R).length ≤ k := by
  induction k generalizing R with
  | zero => omega
  | succ k ih =>
    by_cases hs : R < 16
    · rw [hexD_small hs]; simp
    · rw [hexD_great hs]
      have hk0 : 0 < k := by
        apply Nat.pos_of_ne_zero; rintro rfl; simp at h; omega
      have := ih (R / 16) hk0 (by rw [Nat.pow_succ] at h; omega)
      simp; omega

theorem grow_upd {a w : World} (h : Upd [] a w) (k : Nat) (os : Array Obj) : Upd [] a (Sort.grow (w.drewN k) os) := h.trans (Upd.below (Go.Lib.below_grow w.heap.size w (Nat.le_refl _) k os) [])

theorem nDig_le (u : Nat) : ∀ k, 0 < k → u < 10 ^ k → Lib.nDigits u ≤ k := by
  intro k
  induction k generalizing u with
  | zero => omega
  | succ k ih =>
    intro _ h
    rw [Lib.nDigits]
    split
    · omega
    · have hk0 : 0 < k := by
        apply Nat.pos_of_ne_zero; rintro rfl; simp at h; omega
      have := ih (u / 10) hk0 (by rw [Nat.pow_succ] at h; omega)
      omega
theorem itoa_len (n : Int) (h0 : -10000 < n) (h1 : n < 10000) : (Lib.itoa n).length ≤ 5 := by
  unfold Lib.itoa
  split
  · rw [List.length_cons, Lib.decDigits_length]
    have := nDig_le n.natAbs 4 (by omega) (by omega)
    omega
  · rw [Lib.decDigits_length]
    have := nDig_le n.toNat 4 (by omega) (by omega)
    omega
theorem trim_len (l : List UInt8) (c : UInt8) : (Lib.trimRightB l c).length ≤ l.length := by
  unfold Lib.trimRightB
  rw [List.length_reverse]
  have := (List.dropWhile_sublist (p := (· == c)) (l := l.reverse)).length_le
  simpa using this

set_option maxRecDepth 100000 in
set_option maxHeartbeats 2000000 in
theorem text_one (a E R : Nat) (s : Bool) (w : World) (ht : Tabs w) (hn : ∀ w, Calls Tryd.prog 24 #[.int .u64 a] w fun e w' => e = .returned (.bool false) ∧ w = w')
    (hE : bits .and .u64 ((a : Int) / 4503599627370496) 2047 = (E : Int)) (hR : bits .and .u64 (a : Int) 4503599627370495 = (R : Int)) (hS : bits .and .u64 (a : Int) 9223372036854775808 = if s then 9223372036854775808 else 0)
    (hE1 : 1 ≤ E) (hE2 : E ≤ 2046) (hR1 : 1 ≤ R) (hR2 : R < 4503599627370496) :
    Calls Tryd.prog 11 #[.int .u64 a] w fun e w' => e = .returned (.string ⟨((if s then [45] else []) ++ bodyV E R).toArray⟩) ∧ Upd [] w w' := by
  have HN := Lib.hid hn
  have HF := Lib.hid (fmtHex R w ht.bits (by have := ht.six; omega) (by omega))
  have hl := hexD_len R 13 (by omega) (by omega)
  have HT := Lib.hid ht
  clear hn ht
  have e1 : ((E : Int) == 2047) = false := by simp; omega
  have e2 : ((E : Int) == 0) = false := by simp; omega
  have e3 : ((R : Int) != 0) = true := by simp; omega
  have HB := Lib.hid (show bodyV E R = [48, 120, 49] ++ fracV R ++ [112] ++ Lib.itoa ((E : Int) - 1023) from by unfold bodyV; rw [if_neg (by omega), if_neg (by omega)])
  have HFR := Lib.hid (show fracV R = 46 :: Lib.trimRightB (Lib.repeatL [48] (13 - (hexD R).length) ++ hexD R) 48 from by unfold fracV; rw [if_neg (by omega)])
  generalize hexD R = H at *
  obtain ⟨c, hc⟩ : ∃ c : Nat, 13 - H.length = c := ⟨_, rfl⟩
  have hci : (13 : Int) - (H.length : Int) = (c : Int) := by omega
  rw [hc] at HFR
  have HC := Lib.hid hc
  clear hc
  cases s
  all_goals
    go_enter Tryd.func11, Tryd.ntmps11
    go_wp2_with (first | (go_at_call 24; refine (HN.out _).mono ?_; rintro e w' ⟨rfl, rfl⟩) | (go_at_call 25; refine HF.out.mono ?_; rintro e w1 ⟨rfl, hu1⟩; have HU1 := Lib.hid hu1; clear hu1))
    refine (Tryd.strings_Repeat ⟨#[48]⟩ c w1 (by omega) (by show 1 * c ≤ _; omega)).mono ?_
    rintro e w2 ⟨rfl, hb2⟩
    have HU2 := Lib.hid (HU1.out.trans (Upd.below hb2 []))
    clear hb2
    have hz : (Lib.repeatL [48] c).length ≤ 13 := by rw [Lib.repeatL_length]; simp; omega
    generalize Lib.repeatL [48] c = Z at *
    go_wp2_with fail
    refine (Tryd.strings_TrimRight_one _ 48 (by decide) w2 ?_).mono ?_
    · rw [ByteArray.size_append]
      show Z.toArray.size + H.toArray.size ≤ _
      simp; omega
    rintro e w3 ⟨rfl, rfl⟩
    have htl : (Lib.trimRightB (({ data := Z.toArray } : ByteArray) ++ { data := H.toArray }).data.toList 48) = Lib.trimRightB (Z ++ H) 48 := by simp
    have htr := trim_len (Z ++ H) 48
    rw [List.length_append] at htr
    rw [htl]
    generalize Lib.trimRightB (Z ++ H) 48 = T at *
    go_wp2_with fail
    refine (Tryd.strconv_Itoa ((E : Int) - 1023) (by omega) (by omega) w3 (HT.out.upd HU2.out).pow).mono ?_
    rintro e w4 ⟨rfl, k, os, rfl⟩
    have hil := itoa_len ((E : Int) - 1023) (by omega) (by omega)
    generalize Lib.itoa ((E : Int) - 1023) = I at *
    have HU4 := Lib.hid (grow_upd HU2.out k os)
    go_wp2_with fail
    go_ret
    refine ⟨?_, HU4.out⟩
    rw [HB.out, HFR.out]
    refine congrArg Ending.returned (congrArg Value.string (ByteArray.ext ?_))
    simp
set_option maxRecDepth 100000 in
set_option maxHeartbeats 2000000 in
theorem text_sub (a R : Nat) (s : Bool) (w : World) (ht : Tabs w) (hn : ∀ w, Calls Tryd.prog 24 #[.int .u64 a] w fun e w' => e = .returned (.bool false) ∧ w = w')
    (hE : bits .and .u64 ((a : Int) / 4503599627370496) 2047 = 0) (hR : bits .and .u64 (a : Int) 4503599627370495 = (R : Int)) (hS : bits .and .u64 (a : Int) 9223372036854775808 = if s then 9223372036854775808 else 0)
    (hR1 : 1 ≤ R) (hR2 : R < 4503599627370496) :
    Calls Tryd.prog 11 #[.int .u64 a] w fun e w' => e = .returned (.string ⟨((if s then [45] else []) ++ bodyV 0 R).toArray⟩) ∧ Upd [] w w' := by
  have HN := Lib.hid hn
  have HF := Lib.hid (fmtHex R w ht.bits (by have := ht.six; omega) (by omega))
  have hl := hexD_len R 13 (by omega) (by omega)
  have HT := Lib.hid ht
  clear hn ht
  have e3 : ((R : Int) != 0) = true := by simp; omega
  have HB := Lib.hid (show bodyV 0 R = [48, 120, 48] ++ fracV R ++ [112] ++ Lib.itoa (-1022) from rfl)
  have HFR := Lib.hid (show fracV R = 46 :: Lib.trimRightB (Lib.repeatL [48] (13 - (hexD R).length) ++ hexD R) 48 from by unfold fracV; rw [if_neg (by omega)])
  generalize hexD R = H at *
  obtain ⟨c, hc⟩ : ∃ c : Nat, 13 - H.length = c := ⟨_, rfl⟩
  have hci : (13 : Int) - (H.length : Int) = (c : Int) := by omega
  rw [hc] at HFR
  have HC := Lib.hid hc
  clear hc
  cases s
  all_goals
    go_enter Tryd.func11, Tryd.ntmps11
    go_wp2_with (first | (go_at_call 24; refine (HN.out _).mono ?_; rintro e w' ⟨rfl, rfl⟩) | (go_at_call 25; refine HF.out.mono ?_; rintro e w1 ⟨rfl, hu1⟩; have HU1 := Lib.hid hu1; clear hu1))
    refine (Tryd.strings_Repeat ⟨#[48]⟩ c w1 (by omega) (by show 1 * c ≤ _; omega)).mono ?_
    rintro e w2 ⟨rfl, hb2⟩
    have HU2 := Lib.hid (HU1.out.trans (Upd.below hb2 []))
    clear hb2
    have hz : (Lib.repeatL [48] c).length ≤ 13 := by rw [Lib.repeatL_length]; simp; omega
    generalize Lib.repeatL [48] c = Z at *
    go_wp2_with fail
    refine (Tryd.strings_TrimRight_one _ 48 (by decide) w2 ?_).mono ?_
    · rw [ByteArray.size_append]
      show Z.toArray.size + H.toArray.size ≤ _
      simp; omega
    rintro e w3 ⟨rfl, rfl⟩
    have htl : (Lib.trimRightB (({ data := Z.toArray } : ByteArray) ++ { data := H.toArray }).data.toList 48) = Lib.trimRightB (Z ++ H) 48 := by simp
    have htr := trim_len (Z ++ H) 48
    rw [List.length_append] at htr
    rw [htl]
    generalize Lib.trimRightB (Z ++ H) 48 = T at *
    go_wp2_with fail
    refine (Tryd.strconv_Itoa (-1022) (by omega) (by omega) w3 (HT.out.upd HU2.out).pow).mono ?_
    rintro e w4 ⟨rfl, k, os, rfl⟩
    have hil := itoa_len (-1022) (by omega) (by omega)
    generalize Lib.itoa (-1022) = I at *
    have HU4 := Lib.hid (grow_upd HU2.out k os)
    go_wp2_with fail
    go_ret
    refine ⟨?_, HU4.out⟩
    rw [HB.out, HFR.out]
    refine congrArg Ending.returned (congrArg Value.string (ByteArray.ext ?_))
    simp
set_option maxRecDepth 100000 in
set_option maxHeartbeats 2000000 in
theorem text_whole (a E : Nat) (s : Bool) (w : World) (ht : Tabs w) (hn : ∀ w, Calls Tryd.prog 24 #[.int .u64 a] w fun e w' => e = .returned (.bool false) ∧ w = w')
    (hE : bits .and .u64 ((a : Int) / 4503599627370496) 2047 = (E : Int)) (hR : bits .and .u64 (a : Int) 4503599627370495 = 0) (hS : bits .and .u64 (a : Int) 9223372036854775808 = if s then 9223372036854775808 else 0)
    (hE1 : 1 ≤ E) (hE2 : E ≤ 2046) :
    Calls Tryd.prog 11 #[.int .u64 a] w fun e w' => e = .returned (.string ⟨((if s then [45] else []) ++ bodyV E 0).toArray⟩) ∧ Upd [] w w' := by
  have HN := Lib.hid hn
  have HT := Lib.hid ht
  clear hn ht
  have e1 : ((E : Int) == 2047) = false := by simp; omega
  have e2 : ((E : Int) == 0) = false := by simp; omega
  have HB := Lib.hid (show bodyV E 0 = [48, 120, 49] ++ [] ++ [112] ++ Lib.itoa ((E : Int) - 1023) from by unfold bodyV; rw [if_neg (by omega), if_neg (by omega)]; rfl)
  cases s
  all_goals
    go_enter Tryd.func11, Tryd.ntmps11
    go_wp2_with (go_at_call 24; refine (HN.out _).mono ?_; rintro e w' ⟨rfl, rfl⟩)
    refine (Tryd.strconv_Itoa ((E : Int) - 1023) (by omega) (by omega) w HT.out.pow).mono ?_
    rintro e w4 ⟨rfl, k, os, rfl⟩
    have hil := itoa_len ((E : Int) - 1023) (by omega) (by omega)
    generalize Lib.itoa ((E : Int) - 1023) = I at *
    have HU4 := Lib.hid (grow_upd (Upd.refl [] w) k os)
    go_wp2_with fail
    go_ret
    refine ⟨?_, HU4.out⟩
    rw [HB.out]
    refine congrArg Ending.returned (congrArg Value.string (ByteArray.ext ?_))
    simp

theorem text_nan (a : Nat) (w : World) (hn : ∀ w, Calls Tryd.prog 24 #[.int .u64 a] w fun e w' => e = .returned (.bool true) ∧ w = w') :
    Calls Tryd.prog 11 #[.int .u64 a] w fun e w' => e = .returned (.string ⟨#[110, 97, 110]⟩) ∧ Upd [] w w' := by
  have HN := Lib.hid hn
  clear hn
  go_enter Tryd.func11, Tryd.ntmps11
  go_wp2_with (go_at_call 24; refine (HN.out _).mono ?_; rintro e w' ⟨rfl, rfl⟩)
  go_ret
  exact ⟨rfl, Upd.refl _ _⟩

theorem text_inf (a R : Nat) (s : Bool) (w : World) (hn : ∀ w, Calls Tryd.prog 24 #[.int .u64 a] w fun e w' => e = .returned (.bool false) ∧ w = w')
    (hE : bits .and .u64 ((a : Int) / 4503599627370496) 2047 = 2047) (hR : bits .and .u64 (a : Int) 4503599627370495 = (R : Int)) (hS : bits .and .u64 (a : Int) 9223372036854775808 = if s then 9223372036854775808 else 0) :
    Calls Tryd.prog 11 #[.int .u64 a] w fun e w' => e = .returned (.string ⟨((if s then [45] else []) ++ [105, 110, 102] : List UInt8).toArray⟩) ∧ Upd [] w w' := by
  have HN := Lib.hid hn
  clear hn
  cases s
  all_goals
    go_enter Tryd.func11, Tryd.ntmps11
    go_wp2_with (go_at_call 24; refine (HN.out _).mono ?_; rintro e w' ⟨rfl, rfl⟩)
    go_ret
    exact ⟨rfl, Upd.refl _ _⟩

theorem text_zero (a : Nat) (s : Bool) (w : World) (hn : ∀ w, Calls Tryd.prog 24 #[.int .u64 a] w fun e w' => e = .returned (.bool false) ∧ w = w')
    (hE : bits .and .u64 ((a : Int) / 4503599627370496) 2047 = 0) (hR : bits .and .u64 (a : Int) 4503599627370495 = 0) (hS : bits .and .u64 (a : Int) 9223372036854775808 = if s then 9223372036854775808 else 0) :
    Calls Tryd.prog 11 #[.int .u64 a] w fun e w' => e = .returned (.string ⟨((if s then [45] else []) ++ [48] : List UInt8).toArray⟩) ∧ Upd [] w w' := by
  have HN := Lib.hid hn
  clear hn
  cases s
  all_goals
    go_enter Tryd.func11, Tryd.ntmps11
    go_wp2_with (go_at_call 24; refine (HN.out _).mono ?_; rintro e w' ⟨rfl, rfl⟩)
    go_ret
    exact ⟨rfl, Upd.refl _ _⟩

/-- TEXT -/
theorem text_any (a : Nat) (w : World) (ht : Tabs w) (h : W64 a) :
    Calls Tryd.prog 11 #[.int .u64 a] w fun e w' => e = .returned (.string ⟨(textV a).toArray⟩) ∧ Upd [] w w' := by
  have hn := fun w => isNaN_any a w h
  have hE := and_exp h
  have hR := and_frac h
  have hS := and_sign h
  have hr : FP.rung a < 9223372036854775808 := by unfold FP.rung; omega
  unfold textV sgnV
  cases hnan : FP.isNaN a
  · rw [hnan] at hn
    unfold FP.isNaN at hnan
    simp only [decide_eq_false_iff_not] at hnan
    rw [if_neg (by simp)]
    by_cases hi : FP.rung a = 9218868437227405312
    · rw [if_pos hi]
      have e : FP.rung a / 4503599627370496 = 2047 := by omega
      rw [e] at hE
      exact text_inf a _ _ w hn hE hR hS
    · rw [if_neg hi]
      by_cases hz : FP.rung a = 0
      · rw [if_pos hz]
        rw [hz] at hE hR
        exact text_zero a _ w hn hE hR hS
      · rw [if_neg hz]
        by_cases hR0 : FP.rung a % 4503599627370496 = 0
        · rw [hR0] at hR ⊢
          exact text_whole a _ _ w ht hn hE hR hS (by omega) (by omega)
        · by_cases hE0 : FP.rung a / 4503599627370496 = 0
          · rw [hE0] at hE ⊢
            exact text_sub a _ _ w ht hn hE hR hS (by omega) (by omega)
          · exact text_one a _ _ _ w ht hn hE hR hS (by omega) (by omega) (by omega) (by omega)
  · rw [hnan] at hn
    rw [if_pos rfl]
    exact text_nan a w hn
end Go.Proofs.YtcjellbnildpfaaDoor
