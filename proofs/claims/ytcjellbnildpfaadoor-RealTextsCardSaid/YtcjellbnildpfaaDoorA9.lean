/-
  Parse of every string: what it answers. Conditions: the tables and the two errors lie as their texts lay them, the string is no longer than memory.
-/
import Derived.Test.YtcjellbnildpfaaDoorA8
namespace Go.Proofs.YtcjellbnildpfaaDoor
open Go.RowKit

theorem numR_lt {s : ByteArray} {v : Nat} (h : numR s = some v) : v < 9218868437227405312 := by
  unfold numR at h
  split at h
  · cases h
  · rename_i e he
    split at h
    · rename_i hc
      obtain ⟨_, h1, h2, h3⟩ := hc
      split at h
      · cases h
      · rename_i u hu
        have hz := hexV_frac _ _ _ (by rw [Lib.repeatL_length]; simp) h1 rfl hu
        split at h
        · cases h; omega
        · cases h; omega
    · cases h

/-- a float without its sign -/
def baseV (r : List UInt8) : Option Nat :=
  if r = [105, 110, 102] then some 9218868437227405312 else if r = [48] then some 0
  else if Lib.hasPrefix r [48, 120] = true then numR ⟨(Lib.trimPrefix r [48, 120]).toArray⟩ else none
/-- the float that a text could be of -/
def candV (l : List UInt8) : Option Nat :=
  (baseV (Lib.trimPrefix l [45])).map fun a => if Lib.hasPrefix l [45] then a + 9223372036854775808 else a
/-- the float that has just this text -/
def parseV (l : List UInt8) : Option Nat :=
  if l = [110, 97, 110] then some 9221120237041090560 else match candV l with
    | none => none
    | some a => if textV a = l then some a else none
/-- the value and the error's number -/
def parseA (o : Option Nat) : Value := match o with | some a => .tuple #[.int .u64 a, .int .i64 0] | none => .tuple #[.int .u64 0, .int .i64 3]

theorem base_lt {r : List UInt8} {a : Nat} (h : baseV r = some a) : a ≤ 9218868437227405312 := by
  unfold baseV at h
  split at h
  · cases h; omega
  · split at h
    · cases h; omega
    · split at h
      · exact Nat.le_of_lt (numR_lt h)
      · cases h

theorem or_sign {a : Nat} (h : a < 9223372036854775808) : bits .or .u64 (a : Int) 9223372036854775808 = ((a + 9223372036854775808 : Nat) : Int) := by
  have := u64_or_nat a 9223372036854775808 (by omega) (by omega)
  rw [show ((9223372036854775808 : Nat) : Int) = 9223372036854775808 from rfl] at this
  rw [this]
  congr 1
  have h2 := Nat.two_pow_add_eq_or_of_lt (i := 63) (b := a) (by exact h) 1
  rw [show (2 ^ 63 : Nat) * 1 = 9223372036854775808 from rfl] at h2
  rw [Nat.or_comm, ← h2, Nat.add_comm]

theorem mk_list (s : ByteArray) : ({ data := s.data.toList.toArray } : ByteArray) = s := by simp

set_option maxRecDepth 100000 in
set_option maxHeartbeats 4000000 in
theorem parse_any (s : ByteArray) (w : World) (hs : s.size ≤ 140737488355328) (h : Errs w) :
    Calls Tryd.prog 9 #[.string s] w fun e w' => e = .returned (parseA (parseV s.data.toList)) ∧ Upd [] w w' := by
  have HE := Lib.hid h
  have hsl : s.toList = s.data.toList := ByteArray.toList_eq s
  have hlen : s.data.toList.length ≤ 140737488355328 := by rw [Array.length_toList]; exact hs
  have P1 := Lib.hid (fun w => Tryd.strings_CutPrefix s ⟨#[45]⟩ w)
  have hm : (⟨#[45]⟩ : ByteArray).data.toList = [45] := rfl
  rw [hm] at P1
  by_cases hn : s.data.toList = [110, 97, 110]
  · have t1 : (s.toList == [110, 97, 110]) = true := by rw [hsl, hn]; rfl
    unfold parseV
    rw [if_pos hn]
    clear hn hsl hlen
    go_enter Tryd.func9, Tryd.ntmps9
    go_wp2_with fail
    go_ret2
    exact ⟨rfl, Upd.refl _ _⟩
  · have t1 : (s.toList == [110, 97, 110]) = false := by rw [hsl]; simpa using hn
    have hp : parseV s.data.toList = match candV s.data.toList with | none => none | some a => if textV a = s.data.toList then some a else none := by
      unfold parseV; rw [if_neg hn]
    have hb : ∀ (r : List UInt8) (m : Bool), r = Lib.trimPrefix s.data.toList [45] → m = Lib.hasPrefix s.data.toList [45] → candV s.data.toList = (baseV r).map fun a => if m then a + 9223372036854775808 else a := by
      rintro r m rfl rfl; rfl
    have hrl : (Lib.trimPrefix s.data.toList [45]).length ≤ s.data.toList.length := by
      unfold Lib.trimPrefix; split
      · rw [List.length_drop]; omega
      · exact Nat.le_refl _
    obtain ⟨r, hr⟩ : ∃ r, r = Lib.trimPrefix s.data.toList [45] := ⟨_, rfl⟩
    obtain ⟨m, hm2⟩ : ∃ m, m = Lib.hasPrefix s.data.toList [45] := ⟨_, rfl⟩
    have hcand := hb r m hr hm2
    rw [← hr] at hrl P1
    rw [← hm2] at P1
    rw [hp, hcand]
    clear hb hr hm2 hp hcand hn hm
    generalize s.data.toList = L at *
    have P2 := Lib.hid (fun w => Tryd.strings_CutPrefix ⟨r.toArray⟩ ⟨#[48, 120]⟩ w)
    rw [show ({ data := r.toArray } : ByteArray).data.toList = r by simp, show ({ data := #[48, 120] } : ByteArray).data.toList = [48, 120] from rfl] at P2
    have hrt : ({ data := r.toArray } : ByteArray).toList = r := by rw [ByteArray.toList_eq]
    -- the check at the end
    have TX : ∀ (a : Nat), W64 a → ∃ k, ((({ data := (textV a).toArray } : ByteArray).toList == s.toList) = k ∧ (({ data := (textV a).toArray } : ByteArray).toList != s.toList) = (!k) ∧ (textV a == s.toList) = k ∧ (textV a != s.toList) = !k) ∧ (if textV a = L then some a else none) = if k then some a else none := by
      intro a _
      refine ⟨decide (textV a = L), ⟨?_, ?_, ?_, ?_⟩, ?_⟩
      · rw [ByteArray.toList_eq, hsl, Bool.eq_iff_iff]; simp
      · rw [ByteArray.toList_eq, hsl, Bool.eq_iff_iff]; simp
      · rw [hsl, Bool.eq_iff_iff]; simp
      · rw [hsl, Bool.eq_iff_iff]; simp
      · simp
    clear hsl
    unfold baseV
    by_cases r1 : r = [105, 110, 102]
    · subst r1
      rw [if_pos rfl]
      cases m
      · show Calls Tryd.prog 9 #[.string s] w fun e w' => e = .returned (parseA (if textV 9218868437227405312 = L then some 9218868437227405312 else none)) ∧ Upd [] w w'
        have wa : W64 (9218868437227405312) := by unfold W64; omega
        obtain ⟨k, ⟨k1, k2, k4, k5⟩, k3⟩ := TX (9218868437227405312) wa
        have HX := Lib.hid (fun w ht => text_any (9218868437227405312) w ht wa)
        rw [k3]
        clear k3 TX wa
        generalize textV (9218868437227405312) = T at *
        cases k
        all_goals
          simp only [Bool.not_true, Bool.not_false] at k2 k5
          go_enter Tryd.func9, Tryd.ntmps9
          go_wp2_with (first | ((with_reducible refine (P1.out _).mono ?_); rintro e w2 ⟨rfl, rfl⟩) | (go_at_call 11; refine (HX.out _ HE.out.tabs).mono ?_; rintro e w3 ⟨rfl, hu⟩; have HU := Lib.hid hu; clear hu))
          go_ret2
          exact ⟨rfl, HU.out⟩
      · show Calls Tryd.prog 9 #[.string s] w fun e w' => e = .returned (parseA (if textV 18442240474082181120 = L then some 18442240474082181120 else none)) ∧ Upd [] w w'
        have wa : W64 (18442240474082181120) := by unfold W64; omega
        obtain ⟨k, ⟨k1, k2, k4, k5⟩, k3⟩ := TX (18442240474082181120) wa
        have HX := Lib.hid (fun w ht => text_any (18442240474082181120) w ht wa)
        rw [k3]
        clear k3 TX wa
        generalize textV (18442240474082181120) = T at *
        cases k
        all_goals
          simp only [Bool.not_true, Bool.not_false] at k2 k5
          go_enter Tryd.func9, Tryd.ntmps9
          go_wp2_with (first | ((with_reducible refine (P1.out _).mono ?_); rintro e w2 ⟨rfl, rfl⟩) | (go_at_call 11; refine (HX.out _ HE.out.tabs).mono ?_; rintro e w3 ⟨rfl, hu⟩; have HU := Lib.hid hu; clear hu))
          go_ret2
          exact ⟨rfl, HU.out⟩
    · rw [if_neg r1]
      by_cases r2 : r = [48]
      · subst r2
        rw [if_pos rfl]
        cases m
        · show Calls Tryd.prog 9 #[.string s] w fun e w' => e = .returned (parseA (if textV 0 = L then some 0 else none)) ∧ Upd [] w w'
          have wa : W64 (0) := by unfold W64; omega
          obtain ⟨k, ⟨k1, k2, k4, k5⟩, k3⟩ := TX (0) wa
          have HX := Lib.hid (fun w ht => text_any (0) w ht wa)
          rw [k3]
          clear k3 TX wa
          generalize textV (0) = T at *
          cases k
          all_goals
            simp only [Bool.not_true, Bool.not_false] at k2 k5
            go_enter Tryd.func9, Tryd.ntmps9
            go_wp2_with (first | ((with_reducible refine (P1.out _).mono ?_); rintro e w2 ⟨rfl, rfl⟩) | (go_at_call 11; refine (HX.out _ HE.out.tabs).mono ?_; rintro e w3 ⟨rfl, hu⟩; have HU := Lib.hid hu; clear hu))
            go_ret2
            exact ⟨rfl, HU.out⟩
        · show Calls Tryd.prog 9 #[.string s] w fun e w' => e = .returned (parseA (if textV 9223372036854775808 = L then some 9223372036854775808 else none)) ∧ Upd [] w w'
          have wa : W64 (9223372036854775808) := by unfold W64; omega
          obtain ⟨k, ⟨k1, k2, k4, k5⟩, k3⟩ := TX (9223372036854775808) wa
          have HX := Lib.hid (fun w ht => text_any (9223372036854775808) w ht wa)
          rw [k3]
          clear k3 TX wa
          generalize textV (9223372036854775808) = T at *
          cases k
          all_goals
            simp only [Bool.not_true, Bool.not_false] at k2 k5
            go_enter Tryd.func9, Tryd.ntmps9
            go_wp2_with (first | ((with_reducible refine (P1.out _).mono ?_); rintro e w2 ⟨rfl, rfl⟩) | (go_at_call 11; refine (HX.out _ HE.out.tabs).mono ?_; rintro e w3 ⟨rfl, hu⟩; have HU := Lib.hid hu; clear hu))
            go_ret2
            exact ⟨rfl, HU.out⟩
      · rw [if_neg r2]
        have t2 : (({ data := r.toArray } : ByteArray).toList == [105, 110, 102]) = false := by rw [hrt]; simpa using r1
        have t3 : (({ data := r.toArray } : ByteArray).toList == [48]) = false := by rw [hrt]; simpa using r2
        have t4 : (({ data := r.toArray } : ByteArray).toList != [48]) = true := by rw [hrt]; simpa using r2
        have t5 : (r == [105, 110, 102]) = false := by simpa using r1
        have t6 : (r == [48]) = false := by simpa using r2
        have t7 : (r != [48]) = true := by simpa using r2
        have HNum := Lib.hid (fun w h => number_any ⟨(Lib.trimPrefix r [48, 120]).toArray⟩ w (by
          show (Lib.trimPrefix r [48, 120]).toArray.size ≤ _
          unfold Lib.trimPrefix
          split
          · simp; omega
          · simp; omega) h)
        have hnl := @numR_lt ⟨(Lib.trimPrefix r [48, 120]).toArray⟩
        generalize numR ⟨(Lib.trimPrefix r [48, 120]).toArray⟩ = N at *
        generalize Lib.trimPrefix r [48, 120] = x at *
        generalize Lib.hasPrefix r [48, 120] = q at *
        cases q
        · rw [if_neg (by decide)]
          show Calls Tryd.prog 9 #[.string s] w fun e w' => e = .returned (parseA none) ∧ Upd [] w w'
          clear TX hnl
          cases N <;> cases m
          all_goals
            simp only [Option.getD_none, Option.getD_some, Option.isSome_none, Option.isSome_some] at HNum
            go_enter Tryd.func9, Tryd.ntmps9
            go_wp2_with (first | ((with_reducible refine (P1.out _).mono ?_); rintro e w2 ⟨rfl, rfl⟩) | ((with_reducible refine (P2.out _).mono ?_); rintro e w2 ⟨rfl, rfl⟩) | (go_at_call 21; refine (HNum.out _ HE.out).mono ?_; rintro e w3 ⟨rfl, hu⟩; have HU := Lib.hid hu; clear hu) | (go_at_call 11; refine (HX.out _ (HE.out.upd HU.out).tabs).mono ?_; rintro e w4 ⟨rfl, hv⟩; have HV := Lib.hid (HU.out.trans hv); clear hv))
            go_ret2
            exact ⟨rfl, HU.out⟩
        · rw [if_pos rfl]
          cases N with
          | none =>
            show Calls Tryd.prog 9 #[.string s] w fun e w' => e = .returned (parseA none) ∧ Upd [] w w'
            clear TX hnl
            simp only [Option.getD_none, Option.isSome_none] at HNum
            cases m
            all_goals
              go_enter Tryd.func9, Tryd.ntmps9
              go_wp2_with (first | ((with_reducible refine (P1.out _).mono ?_); rintro e w2 ⟨rfl, rfl⟩) | ((with_reducible refine (P2.out _).mono ?_); rintro e w2 ⟨rfl, rfl⟩) | (go_at_call 21; refine (HNum.out _ HE.out).mono ?_; rintro e w3 ⟨rfl, hu⟩; have HU := Lib.hid hu; clear hu) | (go_at_call 11; refine (HX.out _ (HE.out.upd HU.out).tabs).mono ?_; rintro e w4 ⟨rfl, hv⟩; have HV := Lib.hid (HU.out.trans hv); clear hv))
              go_ret2
              exact ⟨rfl, HU.out⟩
          | some v =>
            have hv := hnl rfl
            simp only [Option.getD_some, Option.isSome_some] at HNum
            have hor := or_sign (a := v) (by omega)
            have wv : W64 v := by unfold W64; omega
            have wy : W64 (v + 9223372036854775808) := by unfold W64; omega
            clear hnl hv
            cases m
            · show Calls Tryd.prog 9 #[.string s] w fun e w' => e = .returned (parseA (if textV v = L then some v else none)) ∧ Upd [] w w'
              obtain ⟨k, ⟨k1, k2, k4, k5⟩, k3⟩ := TX v wv
              have HX := Lib.hid (fun w ht => text_any v w ht wv)
              rw [k3]
              clear k3 TX wv wy
              generalize textV v = T at *
              cases k
              all_goals
                simp only [Bool.not_true, Bool.not_false] at k2 k5
                go_enter Tryd.func9, Tryd.ntmps9
                go_wp2_with (first | ((with_reducible refine (P1.out _).mono ?_); rintro e w2 ⟨rfl, rfl⟩) | ((with_reducible refine (P2.out _).mono ?_); rintro e w2 ⟨rfl, rfl⟩) | (go_at_call 21; refine (HNum.out _ HE.out).mono ?_; rintro e w3 ⟨rfl, hu⟩; have HU := Lib.hid hu; clear hu) | (go_at_call 11; refine (HX.out _ (HE.out.upd HU.out).tabs).mono ?_; rintro e w4 ⟨rfl, hv⟩; have HV := Lib.hid (HU.out.trans hv); clear hv))
                go_ret2
                exact ⟨rfl, HV.out⟩
            · simp only [Option.map_some, if_true]
              generalize v + 9223372036854775808 = y at *
              obtain ⟨k, ⟨k1, k2, k4, k5⟩, k3⟩ := TX y wy
              have HX := Lib.hid (fun w ht => text_any y w ht wy)
              rw [k3]
              clear k3 TX wv wy
              generalize textV y = T at *
              cases k
              all_goals
                simp only [Bool.not_true, Bool.not_false] at k2 k5
                go_enter Tryd.func9, Tryd.ntmps9
                go_wp2_with (first | ((with_reducible refine (P1.out _).mono ?_); rintro e w2 ⟨rfl, rfl⟩) | ((with_reducible refine (P2.out _).mono ?_); rintro e w2 ⟨rfl, rfl⟩) | (go_at_call 21; refine (HNum.out _ HE.out).mono ?_; rintro e w3 ⟨rfl, hu⟩; have HU := Lib.hid hu; clear hu) | (go_at_call 11; refine (HX.out _ (HE.out.upd HU.out).tabs).mono ?_; rintro e w4 ⟨rfl, hv⟩; have HV := Lib.hid (HU.out.trans hv); clear hv))
                go_ret2
                exact ⟨rfl, HV.out⟩
end Go.Proofs.YtcjellbnildpfaaDoor
