/-
  strings.Cut, strconv.Atoi and strconv.ParseUint at every string, as calls. Conditions: the tables and the two errors lie as their texts lay them, the strings are no longer than memory.
-/
import Derived.Test.YtcjellbnildpfaaDoorA6
import Derived.Test.YtcjellbnildpfaaDoorShelfB
namespace Go.Proofs.YtcjellbnildpfaaDoor
open Go.RowKit

/-- the two errors are errors -/
structure Errs (w : World) : Prop where
  tabs : Tabs w
  syn : ∃ t p, w.cell? ⟨3, 0, none⟩ = some (.iface t p)
  rng : ∃ t p, w.cell? ⟨4, 0, none⟩ = some (.iface t p)

theorem Errs.upd {w w' : World} (h : Errs w) (u : Upd [] w w') : Errs w' := by
  have h8 := h.tabs.six
  obtain ⟨t, p, e⟩ := h.syn
  obtain ⟨t', p', e'⟩ := h.rng
  exact ⟨h.tabs.upd u, ⟨t, p, (u.to_below.cell (p := ⟨3, 0, none⟩) (by show 3 < _; omega)).trans e⟩, ⟨t', p', (u.to_below.cell (p := ⟨4, 0, none⟩) (by show 4 < _; omega)).trans e'⟩⟩

/-- what Cut makes of a text -/
def cutV (s : ByteArray) (c : UInt8) : ByteArray × ByteArray × Bool :=
  if Lib.indexByte s.data.toList c = -1 then (s, ⟨#[]⟩, false) else (s.extract 0 (Lib.indexByte s.data.toList c).toNat, s.extract ((Lib.indexByte s.data.toList c).toNat + 1) s.size, true)

theorem cut_any (s : ByteArray) (c : UInt8) (w : World) (hs : s.size < 4611686018427387904) :
    Calls Tryd.prog 36 #[.string s, .string ⟨#[c]⟩] w fun e w' => e = .returned (.tuple #[.string (cutV s c).1, .string (cutV s c).2.1, .bool (cutV s c).2.2]) ∧ Upd [] w w' := by
  unfold cutV
  by_cases h : Lib.indexByte s.data.toList c = -1
  · rw [if_pos h]
    exact cut_out s c w _ (cut_miss s c w h) _ _ _ rfl
  · rw [if_neg h]
    have hge := Lib.indexByte_ge s.data.toList c
    have hi : Lib.indexByte s.data.toList c = ((Lib.indexByte s.data.toList c).toNat : Int) := by omega
    have hat := (Lib.indexByte_some hi).1
    have hlt : (Lib.indexByte s.data.toList c).toNat < s.size := by
      have h2 := (List.getElem?_eq_some_iff.1 hat).1
      rw [Array.length_toList] at h2
      exact h2
    exact cut_out s c w _ (cut_hit s c _ w hi hlt hs) _ _ _ rfl

theorem cutV_size (s : ByteArray) (c : UInt8) : (cutV s c).1.size ≤ s.size ∧ (cutV s c).2.1.size ≤ s.size := by
  unfold cutV
  split
  · exact ⟨Nat.le_refl _, Nat.zero_le _⟩
  · refine ⟨?_, ?_⟩
    · rw [ByteArray.size_extract]; omega
    · rw [ByteArray.size_extract]; omega

/-- a whole number at base ten, if it is one -/
def atoiV (s : ByteArray) : Option Int := match Lib.atoiAll s.data.toList with | .ok v => some v | _ => none

theorem atoi_any (s : ByteArray) (w : World) (hs : s.size ≤ 140737488355328) (h : Errs w) :
    Calls Tryd.prog 37 #[.string s] w fun e w' => (∃ (v : Int) (er : Value), e = .returned (.tuple #[.int .i64 v, er]) ∧ ((atoiV s = some v ∧ er = .nilIface) ∨ (atoiV s = none ∧ ∃ p, er = .iface 104 p))) ∧ Upd [] w w' := by
  unfold atoiV
  cases hq : Lib.atoiAll s.data.toList with
  | ok v =>
    refine (Tryd.strconv_Atoi_ok s (by omega) v hq w).mono ?_
    rintro e w' ⟨rfl, hw⟩
    refine ⟨⟨v, _, rfl, .inl ⟨rfl, rfl⟩⟩, ?_⟩
    rcases hw with rfl | ⟨t, rfl⟩
    · exact Upd.refl _ _
    · exact bytes_upd w t
  | «syntax» =>
    obtain ⟨t, p, hv⟩ := h.syn
    refine (Tryd.strconv_Atoi_syntax s (by omega) hq _ w hv (.inr ⟨t, p, rfl⟩)).mono ?_
    rintro e w' ⟨N, rfl, _, _, hb⟩
    exact ⟨⟨_, _, rfl, .inr ⟨rfl, _, rfl⟩⟩, Upd.below hb []⟩
  | range =>
    obtain ⟨t, p, hv⟩ := h.rng
    refine (Tryd.strconv_Atoi_range s (by omega) hq _ w hv (.inr ⟨t, p, rfl⟩)).mono ?_
    rintro e w' ⟨N, rfl, _, _, hb⟩
    exact ⟨⟨_, _, rfl, .inr ⟨rfl, _, rfl⟩⟩, Upd.below hb []⟩

theorem puint_any (s : ByteArray) (w : World) (h0 : 0 < s.size) (h1 : s.size ≤ 15) (h : Errs w) :
    Calls Tryd.prog 38 #[.string s, .int .i64 16, .int .i64 64] w fun e w' => (∃ (v : Nat) (er : Value), e = .returned (.tuple #[.int .u64 v, er]) ∧ ((hexV 0 s.data.toList = some v ∧ er = .nilIface) ∨ (hexV 0 s.data.toList = none ∧ ∃ p, er = .iface 104 p))) ∧ Upd [] w w' := by
  cases hq : hexV 0 s.data.toList with
  | some v =>
    refine (puint_ok s v w h0 h1 hq).mono ?_
    rintro e w' ⟨rfl, hu⟩
    exact ⟨⟨v, _, rfl, .inl ⟨rfl, rfl⟩⟩, hu⟩
  | none =>
    have H := parseIn s w h0 h1
    rw [hq] at H
    have H := Lib.hid (show Calls Tryd.prog 58 #[.string s, .int .i64 16, .int .i64 64] w fun e w' => e = .returned (.tuple #[.int .u64 0, .iface 101 (.int .i64 2)]) ∧ Upd [] w w' from H)
    have HE := Lib.hid h
    clear hq h
    go_enter Tryd.func38, Tryd.ntmps38
    go_wp2_with (go_at_call 58; refine H.out.mono ?_; rintro e w1 ⟨rfl, hu⟩; have HU := Lib.hid hu; clear hu)
    obtain ⟨t, p, hv⟩ := (HE.out.upd HU.out).syn
    refine (Tryd.strconv_toError_syntax _ s _ _ _ w1 (by omega) hv (.inr ⟨t, p, rfl⟩)).mono ?_
    rintro e w2 ⟨N, rfl, _, _, hb⟩
    have HV := Lib.hid (HU.out.trans (Upd.below hb []))
    clear hb hv
    go_wp2_with fail
    go_ret2
    exact ⟨⟨0, _, rfl, .inr ⟨trivial, _, rfl⟩⟩, HV.out⟩
end Go.Proofs.YtcjellbnildpfaaDoor
