/-
  The lesser and the greater one, on both sides: what each answers. Conditions: the words are of 64 bits.
-/
import Derived.Test.YtcjellbnildpfaaDoorR4
namespace Go.Proofs.YtcjellbnildpfaaDoor
open Go.RowKit
attribute [local go_sem] call34 call51

theorem parts_of {a : Nat} (h : W64 a) : FP.neg a = true ∧ a = 9223372036854775808 + FP.rung a ∨ FP.neg a = false ∧ a = FP.rung a := by
  unfold W64 at h
  unfold FP.neg FP.rung
  by_cases hx : 9223372036854775808 ≤ a
  · left; exact ⟨decide_eq_true hx, by omega⟩
  · right; exact ⟨decide_eq_false hx, by omega⟩

theorem same_eq {a b : Nat} (h : W64 a) (h' : W64 b) : (some (compare (FP.sval a) (FP.sval b)) == some Ordering.eq) = sameV a b := by
  unfold sameV
  have := @FP.sval_eq_iff a b h h'
  have e1 : (some (compare (FP.sval a) (FP.sval b)) == some Ordering.eq) = decide (FP.sval a = FP.sval b) := by
    simp only [compare, compareOfLessAndEq]
    by_cases hx : FP.sval a = FP.sval b
    · rw [if_neg (by omega), if_pos hx, decide_eq_true hx]; rfl
    · rw [decide_eq_false hx, if_neg hx]; split <;> rfl
  rw [e1, Bool.eq_iff_iff]
  simp only [decide_eq_true_eq, Bool.or_eq_true, Bool.and_eq_true]
  exact this

theorem ord_less {a b : Nat} (h : W64 a) (h' : W64 b) : decide (ordV a < ordV b) = (lessV a b || sameV a b && FP.neg a && !FP.neg b) := by
  unfold lessV sameV ordV
  rw [Bool.eq_iff_iff]
  rcases parts_of h with ⟨e1, ea⟩ | ⟨e1, ea⟩ <;> rcases parts_of h' with ⟨e2, eb⟩ | ⟨e2, eb⟩ <;> rw [e1, e2] <;> generalize FP.rung a = ra at * <;> generalize FP.rung b = rb at * <;> subst ea eb <;> simp <;> omega

theorem ord_inj {a b : Nat} (h : W64 a) (h' : W64 b) (e : ordV a = ordV b) : a = b := by
  unfold ordV at e
  rcases parts_of h with ⟨e1, ea⟩ | ⟨e1, ea⟩ <;> rcases parts_of h' with ⟨e2, eb⟩ | ⟨e2, eb⟩ <;> rw [e1, e2] at e <;> simp at e <;> omega

set_option maxHeartbeats 2000000 in
theorem pless_any (a b : Nat) (w : World) (h : W64 a) (h' : W64 b) (na : FP.isNaN a = false) (nb : FP.isNaN b = false) :
    Calls Tryd.prog 53 #[.int .u64 a, .int .u64 b] w fun e w' => e = .returned (.bool (decide (ordV a < ordV b))) ∧ w = w' := by
  have Sa := Lib.hid (fun w => sign_any a w h)
  have Sb := Lib.hid (fun w => sign_any b w h')
  have e : FloatKind.f64.format.order a b = some (compare (FP.sval a) (FP.sval b)) := FP.order_eq a b h h' na nb
  have hV : decide (ordV a < ordV b) = ((FloatKind.f64.format.order a b == some Ordering.lt) || (FloatKind.f64.format.order a b == some Ordering.eq) && FP.neg a && !FP.neg b) := by
    rw [e, less_eq h h', same_eq h h']
    exact ord_less h h'
  generalize decide (ordV a < ordV b) = v at *
  generalize FP.neg a = sa at *
  generalize FP.neg b = sb at *
  generalize hb1 : (FloatKind.f64.format.order a b == some Ordering.lt) = b1 at *
  generalize hb2 : (FloatKind.f64.format.order a b == some Ordering.eq) = b2 at *
  have HV := Lib.hid hV
  clear e h h' na nb hV
  cases b1 <;> cases b2 <;> cases sa <;> cases sb
  all_goals
    go_enter Tryd.func53, Tryd.ntmps53
    go_wp2_with (first | (go_at_call 30; refine (float_any _ _).mono ?_; rintro e w' ⟨rfl, rfl⟩) | ((with_reducible refine (Sa.out _).mono ?_); rintro e w' ⟨rfl, rfl⟩) | ((with_reducible refine (Sb.out _).mono ?_); rintro e w' ⟨rfl, rfl⟩))
    go_ret
    exact ⟨by rw [HV.out]; rfl, rfl⟩

/-- the lesser one, or the greater one -/
def extV (a b : Nat) (greater : Bool) : Int :=
  if FP.isNaN a && FP.isNaN b then 9221120237041090560 else if FP.isNaN a then b else if FP.isNaN b then a
  else if decide (ordV b < ordV a) != greater then b else a

set_option maxHeartbeats 2000000 in
theorem ext_any (a b : Nat) (g : Bool) (w : World) (h : W64 a) (h' : W64 b) :
    Calls Tryd.prog 33 #[.int .u64 a, .int .u64 b, .bool g] w fun e w' => e = .returned (.int .u64 (extV a b g)) ∧ w = w' := by
  have Ha := Lib.hid (fun w => isNaN_any a w h)
  have Hb := Lib.hid (fun w => isNaN_any b w h')
  have L := Lib.hid (fun (q : FP.isNaN b = false) (q' : FP.isNaN a = false) w => pless_any b a w h' h q q')
  have hV : extV a b g = extV a b g := rfl
  rw [show (_ = _) = (extV a b g = _) from by unfold extV; rfl] at hV
  generalize extV a b g = v at *
  generalize FP.isNaN a = na at *
  generalize FP.isNaN b = nb at *
  generalize decide (ordV b < ordV a) = l at *
  have HV := Lib.hid hV
  clear h h' hV
  cases na <;> cases nb
  · have L' := Lib.hid (L.out rfl rfl)
    clear L
    cases l <;> cases g
    all_goals
      go_enter Tryd.func33, Tryd.ntmps33
      go_wp2_with (first | ((with_reducible refine (Ha.out _).mono ?_); rintro e w' ⟨rfl, rfl⟩) | ((with_reducible refine (Hb.out _).mono ?_); rintro e w' ⟨rfl, rfl⟩) | ((with_reducible refine (L'.out _).mono ?_); rintro e w' ⟨rfl, rfl⟩))
      go_ret
      exact ⟨by rw [HV.out]; rfl, rfl⟩
  all_goals
    clear L
    go_enter Tryd.func33, Tryd.ntmps33
    go_wp2_with (first | ((with_reducible refine (Ha.out _).mono ?_); rintro e w' ⟨rfl, rfl⟩) | ((with_reducible refine (Hb.out _).mono ?_); rintro e w' ⟨rfl, rfl⟩))
    go_ret
    exact ⟨by rw [HV.out]; rfl, rfl⟩

def pickV (least : Bool) (a b : Nat) : Int :=
  if FP.isNaN a && FP.isNaN b then 9221120237041090560 else if FP.isNaN a then b else if FP.isNaN b then a
  else if least == decide (ordV a < ordV b) then a else b

end Go.Proofs.YtcjellbnildpfaaDoor
