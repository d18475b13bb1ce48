/-
  The two errors that the row lists lie as the walks read them.
-/
import Derived.Test.YtcjellbnildpfaaDoorTabs
import Derived.Test.YtcjellbnildpfaaDoorA7
namespace Go.Proofs.YtcjellbnildpfaaDoor
open Go.ChangeShapes Go.WideShapes Go.ChangeAt Go.RowKit

theorem iface_cell {H : Type} {P : Program} {t : TypeId} {ms} {enc : TypeId × Value → H} {W : World} {base : Nat} {sp : Nat → Bool} {held : Bool} {fuel : Nat} {cs : List Value} {nm : String} {d : DataW H} {p : List MemPlace}
    (ht : P.underlying t = some (.interface ms)) (h : DataW.trod enc P W base sp held fuel t cs = some (.iface nm d, p)) : ∃ u v, cs[0]? = some (.iface u v) := by
  cases fuel with
  | zero => simp [DataW.trod] at h
  | succ n =>
    unfold DataW.trod at h
    rw [ht] at h
    rcases cs with _ | ⟨v, _ | ⟨v2, r⟩⟩
    · simp at h
    · cases v <;> simp at h ⊢
    · simp at h

theorem errs_of_laid {W : World} (h : laidMetH Tryd.prog laidR W) : Errs W := by
  have ht := tabs_of_laid h
  have h1 := laidMetH.filter (fun x => x.1 == "strconv.ErrSyntax") h
  rw [show laidR.filter (fun x => x.1 == "strconv.ErrSyntax") = [("strconv.ErrSyntax", Rows.laid_strconv_ErrSyntax)] by kernel_rfl, MakeChecks.laidMetH_plain _ _ _ (by kernel_rfl)] at h1
  have h2 := laidMetH.filter (fun x => x.1 == "strconv.ErrRange") h
  rw [show laidR.filter (fun x => x.1 == "strconv.ErrRange") = [("strconv.ErrRange", Rows.laid_strconv_ErrRange)] by kernel_rfl, MakeChecks.laidMetH_plain _ _ _ (by kernel_rfl)] at h2
  refine ⟨ht, ?_, ?_⟩
  · obtain ⟨ps, ⟨g, t, cs, fuel, p, q, hg, hty, hv, hd, _, _⟩, _⟩ := h1
    obtain rfl := Option.some.inj ((show Tryd.prog.globalNamed "strconv.ErrSyntax" = some 3 by kernel_rfl).symm.trans hg)
    obtain rfl := Option.some.inj ((show (Tryd.prog.globals[3]?).map (·.type) = some 60 by kernel_rfl).symm.trans hty)
    obtain ⟨u, v, e⟩ := iface_cell Tryd.underlying60 hd
    exact ⟨u, v, by rw [World.var?_cell hg hv 0]; simpa using e⟩
  · obtain ⟨ps, ⟨g, t, cs, fuel, p, q, hg, hty, hv, hd, _, _⟩, _⟩ := h2
    obtain rfl := Option.some.inj ((show Tryd.prog.globalNamed "strconv.ErrRange" = some 4 by kernel_rfl).symm.trans hg)
    obtain rfl := Option.some.inj ((show (Tryd.prog.globals[4]?).map (·.type) = some 60 by kernel_rfl).symm.trans hty)
    obtain ⟨u, v, e⟩ := iface_cell Tryd.underlying60 hd
    exact ⟨u, v, by rw [World.var?_cell hg hv 0]; simpa using e⟩
end Go.Proofs.YtcjellbnildpfaaDoor
