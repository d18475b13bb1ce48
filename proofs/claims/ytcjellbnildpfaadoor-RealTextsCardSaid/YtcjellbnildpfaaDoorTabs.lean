/-
  The tables that the row lists lie as the walks read them.
-/
import Derived.Test.YtcjellbnildpfaaDoorA3
import Derived.Test.YtcjellbnildpfaaDoorRows
import Derived.Lib.LaidTab
import Derived.LaidSub
import Derived.ProofKit
import Derived.OpenShut
import Derived.LaidMore
import Derived.Lay
namespace Go.Proofs.YtcjellbnildpfaaDoor
open Go.ChangeShapes Go.WideShapes Go.ChangeAt Go.RowKit

def numOf : DataW Unit → Int | .lit (.int _ n) => n | _ => 0
def numsOf : DataW Unit → List Int | .agg l => l.map numOf | _ => []
def zs64 : List Int := numsOf Rows.laid_math_bits_deBruijn64tab
theorem zs64_is : (Rows.laid_math_bits_deBruijn64tab : DataW Unit) = Lib.tabData .u8 zs64 := by kernel_rfl
theorem pow10_is : (Rows.laid_internal_strconv_uint64pow10 : DataW Unit) = Lib.tabData .u64 Lib.pow10Tab := by kernel_rfl
theorem zs64_15 : zs64.getD 15 0 = 4 := by kernel_rfl

/-- what every row of this seat lists -/
def laidR : List (String × DataW Unit) := Rows.realOrderRow.laid

theorem tabs_of_laid {W : World} (h : laidMetH Tryd.prog laidR W) : Tabs W := by
  have h1 := laidMetH.filter (fun x => x.1 == "math/bits.deBruijn64tab") h
  rw [show laidR.filter (fun x => x.1 == "math/bits.deBruijn64tab") = [("math/bits.deBruijn64tab", Rows.laid_math_bits_deBruijn64tab)] by kernel_rfl, MakeChecks.laidMetH_plain _ _ _ (by kernel_rfl), zs64_is] at h1
  have h2 := laidMetH.filter (fun x => x.1 == "internal/strconv.uint64pow10") h
  rw [show laidR.filter (fun x => x.1 == "internal/strconv.uint64pow10") = [("internal/strconv.uint64pow10", Rows.laid_internal_strconv_uint64pow10)] by kernel_rfl, MakeChecks.laidMetH_plain _ _ _ (by kernel_rfl), pow10_is] at h2
  have h3 := laidMetH.filter (fun x => x.1 == "unicode/utf8.acceptRanges") h
  rw [show laidR.filter (fun x => x.1 == "unicode/utf8.acceptRanges") = [("unicode/utf8.acceptRanges", Rows.laid_unicode_utf8_acceptRanges)] by kernel_rfl, MakeChecks.laidMetH_plain _ _ _ (by kernel_rfl)] at h3
  refine ⟨?_, Lib.tabIs_of_head (g := 1) (t := 111) (e := 22) (n := 20) (by kernel_rfl) (by kernel_rfl) Tryd.underlying111 Tryd.underlying22 (by kernel_rfl) (by kernel_rfl) h2, ?_⟩
  · have ht := Lib.tabIs_of_head (g := 6) (t := 131) (e := 5) (n := 64) (by kernel_rfl) (by kernel_rfl) Tryd.underlying131 Tryd.underlying5 (by kernel_rfl) (by kernel_rfl) h1
    have hc := Lib.TabIs.cell ht (show Tryd.prog.globalNamed "math/bits.deBruijn64tab" = some 6 by kernel_rfl) 15 (by decide)
    rw [zs64_15] at hc
    exact hc
  · obtain ⟨ps, ⟨g, t, cs, fuel, p, q, hg, ht, hv, hd, _, _⟩, _⟩ := h3
    have hg8 := Option.some.inj ((show Tryd.prog.globalNamed "unicode/utf8.acceptRanges" = some 8 by kernel_rfl).symm.trans hg)
    subst hg8
    unfold World.var? at hv
    rw [hg] at hv
    simp only [Option.bind_some] at hv
    split at hv
    · rename_i hq
      exact (Array.getElem?_eq_some_iff.1 hq).1
    · cases hv
end Go.Proofs.YtcjellbnildpfaaDoor
