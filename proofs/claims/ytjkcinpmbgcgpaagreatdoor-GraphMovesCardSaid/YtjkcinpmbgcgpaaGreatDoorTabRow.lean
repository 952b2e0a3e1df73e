/- The row's condition tells the table of powers of ten. -/
import Derived.Test.YtjkcinpmbgcgpaaGreatDoorExt
import Derived.Test.YtjkcinpmbgcgpaaGreatDoorRows
import Derived.Lib.LaidTab
import Derived.Stop.LaidErr
import Derived.MakeChecks
namespace Go.Proofs.YtjkcinpmbgcgpaaGreatDoor
open Go Go.Sy Go.RowKit
set_option linter.unusedVariables false
theorem tab_in {F : PH} {W : World} (hF : F = PH.ofW W) {n : String} {k : IntKind} {zs : List Int} (h : Lib.TabIs Tryz.prog W n k zs) : ∀ w, F.inW w → Lib.TabIs Tryz.prog w n k zs := by
  intro w hw
  unfold Lib.TabIs World.var? at h ⊢
  cases hg : Tryz.prog.globalNamed n with
  | none => rw [hg] at h; cases h
  | some g =>
    rw [hg] at h
    rw [Option.bind_some] at h ⊢
    cases ho : W.heap[g]? with
    | none => rw [ho] at h; cases h
    | some o =>
      have e : w.heap[g]? = some o := hw g o (by rw [hF]; exact ho)
      rw [ho] at h
      rw [e]
      exact h
theorem tab_of {W : World} (hL : laidMetH Tryz.prog Rows.graphMovesRow.laid W) : Tab (PH.ofW W) := by
  rw [MakeChecks.laidMetH_plain _ _ _ (by kernel_rfl)] at hL
  have h : laidMet Tryz.prog [("internal/strconv.uint64pow10", Rows.laid_internal_strconv_uint64pow10)] W := hL.tail.tail
  have e : (Rows.laid_internal_strconv_uint64pow10 : DataW Unit) = Lib.tabData .u64 Lib.pow10Tab := by kernel_rfl
  rw [e] at h
  exact tab_in rfl (Lib.tabIs_of_head (g := 0) (t := 218) (e := 206) (n := 20) (by kernel_rfl) (by kernel_rfl) Tryz.underlying218 Tryz.underlying206 (by kernel_rfl) (by kernel_rfl) h)
end Go.Proofs.YtjkcinpmbgcgpaaGreatDoor
