/- What the listed variable gives: expr.takes lies as the text says. No conditions. -/
import Derived.Test.YtcifglaklligfaaDoorVar
import Derived.Test.YtcifglaklligfaaDoorExt
namespace Go.Proofs.YtcifglaklligfaaDoor
open Go.RowKit Go.ChangeShapes Go.Deep
theorem laidT_of {W : World} (h : laidMetH Tryd.prog [("assayer/expr.takes", Rows.laid_assayer_expr_takes)] W) : LaidT W := by
  rw [MakeChecks.laidMetH_plain _ _ _ (by kernel_rfl)] at h
  have hT := Lib.tabIs_of_head (zs := takesL) (k := .i64) gTk tTk Tryd.underlying73 Tryd.underlying3 (by kernel_rfl) (by kernel_rfl) h
  exact ⟨fun i hi => hT.cell gTk i (by simpa [takesL] using hi)⟩
theorem door_metT (os : Os) (args : Array Value) : laidMetH Tryd.prog [("assayer/expr.takes", Rows.laid_assayer_expr_takes)] ((World.doorLaid Tryd.prog 400 os).forCall (fun _ _ => 0) ⟨#[], args, []⟩).memory :=
  laidMetH_of_parts3 (fuel := 8) (laidMet_of_run' 8 (by kernel_rfl) (by kernel_rfl)) (by kernel_rfl) (by kernel_rfl)
end Go.Proofs.YtcifglaklligfaaDoor
