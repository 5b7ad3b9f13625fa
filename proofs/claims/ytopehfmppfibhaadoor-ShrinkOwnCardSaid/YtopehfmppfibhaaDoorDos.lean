/- What the rows' listed variables (errors.errorType; expr's takes) give a walk, and a world that meets the condition. No conditions. -/
import Derived.Test.YtopehfmppfibhaaDoorCards
import Derived.Test.YtopehfmppfibhaaDoorAsg
import Derived.Test.YtopehfmppfibhaaDoorExt
import Derived.ChangeArms
import Derived.DataReads
import Derived.MakeChecks
import Derived.LaidLaws
import Derived.LaidHandle
import Derived.LaidMore
import Derived.Lib.LaidTab
import Derived.Stop.LaidErr
import Derived.Stop.Joined
import Derived.ChangeVars
import Derived.JoinedOf
import Derived.Deep.Matrix
namespace Go.Proofs.YtopehfmppfibhaaDoor
open Go.RowKit Go.ChangeShapes Go.Deep
theorem gTk : Tryd.prog.globalNamed "assayer/expr.takes" = some 1 := by kernel_rfl
theorem tTk : (Tryd.prog.globals[1]?).map (·.type) = some 118 := by kernel_rfl
theorem laidT_of {W : World} (h : laidMetH Tryd.prog [("assayer/expr.takes", Rows.laid_assayer_expr_takes)] W) : LaidT W := by
  rw [MakeChecks.laidMetH_plain _ _ _ (by kernel_rfl)] at h
  have hT := Lib.tabIs_of_head (zs := takesL) (k := .i64) gTk tTk Tryd.underlying118 Tryd.underlying3 (by kernel_rfl) (by kernel_rfl) h
  exact ⟨fun i hi => hT.cell gTk i (by simpa [takesL] using hi)⟩
theorem gEt : Tryd.prog.globalNamed "errors.errorType" = some 0 := by kernel_rfl
theorem gRt : (Tryd.prog.cutTypes.find? (·.1 == "internal/reflectlite.rtype")).map (·.2) = some 121 := by kernel_rfl
theorem gOneRow : ((List.range 177).filter fun t => Tryd.prog.rowNamed t [101, 114, 114, 111, 114]) = [29] := by kernel_rfl
theorem gSize : Tryd.prog.types.size = 177 := by kernel_rfl
theorem handle_of_laid {W : World} (h : laidMetH Tryd.prog [("errors.errorType", Rows.laid_errors_errorType), ("assayer/expr.takes", Rows.laid_assayer_expr_takes)] W) : LaidT W ∧ Laid W := by
  have h' : laidMet Tryd.prog [("assayer/expr.takes", Rows.laid_assayer_expr_takes)] W ∧ handlesMet Tryd.prog [("errors.errorType", Rows.laid_errors_errorType)] W := h
  refine ⟨laidT_of (by rw [MakeChecks.laidMetH_plain _ _ _ (by kernel_rfl)]; exact h'.1), ?_⟩
  obtain ⟨name, u, ty, e1, e2, e3, e4, e5⟩ := h'.2 _ (List.mem_singleton.2 rfl)
  have en : name = [101, 114, 114, 111, 114] := (Option.some.inj e1).symm
  subst en
  obtain rfl := Option.some.inj (gRt.symm.trans e2)
  have hm : ty ∈ (List.range 177).filter fun t => Tryd.prog.rowNamed t [101, 114, 114, 111, 114] := List.mem_filter.2 ⟨List.mem_range.2 (by rw [← gSize]; exact e3), e4⟩
  rw [gOneRow] at hm
  obtain rfl := List.mem_singleton.1 hm
  have hh : typeHandle Tryd.prog 29 = .pointer (some ⟨6, 29, none⟩) := by kernel_rfl
  rw [hh] at e5
  have := World.var?_cell gEt e5 0
  unfold Laid
  simpa using this
noncomputable def laidWorld (os : Os) : World :=
  let w0 := World.doorLaid Tryd.prog 400 os
  { w0 with heap := w0.heap.modify 0 fun
      | .cells _ t frozen => .cells #[.iface 121 (.agg #[.pointer (some ⟨6, 29, none⟩)])] t frozen
      | o => o }
theorem laidWorld_met (os : Os) (args : Array Value) : laidMetH Tryd.prog [("errors.errorType", Rows.laid_errors_errorType), ("assayer/expr.takes", Rows.laid_assayer_expr_takes)] ((laidWorld os).forCall (fun _ _ => 0) ⟨#[], args, []⟩).memory :=
  laidMetH_of_parts3 (fuel := 8) (laidMet_of_run' 8 (by kernel_rfl) (by kernel_rfl)) (by kernel_rfl) (by kernel_rfl)
end Go.Proofs.YtopehfmppfibhaaDoor
