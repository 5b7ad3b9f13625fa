/-
  DERIVED. GIVEN WITH THE SEED: THE PROGRAM's TIES (one call each: nine closed facts by the kernel) AND EACH ROW's TIE, after the 31st guide's Derived/Test/Toyas{Tie, Card}.lean. No idea stands in it: it is a product of the set-up. Laid BY PROGRAM, IN A SANDBOX (cutbox-door.mjs). By AI agents, Wed Nov 11 2026. No macro, syntax, notation, axiom, sorry.
-/
import Derived.Test.YtanpmmpdolaiiaaDoorRows
import Derived.LaidByTextLater
import Derived.SevenTiedAt
import Derived.LaidSub
import Derived.LaidOnce
namespace Go.Proofs.YtanpmmpdolaiiaaDoor
open Go
set_option maxRecDepth 100000
theorem seatTie1 : Tryd.prog.laidByTextLater [("errors.errorType", Rows.laid_errors_errorType), ("assayer/expr.takes", Rows.laid_assayer_expr_takes), ("assayer/mutate.asks", Rows.laid_assayer_mutate_asks), ("assayer/mutate.ops", Rows.laid_assayer_mutate_ops)] [.handle, .data, .widerDeep, .widerDeep] true :=
  Program.laidByTextLater_by_one 31 8 13 (by kernel_rfl) (by kernel_rfl) (by kernel_rfl) (by kernel_rfl) (by kernel_rfl) (by kernel_rfl) (fun _ _ => by kernel_rfl)
theorem noOwnUnsafe : Tryd.pinned.checked.prog.headLifts.contains "ownunsafe" = false := by kernel_rfl
theorem tie : Tryd.prog.laidByTextLater [("errors.errorType", Rows.laid_errors_errorType), ("assayer/expr.takes", Rows.laid_assayer_expr_takes), ("assayer/mutate.asks", Rows.laid_assayer_mutate_asks), ("assayer/mutate.ops", Rows.laid_assayer_mutate_ops)] [.handle, .data, .widerDeep, .widerDeep] true :=
  Program.laidByTextLater.sub seatTie1 ["errors.errorType", "assayer/expr.takes", "assayer/mutate.asks", "assayer/mutate.ops"] (by kernel_rfl) (by kernel_rfl)
theorem mutateOwn_row_tie : Rows.mutateOwnRow.laidByTextAt .later Tryd.pinned [.handle, .data, .widerDeep, .widerDeep] true :=
  OpenClaim.laidByTextAt_later rfl rfl tie noOwnUnsafe
theorem mutateOwnUpto_row_tie : Rows.mutateOwnUptoRow.laidByTextAt .later Tryd.pinned [.handle, .data, .widerDeep, .widerDeep] true :=
  OpenClaim.laidByTextAt_later rfl rfl tie noOwnUnsafe
end Go.Proofs.YtanpmmpdolaiiaaDoor
