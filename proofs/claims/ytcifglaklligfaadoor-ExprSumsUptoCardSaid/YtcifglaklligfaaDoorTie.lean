/-
  DERIVED. GIVEN WITH THE SEED: THE PROGRAM's TIES (one call each: nine closed facts by the kernel) AND EACH ROW's TIE, after the 31st guide's Derived/Test/Toyas{Tie, Card}.lean. No idea stands in it: it is a product of the set-up. Laid BY PROGRAM, IN A SANDBOX (cutbox-door.mjs). By AI agents, Wed Nov 11 2026. No macro, syntax, notation, axiom, sorry.
-/
import Derived.Test.YtcifglaklligfaaDoorRows
import Derived.LaidByTextLater
import Derived.SevenTiedAt
import Derived.LaidSub
import Derived.LaidOnce
namespace Go.Proofs.YtcifglaklligfaaDoor
open Go
set_option maxRecDepth 100000
theorem seatTie1 : Tryd.prog.laidByTextLater [("errors.errorType", Rows.laid_errors_errorType), ("assayer/expr.takes", Rows.laid_assayer_expr_takes), ("assayer/mutate.asks", Rows.laid_assayer_mutate_asks), ("assayer/mutate.ops", Rows.laid_assayer_mutate_ops)] [.handle, .data, .widerDeep, .widerDeep] true :=
  Program.laidByTextLater_by_one 31 8 13 (by kernel_rfl) (by kernel_rfl) (by kernel_rfl) (by kernel_rfl) (by kernel_rfl) (by kernel_rfl) (fun _ _ => by kernel_rfl)
theorem noOwnUnsafe : Tryd.pinned.checked.prog.headLifts.contains "ownunsafe" = false := by kernel_rfl
theorem tie : Tryd.prog.laidByTextLater [("assayer/expr.takes", Rows.laid_assayer_expr_takes), ("assayer/mutate.asks", Rows.laid_assayer_mutate_asks), ("assayer/mutate.ops", Rows.laid_assayer_mutate_ops)] [.data, .widerDeep, .widerDeep] true :=
  Program.laidByTextLater.sub seatTie1 ["assayer/expr.takes", "assayer/mutate.asks", "assayer/mutate.ops"] (by kernel_rfl) (by kernel_rfl)
theorem mutateRight_row_tie : Rows.mutateRightRow.laidByTextAt .later Tryd.pinned [.data, .widerDeep, .widerDeep] true :=
  OpenClaim.laidByTextAt_later rfl rfl tie noOwnUnsafe
theorem mutateMany_row_tie : Rows.mutateManyRow.laidByTextAt .later Tryd.pinned [.data, .widerDeep, .widerDeep] true :=
  OpenClaim.laidByTextAt_later rfl rfl tie noOwnUnsafe
theorem mutateKills_row_tie : Rows.mutateKillsRow.laidByTextAt .later Tryd.pinned [.data, .widerDeep, .widerDeep] true :=
  OpenClaim.laidByTextAt_later rfl rfl tie noOwnUnsafe
theorem mutateAlive_row_tie : Rows.mutateAliveRow.laidByTextAt .later Tryd.pinned [.data, .widerDeep, .widerDeep] true :=
  OpenClaim.laidByTextAt_later rfl rfl tie noOwnUnsafe
theorem tie2 : Tryd.prog.laidByTextLater [("errors.errorType", Rows.laid_errors_errorType), ("assayer/expr.takes", Rows.laid_assayer_expr_takes), ("assayer/mutate.asks", Rows.laid_assayer_mutate_asks), ("assayer/mutate.ops", Rows.laid_assayer_mutate_ops)] [.handle, .data, .widerDeep, .widerDeep] true :=
  Program.laidByTextLater.sub seatTie1 ["errors.errorType", "assayer/expr.takes", "assayer/mutate.asks", "assayer/mutate.ops"] (by kernel_rfl) (by kernel_rfl)
theorem mutateOwn_row_tie : Rows.mutateOwnRow.laidByTextAt .later Tryd.pinned [.handle, .data, .widerDeep, .widerDeep] true :=
  OpenClaim.laidByTextAt_later rfl rfl tie2 noOwnUnsafe
theorem mutateTells_row_tie : Rows.mutateTellsRow.laidByTextAt .later Tryd.pinned [.handle, .data, .widerDeep, .widerDeep] true :=
  OpenClaim.laidByTextAt_later rfl rfl tie2 noOwnUnsafe
theorem tie3 : Tryd.prog.laidByTextLater [("assayer/expr.takes", Rows.laid_assayer_expr_takes)] [.data] true :=
  Program.laidByTextLater.sub seatTie1 ["assayer/expr.takes"] (by kernel_rfl) (by kernel_rfl)
theorem exprTwice_row_tie : Rows.exprTwiceRow.laidByTextAt .later Tryd.pinned [.data] true :=
  OpenClaim.laidByTextAt_later rfl rfl tie3 noOwnUnsafe
theorem exprSums_row_tie : Rows.exprSumsRow.laidByTextAt .later Tryd.pinned [.data] true :=
  OpenClaim.laidByTextAt_later rfl rfl tie3 noOwnUnsafe
theorem mutateRightUpto_row_tie : Rows.mutateRightUptoRow.laidByTextAt .later Tryd.pinned [.data, .widerDeep, .widerDeep] true :=
  OpenClaim.laidByTextAt_later rfl rfl tie noOwnUnsafe
theorem mutateManyUpto_row_tie : Rows.mutateManyUptoRow.laidByTextAt .later Tryd.pinned [.data, .widerDeep, .widerDeep] true :=
  OpenClaim.laidByTextAt_later rfl rfl tie noOwnUnsafe
theorem mutateKillsUpto_row_tie : Rows.mutateKillsUptoRow.laidByTextAt .later Tryd.pinned [.data, .widerDeep, .widerDeep] true :=
  OpenClaim.laidByTextAt_later rfl rfl tie noOwnUnsafe
theorem mutateAliveUpto_row_tie : Rows.mutateAliveUptoRow.laidByTextAt .later Tryd.pinned [.data, .widerDeep, .widerDeep] true :=
  OpenClaim.laidByTextAt_later rfl rfl tie noOwnUnsafe
theorem mutateOwnUpto_row_tie : Rows.mutateOwnUptoRow.laidByTextAt .later Tryd.pinned [.handle, .data, .widerDeep, .widerDeep] true :=
  OpenClaim.laidByTextAt_later rfl rfl tie2 noOwnUnsafe
theorem mutateTellsUpto_row_tie : Rows.mutateTellsUptoRow.laidByTextAt .later Tryd.pinned [.handle, .data, .widerDeep, .widerDeep] true :=
  OpenClaim.laidByTextAt_later rfl rfl tie2 noOwnUnsafe
theorem exprTwiceUpto_row_tie : Rows.exprTwiceUptoRow.laidByTextAt .later Tryd.pinned [.data] true :=
  OpenClaim.laidByTextAt_later rfl rfl tie3 noOwnUnsafe
theorem exprSumsUpto_row_tie : Rows.exprSumsUptoRow.laidByTextAt .later Tryd.pinned [.data] true :=
  OpenClaim.laidByTextAt_later rfl rfl tie3 noOwnUnsafe
end Go.Proofs.YtcifglaklligfaaDoor
