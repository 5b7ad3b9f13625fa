/- Two faults compared: the model answers, nil or not. No conditions. -/
import Derived.Test.YtcifglaklligfaaDoorEve
import Derived.WideLaws
namespace Go.Proofs.YtcifglaklligfaaDoor
open Go.RowKit
theorem neq_nil_err (b : Int) (w : World) : (binOp .neq 27 .nilIface (.iface 51 (.int .i64 b))).run Tryd.prog w = .ok (.bool true) w := by kernel_rfl
theorem neq_err_nil (a : Int) (w : World) : (binOp .neq 27 (.iface 51 (.int .i64 a)) .nilIface).run Tryd.prog w = .ok (.bool true) w := by kernel_rfl
theorem neq_err_err (a b : Int) (w : World) : (binOp .neq 27 (.iface 51 (.int .i64 a)) (.iface 51 (.int .i64 b))).run Tryd.prog w = .ok (.bool (a != b)) w := by kernel_rfl
theorem errs_neq (a b : Int) (w : World) : (binOp .neq 27 (errV a) (errV b)).run Tryd.prog w = .ok (.bool (a != b)) w := by
  by_cases ha : a = 0
  · by_cases hb : b = 0
    · subst ha hb
      exact Go.run_neq_nil_nil (P := Tryd.prog) (w := w) 27 (by kernel_rfl)
    · subst ha
      rw [errV_no hb, show ((0 : Int) != b) = true by simpa using fun h => hb h.symm]
      exact neq_nil_err b w
  · by_cases hb : b = 0
    · subst hb
      rw [errV_no ha, show (a != (0 : Int)) = true by simpa using ha]
      exact neq_err_nil a w
    · rw [errV_no ha, errV_no hb]
      exact neq_err_err a b w
theorem eql_err_nil (a : Int) (w : World) : (binOp .eql 27 (.iface 51 (.int .i64 a)) .nilIface).run Tryd.prog w = .ok (.bool false) w := by kernel_rfl
theorem errs_eql_nil (a : Int) (w : World) : (binOp .eql 27 (errV a) .nilIface).run Tryd.prog w = .ok (.bool (a == 0)) w := by
  by_cases ha : a = 0
  · subst ha
    exact Go.run_eql_nil_nil (P := Tryd.prog) (w := w) 27 (by kernel_rfl)
  · rw [errV_no ha, show (a == (0 : Int)) = false by simpa using ha]
    exact eql_err_nil a w
end Go.Proofs.YtcifglaklligfaaDoor
