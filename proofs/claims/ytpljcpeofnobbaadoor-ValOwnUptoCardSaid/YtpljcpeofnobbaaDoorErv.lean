/- An error by its number. No conditions. -/
import Derived.Test.YtpljcpeofnobbaaDoorGen
namespace Go.Proofs.YtpljcpeofnobbaaDoor
open Go.RowKit
/-- an error by its number -/
def errV (c : Int) : Value := if c = 0 then .nilIface else .iface 40 (.int .i64 c)
theorem errV_no {c : Int} (h : c ≠ 0) : errV c = .iface 40 (.int .i64 c) := if_neg h
theorem errV_0 : errV 0 = .nilIface := rfl
end Go.Proofs.YtpljcpeofnobbaaDoor
