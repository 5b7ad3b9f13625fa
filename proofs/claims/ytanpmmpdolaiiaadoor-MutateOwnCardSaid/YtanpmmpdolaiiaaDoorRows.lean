/-
  NARROWER THAN 'FOR EVERY INPUT', by the rows' own cells (each row's printed sentence says how): MutateOwn: loops, laid.
  DERIVED. THE GIVEN ROWS OF THIS SEAT. 1 by the template 'for every input the law returns true; each argument reads behind the call as it read before'; 0 by the template 'total and deterministic' (their statements: YtanpmmpdolaiiaaDoorTotals.lean).
  GIVEN WITH THE SEED: the statements are not yours to turn. If you find one false, say at which input.
  Laid BY PROGRAM, IN A SANDBOX (cutbox-rows.mjs): the forced cells as the released guide's own fill.sh prints them over the translation f005a9767eefb8df… (all of the seat's roots in one cut). By AI agents, Wed Nov 11 2026. No macro, syntax, notation, axiom, sorry.
-/
import Derived.Test.YtanpmmpdolaiiaaDoorChecked
import GoSem.Claim
import GoSem.ClaimJoined
import GoSem.ClaimMapViews
import Derived.JoinedTies
import Derived.KernelRfl
namespace Go.Proofs.YtanpmmpdolaiiaaDoor
/- THE CELL 'sum', in the pinned program and in every row, IS THE sha256 OF THE DUMP (.gsa) THAT YtanpmmpdolaiiaaDoorProg.lean LOADS. Nothing in Lean hashes anything: it is a label: what it is worth is what the hold of that sum in a sandbox is worth. -/
noncomputable def Tryd.pinned : Pinned := { name := "ytanpmmpdolaiiaadoor", sum := "f005a9767eefb8dfca57e2eeb1ec122363678abd57eceedae865ce6317d301b4", checked := Tryd.checked }
namespace Rows
def none {H : Type} : Left H := { results := [], args := [] }

/- WHAT THE LISTED PACKAGE-LEVEL VARIABLES READ AS WHEN THE CALL BEGINS. Each datum BY PROGRAM (the guide's laid-datum.mjs) off the statement by which the dump's own 'gosem.cut.vars' lays the variable. In a bare row this is a premise. The card (YtanpmmpdolaiiaaDoorCards.lean) ties it to the program's text. -/
def laid_errors_errorType {H : Type} : DataW H := .iface "internal/reflectlite.rtype" (.agg [.ptr (.lit (.string [101, 114, 114, 111, 114]))])
def laid_assayer_expr_takes {H : Type} : DataW H := .agg [.lit (.int .i64 (-1)), .lit (.int .i64 0), .lit (.int .i64 0), .lit (.int .i64 0), .lit (.int .i64 0), .lit (.int .i64 2), .lit (.int .i64 2), .lit (.int .i64 2), .lit (.int .i64 2), .lit (.int .i64 1), .lit (.int .i64 2), .lit (.int .i64 2)]
def laid_assayer_mutate_asks {H : Type} : DataW H := .slice [.lit (.int .i64 2), .lit (.int .i64 3), .lit (.int .i64 4)] []
def laid_assayer_mutate_ops {H : Type} : DataW H := .slice [.lit (.int .i64 5), .lit (.int .i64 6), .lit (.int .i64 7), .lit (.int .i64 8), .lit (.int .i64 10), .lit (.int .i64 11)] []

/-- 'assayerlaw5.MutateOwn': WHATEVER THE INPUT: true; the input reads as it did. -/
def mutateOwnSpec : ChangeSpec := { name := "mutateOwn", fn := fun _ => fun
  | [d1, d2, d3] => { results := [.lit (.bool true)], args := [d1, d2, d3] }
  | _ => none }
def mutateOwnRow : OpenClaim := { program := "ytanpmmpdolaiiaadoor", sum := "f005a9767eefb8dfca57e2eeb1ec122363678abd57eceedae865ce6317d301b4", func := "assayer/assayerlaw5.MutateOwn", spec := "mutateOwn", inPlace := ["internal/reflectlite.ValueOf", "(internal/reflectlite.Value).Type", "(internal/reflectlite.Value).IsNil", "internal/reflectlite.TypeOf", "(internal/reflectlite.Value).Elem", "(internal/reflectlite.Value).Set"], unfollowed := true, recurses := true, named := ["assayer/expr.takes", "assayer/mutate.ops", "assayer/mutate.asks", "errors.errorType"], loops := true, apart := false, laid := [("errors.errorType", laid_errors_errorType), ("assayer/expr.takes", laid_assayer_expr_takes), ("assayer/mutate.asks", laid_assayer_mutate_asks), ("assayer/mutate.ops", laid_assayer_mutate_ops)] }
def MutateOwnSaid : Prop := mutateOwnRow.holds Tryd.pinned (OpenSpec.ofChange mutateOwnSpec)

/-- ITS FALSE NEIGHBOUR: 'it returns false'. Refute it at one input. -/
def mutateOwnWrong : ChangeSpec := { name := "mutateOwn", fn := fun _ => fun
  | [d1, d2, d3] => { results := [.lit (.bool false)], args := [d1, d2, d3] }
  | _ => none }
def MutateOwnWrongFalsely : Prop := mutateOwnRow.holds Tryd.pinned (OpenSpec.ofChange mutateOwnWrong)

/- THE SECOND FORM. 'bulk': how many values and letters a reading holds, each counted each time it is reached (what is shared counts as often as it is met; a slice's spare places count too). A statement '..UptoSaid' is the law's where the arguments, and the package variables that the reading takes, are together of bulk at most 1048576: NARROWER than '..Said'. Prove '..Said' where nothing that the law and all that it calls make is longer than what came in: it says more and counts as full. Else prove '..UptoSaid'. A law counts once. -/
mutual
def uptoBulk {H : Type} : DataW H → Nat
  | .lit (.string bytes) => bytes.length + 1
  | .lit _ => 1
  | .nil => 1
  | .ptr d => uptoBulk d + 1
  | .slice elems spare => uptoBulkAll elems + uptoBulkAll spare + 1
  | .agg parts => uptoBulkAll parts + 1
  | .iface _ d => uptoBulk d + 1
  | .map entries => uptoBulkEntries entries + 1
  | .held _ => 1
def uptoBulkAll {H : Type} : List (DataW H) → Nat
  | [] => 0
  | d :: r => uptoBulk d + uptoBulkAll r
def uptoBulkEntries {H : Type} : List (Lit × DataW H) → Nat
  | [] => 0
  | x :: r => uptoBulkEntry x + uptoBulkEntries r
def uptoBulkEntry {H : Type} : Lit × DataW H → Nat
  | (.string bytes, d) => bytes.length + uptoBulk d + 1
  | (_, d) => uptoBulk d + 1
 end
def uptoSmall : (H : Type) → List (DataW H) → Bool := fun _ ds => decide (uptoBulkAll ds ≤ 1048576)
def OpenSpec.upto (s : _root_.Go.ChangeSpec) : _root_.Go.OpenSpec := { _root_.Go.OpenSpec.ofChange s with cond := some uptoSmall }

/-- 'assayerlaw5.MutateOwn', WHERE WHAT IT READS IS OF BULK AT MOST 1048576: true; the input reads as it did. -/
def mutateOwnUptoRow : OpenClaim := { program := "ytanpmmpdolaiiaadoor", sum := "f005a9767eefb8dfca57e2eeb1ec122363678abd57eceedae865ce6317d301b4", func := "assayer/assayerlaw5.MutateOwn", spec := "mutateOwn", inPlace := ["internal/reflectlite.ValueOf", "(internal/reflectlite.Value).Type", "(internal/reflectlite.Value).IsNil", "internal/reflectlite.TypeOf", "(internal/reflectlite.Value).Elem", "(internal/reflectlite.Value).Set"], unfollowed := true, recurses := true, named := ["assayer/expr.takes", "assayer/mutate.ops", "assayer/mutate.asks", "errors.errorType"], loops := true, apart := false, laid := [("errors.errorType", laid_errors_errorType), ("assayer/expr.takes", laid_assayer_expr_takes), ("assayer/mutate.asks", laid_assayer_mutate_asks), ("assayer/mutate.ops", laid_assayer_mutate_ops)], narrowed := true }
def MutateOwnUptoSaid : Prop := mutateOwnUptoRow.holds Tryd.pinned (OpenSpec.upto mutateOwnSpec)

end Rows
end Go.Proofs.YtanpmmpdolaiiaaDoor
