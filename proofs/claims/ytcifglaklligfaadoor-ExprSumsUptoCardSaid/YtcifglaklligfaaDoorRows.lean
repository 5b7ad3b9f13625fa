/-
  NARROWER THAN 'FOR EVERY INPUT', by the rows' own cells (each row's printed sentence says how): MutateRight: loops, laid · MutateMany: loops, laid · MutateKills: loops, laid · MutateAlive: loops, laid · MutateOwn: loops, laid · MutateTells: loops, laid · ExprTwice: loops, laid · ExprSums: loops, laid.
  DERIVED. THE GIVEN ROWS OF THIS SEAT. 8 by the template 'for every input the law returns true; each argument reads behind the call as it read before'; 0 by the template 'total and deterministic' (their statements: YtcifglaklligfaaDoorTotals.lean).
  GIVEN WITH THE SEED: the statements are not yours to turn. If you find one false, say at which input.
  Laid BY PROGRAM, IN A SANDBOX (cutbox-rows.mjs): the forced cells as the released guide's own fill.sh prints them over the translation 3574f6f2f330a12f… (all of the seat's roots in one cut). By AI agents, Wed Nov 11 2026. No macro, syntax, notation, axiom, sorry.
-/
import Derived.Test.YtcifglaklligfaaDoorChecked
import GoSem.Claim
import GoSem.ClaimJoined
import GoSem.ClaimMapViews
import Derived.JoinedTies
import Derived.KernelRfl
namespace Go.Proofs.YtcifglaklligfaaDoor
/- THE CELL 'sum', in the pinned program and in every row, IS THE sha256 OF THE DUMP (.gsa) THAT YtcifglaklligfaaDoorProg.lean LOADS. Nothing in Lean hashes anything: it is a label: what it is worth is what the hold of that sum in a sandbox is worth. -/
noncomputable def Tryd.pinned : Pinned := { name := "ytcifglaklligfaadoor", sum := "3574f6f2f330a12f829a58cb935dcdb0bec9d76bde50db31b03e4978899913c8", checked := Tryd.checked }
namespace Rows
def none {H : Type} : Left H := { results := [], args := [] }

/- WHAT THE LISTED PACKAGE-LEVEL VARIABLES READ AS WHEN THE CALL BEGINS. Each datum BY PROGRAM (the guide's laid-datum.mjs) off the statement by which the dump's own 'gosem.cut.vars' lays the variable. In a bare row this is a premise. The card (YtcifglaklligfaaDoorCards.lean) ties it to the program's text. -/
def laid_assayer_expr_takes {H : Type} : DataW H := .agg [.lit (.int .i64 (-1)), .lit (.int .i64 0), .lit (.int .i64 0), .lit (.int .i64 0), .lit (.int .i64 0), .lit (.int .i64 2), .lit (.int .i64 2), .lit (.int .i64 2), .lit (.int .i64 2), .lit (.int .i64 1), .lit (.int .i64 2), .lit (.int .i64 2)]
def laid_assayer_mutate_asks {H : Type} : DataW H := .slice [.lit (.int .i64 2), .lit (.int .i64 3), .lit (.int .i64 4)] []
def laid_assayer_mutate_ops {H : Type} : DataW H := .slice [.lit (.int .i64 5), .lit (.int .i64 6), .lit (.int .i64 7), .lit (.int .i64 8), .lit (.int .i64 10), .lit (.int .i64 11)] []
def laid_errors_errorType {H : Type} : DataW H := .iface "internal/reflectlite.rtype" (.agg [.ptr (.lit (.string [101, 114, 114, 111, 114]))])

/-- 'assayerlaw3.MutateRight': WHATEVER THE INPUT: true; the input reads as it did. -/
def mutateRightSpec : ChangeSpec := { name := "mutateRight", fn := fun _ => fun
  | [d1, d2] => { results := [.lit (.bool true)], args := [d1, d2] }
  | _ => none }
def mutateRightRow : OpenClaim := { program := "ytcifglaklligfaadoor", sum := "3574f6f2f330a12f829a58cb935dcdb0bec9d76bde50db31b03e4978899913c8", func := "assayer/assayerlaw3.MutateRight", spec := "mutateRight", recurses := true, named := ["assayer/expr.takes", "assayer/mutate.ops", "assayer/mutate.asks"], loops := true, apart := false, laid := [("assayer/expr.takes", laid_assayer_expr_takes), ("assayer/mutate.asks", laid_assayer_mutate_asks), ("assayer/mutate.ops", laid_assayer_mutate_ops)] }
def MutateRightSaid : Prop := mutateRightRow.holds Tryd.pinned (OpenSpec.ofChange mutateRightSpec)

/-- ITS FALSE NEIGHBOUR: 'it returns false'. Refute it at one input. -/
def mutateRightWrong : ChangeSpec := { name := "mutateRight", fn := fun _ => fun
  | [d1, d2] => { results := [.lit (.bool false)], args := [d1, d2] }
  | _ => none }
def MutateRightWrongFalsely : Prop := mutateRightRow.holds Tryd.pinned (OpenSpec.ofChange mutateRightWrong)

/-- 'assayerlaw6.MutateMany': WHATEVER THE INPUT: true; the input reads as it did. -/
def mutateManySpec : ChangeSpec := { name := "mutateMany", fn := fun _ => fun
  | [d1, d2] => { results := [.lit (.bool true)], args := [d1, d2] }
  | _ => none }
def mutateManyRow : OpenClaim := { program := "ytcifglaklligfaadoor", sum := "3574f6f2f330a12f829a58cb935dcdb0bec9d76bde50db31b03e4978899913c8", func := "assayer/assayerlaw6.MutateMany", spec := "mutateMany", recurses := true, named := ["assayer/expr.takes", "assayer/mutate.ops", "assayer/mutate.asks"], loops := true, apart := false, laid := [("assayer/expr.takes", laid_assayer_expr_takes), ("assayer/mutate.asks", laid_assayer_mutate_asks), ("assayer/mutate.ops", laid_assayer_mutate_ops)] }
def MutateManySaid : Prop := mutateManyRow.holds Tryd.pinned (OpenSpec.ofChange mutateManySpec)

/-- ITS FALSE NEIGHBOUR: 'it returns false'. Refute it at one input. -/
def mutateManyWrong : ChangeSpec := { name := "mutateMany", fn := fun _ => fun
  | [d1, d2] => { results := [.lit (.bool false)], args := [d1, d2] }
  | _ => none }
def MutateManyWrongFalsely : Prop := mutateManyRow.holds Tryd.pinned (OpenSpec.ofChange mutateManyWrong)

/-- 'assayerlaw3.MutateKills': WHATEVER THE INPUT: true; the input reads as it did. -/
def mutateKillsSpec : ChangeSpec := { name := "mutateKills", fn := fun _ => fun
  | [d1, d2, d3, d4] => { results := [.lit (.bool true)], args := [d1, d2, d3, d4] }
  | _ => none }
def mutateKillsRow : OpenClaim := { program := "ytcifglaklligfaadoor", sum := "3574f6f2f330a12f829a58cb935dcdb0bec9d76bde50db31b03e4978899913c8", func := "assayer/assayerlaw3.MutateKills", spec := "mutateKills", unfollowed := true, recurses := true, named := ["assayer/expr.takes", "assayer/mutate.ops", "assayer/mutate.asks"], loops := true, apart := false, laid := [("assayer/expr.takes", laid_assayer_expr_takes), ("assayer/mutate.asks", laid_assayer_mutate_asks), ("assayer/mutate.ops", laid_assayer_mutate_ops)] }
def MutateKillsSaid : Prop := mutateKillsRow.holds Tryd.pinned (OpenSpec.ofChange mutateKillsSpec)

/-- ITS FALSE NEIGHBOUR: 'it returns false'. Refute it at one input. -/
def mutateKillsWrong : ChangeSpec := { name := "mutateKills", fn := fun _ => fun
  | [d1, d2, d3, d4] => { results := [.lit (.bool false)], args := [d1, d2, d3, d4] }
  | _ => none }
def MutateKillsWrongFalsely : Prop := mutateKillsRow.holds Tryd.pinned (OpenSpec.ofChange mutateKillsWrong)

/-- 'assayerlaw3.MutateAlive': WHATEVER THE INPUT: true; the input reads as it did. -/
def mutateAliveSpec : ChangeSpec := { name := "mutateAlive", fn := fun _ => fun
  | [d1, d2, d3] => { results := [.lit (.bool true)], args := [d1, d2, d3] }
  | _ => none }
def mutateAliveRow : OpenClaim := { program := "ytcifglaklligfaadoor", sum := "3574f6f2f330a12f829a58cb935dcdb0bec9d76bde50db31b03e4978899913c8", func := "assayer/assayerlaw3.MutateAlive", spec := "mutateAlive", unfollowed := true, recurses := true, named := ["assayer/expr.takes", "assayer/mutate.ops", "assayer/mutate.asks"], loops := true, apart := false, laid := [("assayer/expr.takes", laid_assayer_expr_takes), ("assayer/mutate.asks", laid_assayer_mutate_asks), ("assayer/mutate.ops", laid_assayer_mutate_ops)] }
def MutateAliveSaid : Prop := mutateAliveRow.holds Tryd.pinned (OpenSpec.ofChange mutateAliveSpec)

/-- ITS FALSE NEIGHBOUR: 'it returns false'. Refute it at one input. -/
def mutateAliveWrong : ChangeSpec := { name := "mutateAlive", fn := fun _ => fun
  | [d1, d2, d3] => { results := [.lit (.bool false)], args := [d1, d2, d3] }
  | _ => none }
def MutateAliveWrongFalsely : Prop := mutateAliveRow.holds Tryd.pinned (OpenSpec.ofChange mutateAliveWrong)

/-- 'assayerlaw5.MutateOwn': WHATEVER THE INPUT: true; the input reads as it did. -/
def mutateOwnSpec : ChangeSpec := { name := "mutateOwn", fn := fun _ => fun
  | [d1, d2, d3] => { results := [.lit (.bool true)], args := [d1, d2, d3] }
  | _ => none }
def mutateOwnRow : OpenClaim := { program := "ytcifglaklligfaadoor", sum := "3574f6f2f330a12f829a58cb935dcdb0bec9d76bde50db31b03e4978899913c8", func := "assayer/assayerlaw5.MutateOwn", spec := "mutateOwn", inPlace := ["internal/reflectlite.ValueOf", "(internal/reflectlite.Value).Type", "(internal/reflectlite.Value).IsNil", "internal/reflectlite.TypeOf", "(internal/reflectlite.Value).Elem", "(internal/reflectlite.Value).Set"], unfollowed := true, recurses := true, named := ["assayer/expr.takes", "assayer/mutate.ops", "assayer/mutate.asks", "errors.errorType"], loops := true, apart := false, laid := [("errors.errorType", laid_errors_errorType), ("assayer/expr.takes", laid_assayer_expr_takes), ("assayer/mutate.asks", laid_assayer_mutate_asks), ("assayer/mutate.ops", laid_assayer_mutate_ops)] }
def MutateOwnSaid : Prop := mutateOwnRow.holds Tryd.pinned (OpenSpec.ofChange mutateOwnSpec)

/-- ITS FALSE NEIGHBOUR: 'it returns false'. Refute it at one input. -/
def mutateOwnWrong : ChangeSpec := { name := "mutateOwn", fn := fun _ => fun
  | [d1, d2, d3] => { results := [.lit (.bool false)], args := [d1, d2, d3] }
  | _ => none }
def MutateOwnWrongFalsely : Prop := mutateOwnRow.holds Tryd.pinned (OpenSpec.ofChange mutateOwnWrong)

/-- 'assayerlaw3.MutateTells': WHATEVER THE INPUT: true; the input reads as it did. -/
def mutateTellsSpec : ChangeSpec := { name := "mutateTells", fn := fun _ => fun
  | [d1, d2, d3, d4] => { results := [.lit (.bool true)], args := [d1, d2, d3, d4] }
  | _ => none }
def mutateTellsRow : OpenClaim := { program := "ytcifglaklligfaadoor", sum := "3574f6f2f330a12f829a58cb935dcdb0bec9d76bde50db31b03e4978899913c8", func := "assayer/assayerlaw3.MutateTells", spec := "mutateTells", inPlace := ["internal/reflectlite.ValueOf", "(internal/reflectlite.Value).Type", "(internal/reflectlite.Value).IsNil", "internal/reflectlite.TypeOf", "(internal/reflectlite.Value).Elem", "(internal/reflectlite.Value).Set"], unfollowed := true, recurses := true, named := ["assayer/expr.takes", "assayer/mutate.ops", "assayer/mutate.asks", "errors.errorType"], loops := true, apart := false, laid := [("errors.errorType", laid_errors_errorType), ("assayer/expr.takes", laid_assayer_expr_takes), ("assayer/mutate.asks", laid_assayer_mutate_asks), ("assayer/mutate.ops", laid_assayer_mutate_ops)] }
def MutateTellsSaid : Prop := mutateTellsRow.holds Tryd.pinned (OpenSpec.ofChange mutateTellsSpec)

/-- ITS FALSE NEIGHBOUR: 'it returns false'. Refute it at one input. -/
def mutateTellsWrong : ChangeSpec := { name := "mutateTells", fn := fun _ => fun
  | [d1, d2, d3, d4] => { results := [.lit (.bool false)], args := [d1, d2, d3, d4] }
  | _ => none }
def MutateTellsWrongFalsely : Prop := mutateTellsRow.holds Tryd.pinned (OpenSpec.ofChange mutateTellsWrong)

/-- 'assayerlaw6.ExprTwice': WHATEVER THE INPUT: true; the input reads as it did. -/
def exprTwiceSpec : ChangeSpec := { name := "exprTwice", fn := fun _ => fun
  | [d1, d2, d3, d4] => { results := [.lit (.bool true)], args := [d1, d2, d3, d4] }
  | _ => none }
def exprTwiceRow : OpenClaim := { program := "ytcifglaklligfaadoor", sum := "3574f6f2f330a12f829a58cb935dcdb0bec9d76bde50db31b03e4978899913c8", func := "assayer/assayerlaw6.ExprTwice", spec := "exprTwice", unfollowed := true, recurses := true, named := ["assayer/expr.takes"], loops := true, apart := false, laid := [("assayer/expr.takes", laid_assayer_expr_takes)] }
def ExprTwiceSaid : Prop := exprTwiceRow.holds Tryd.pinned (OpenSpec.ofChange exprTwiceSpec)

/-- ITS FALSE NEIGHBOUR: 'it returns false'. Refute it at one input. -/
def exprTwiceWrong : ChangeSpec := { name := "exprTwice", fn := fun _ => fun
  | [d1, d2, d3, d4] => { results := [.lit (.bool false)], args := [d1, d2, d3, d4] }
  | _ => none }
def ExprTwiceWrongFalsely : Prop := exprTwiceRow.holds Tryd.pinned (OpenSpec.ofChange exprTwiceWrong)

/-- 'assayerlaw6.ExprSums': WHATEVER THE INPUT: true; the input reads as it did. -/
def exprSumsSpec : ChangeSpec := { name := "exprSums", fn := fun _ => fun
  | [d] => { results := [.lit (.bool true)], args := [d] }
  | _ => none }
def exprSumsRow : OpenClaim := { program := "ytcifglaklligfaadoor", sum := "3574f6f2f330a12f829a58cb935dcdb0bec9d76bde50db31b03e4978899913c8", func := "assayer/assayerlaw6.ExprSums", spec := "exprSums", unfollowed := true, recurses := true, named := ["assayer/expr.takes"], loops := true, apart := false, laid := [("assayer/expr.takes", laid_assayer_expr_takes)] }
def ExprSumsSaid : Prop := exprSumsRow.holds Tryd.pinned (OpenSpec.ofChange exprSumsSpec)

/-- ITS FALSE NEIGHBOUR: 'it returns false'. Refute it at one input. -/
def exprSumsWrong : ChangeSpec := { name := "exprSums", fn := fun _ => fun
  | [d] => { results := [.lit (.bool false)], args := [d] }
  | _ => none }
def ExprSumsWrongFalsely : Prop := exprSumsRow.holds Tryd.pinned (OpenSpec.ofChange exprSumsWrong)

/- THE SECOND FORM. 'bulk': how many values and letters a reading holds, each counted each time it is reached (what is shared counts as often as it is met; a slice's spare places count too). A statement '..UptoSaid' is the law's where the arguments, and the package variables that the reading takes, are together of bulk at most 1048576: NARROWER than '..Said'. Prove '..Said' where nothing that the law and all that it calls make is longer than what came in: it says more and counts as full. Else prove '..UptoSaid'. A law counts once. -/
mutual
def uptoBulk {H : Type} : DataW H → Nat
  | .lit (.string bytes) => bytes.length + 1
  | .lit _ => 1
  | .nil => 1
  | .ptr d => uptoBulk d + 1
  | .slice elems spare => uptoBulkAll elems + uptoBulkAll spare + 1
  | .agg parts => uptoBulkAll parts + 1
  | .iface _ d => uptoBulk d + 1
  | .map entries => uptoBulkEntries entries + 1
  | .held _ => 1
def uptoBulkAll {H : Type} : List (DataW H) → Nat
  | [] => 0
  | d :: r => uptoBulk d + uptoBulkAll r
def uptoBulkEntries {H : Type} : List (Lit × DataW H) → Nat
  | [] => 0
  | x :: r => uptoBulkEntry x + uptoBulkEntries r
def uptoBulkEntry {H : Type} : Lit × DataW H → Nat
  | (.string bytes, d) => bytes.length + uptoBulk d + 1
  | (_, d) => uptoBulk d + 1
 end
def uptoSmall : (H : Type) → List (DataW H) → Bool := fun _ ds => decide (uptoBulkAll ds ≤ 1048576)
def OpenSpec.upto (s : _root_.Go.ChangeSpec) : _root_.Go.OpenSpec := { _root_.Go.OpenSpec.ofChange s with cond := some uptoSmall }

/-- 'assayerlaw3.MutateRight', WHERE WHAT IT READS IS OF BULK AT MOST 1048576: true; the input reads as it did. -/
def mutateRightUptoRow : OpenClaim := { program := "ytcifglaklligfaadoor", sum := "3574f6f2f330a12f829a58cb935dcdb0bec9d76bde50db31b03e4978899913c8", func := "assayer/assayerlaw3.MutateRight", spec := "mutateRight", recurses := true, named := ["assayer/expr.takes", "assayer/mutate.ops", "assayer/mutate.asks"], loops := true, apart := false, laid := [("assayer/expr.takes", laid_assayer_expr_takes), ("assayer/mutate.asks", laid_assayer_mutate_asks), ("assayer/mutate.ops", laid_assayer_mutate_ops)], narrowed := true }
def MutateRightUptoSaid : Prop := mutateRightUptoRow.holds Tryd.pinned (OpenSpec.upto mutateRightSpec)

/-- 'assayerlaw6.MutateMany', WHERE WHAT IT READS IS OF BULK AT MOST 1048576: true; the input reads as it did. -/
def mutateManyUptoRow : OpenClaim := { program := "ytcifglaklligfaadoor", sum := "3574f6f2f330a12f829a58cb935dcdb0bec9d76bde50db31b03e4978899913c8", func := "assayer/assayerlaw6.MutateMany", spec := "mutateMany", recurses := true, named := ["assayer/expr.takes", "assayer/mutate.ops", "assayer/mutate.asks"], loops := true, apart := false, laid := [("assayer/expr.takes", laid_assayer_expr_takes), ("assayer/mutate.asks", laid_assayer_mutate_asks), ("assayer/mutate.ops", laid_assayer_mutate_ops)], narrowed := true }
def MutateManyUptoSaid : Prop := mutateManyUptoRow.holds Tryd.pinned (OpenSpec.upto mutateManySpec)

/-- 'assayerlaw3.MutateKills', WHERE WHAT IT READS IS OF BULK AT MOST 1048576: true; the input reads as it did. -/
def mutateKillsUptoRow : OpenClaim := { program := "ytcifglaklligfaadoor", sum := "3574f6f2f330a12f829a58cb935dcdb0bec9d76bde50db31b03e4978899913c8", func := "assayer/assayerlaw3.MutateKills", spec := "mutateKills", unfollowed := true, recurses := true, named := ["assayer/expr.takes", "assayer/mutate.ops", "assayer/mutate.asks"], loops := true, apart := false, laid := [("assayer/expr.takes", laid_assayer_expr_takes), ("assayer/mutate.asks", laid_assayer_mutate_asks), ("assayer/mutate.ops", laid_assayer_mutate_ops)], narrowed := true }
def MutateKillsUptoSaid : Prop := mutateKillsUptoRow.holds Tryd.pinned (OpenSpec.upto mutateKillsSpec)

/-- 'assayerlaw3.MutateAlive', WHERE WHAT IT READS IS OF BULK AT MOST 1048576: true; the input reads as it did. -/
def mutateAliveUptoRow : OpenClaim := { program := "ytcifglaklligfaadoor", sum := "3574f6f2f330a12f829a58cb935dcdb0bec9d76bde50db31b03e4978899913c8", func := "assayer/assayerlaw3.MutateAlive", spec := "mutateAlive", unfollowed := true, recurses := true, named := ["assayer/expr.takes", "assayer/mutate.ops", "assayer/mutate.asks"], loops := true, apart := false, laid := [("assayer/expr.takes", laid_assayer_expr_takes), ("assayer/mutate.asks", laid_assayer_mutate_asks), ("assayer/mutate.ops", laid_assayer_mutate_ops)], narrowed := true }
def MutateAliveUptoSaid : Prop := mutateAliveUptoRow.holds Tryd.pinned (OpenSpec.upto mutateAliveSpec)

/-- 'assayerlaw5.MutateOwn', WHERE WHAT IT READS IS OF BULK AT MOST 1048576: true; the input reads as it did. -/
def mutateOwnUptoRow : OpenClaim := { program := "ytcifglaklligfaadoor", sum := "3574f6f2f330a12f829a58cb935dcdb0bec9d76bde50db31b03e4978899913c8", func := "assayer/assayerlaw5.MutateOwn", spec := "mutateOwn", inPlace := ["internal/reflectlite.ValueOf", "(internal/reflectlite.Value).Type", "(internal/reflectlite.Value).IsNil", "internal/reflectlite.TypeOf", "(internal/reflectlite.Value).Elem", "(internal/reflectlite.Value).Set"], unfollowed := true, recurses := true, named := ["assayer/expr.takes", "assayer/mutate.ops", "assayer/mutate.asks", "errors.errorType"], loops := true, apart := false, laid := [("errors.errorType", laid_errors_errorType), ("assayer/expr.takes", laid_assayer_expr_takes), ("assayer/mutate.asks", laid_assayer_mutate_asks), ("assayer/mutate.ops", laid_assayer_mutate_ops)], narrowed := true }
def MutateOwnUptoSaid : Prop := mutateOwnUptoRow.holds Tryd.pinned (OpenSpec.upto mutateOwnSpec)

/-- 'assayerlaw3.MutateTells', WHERE WHAT IT READS IS OF BULK AT MOST 1048576: true; the input reads as it did. -/
def mutateTellsUptoRow : OpenClaim := { program := "ytcifglaklligfaadoor", sum := "3574f6f2f330a12f829a58cb935dcdb0bec9d76bde50db31b03e4978899913c8", func := "assayer/assayerlaw3.MutateTells", spec := "mutateTells", inPlace := ["internal/reflectlite.ValueOf", "(internal/reflectlite.Value).Type", "(internal/reflectlite.Value).IsNil", "internal/reflectlite.TypeOf", "(internal/reflectlite.Value).Elem", "(internal/reflectlite.Value).Set"], unfollowed := true, recurses := true, named := ["assayer/expr.takes", "assayer/mutate.ops", "assayer/mutate.asks", "errors.errorType"], loops := true, apart := false, laid := [("errors.errorType", laid_errors_errorType), ("assayer/expr.takes", laid_assayer_expr_takes), ("assayer/mutate.asks", laid_assayer_mutate_asks), ("assayer/mutate.ops", laid_assayer_mutate_ops)], narrowed := true }
def MutateTellsUptoSaid : Prop := mutateTellsUptoRow.holds Tryd.pinned (OpenSpec.upto mutateTellsSpec)

/-- 'assayerlaw6.ExprTwice', WHERE WHAT IT READS IS OF BULK AT MOST 1048576: true; the input reads as it did. -/
def exprTwiceUptoRow : OpenClaim := { program := "ytcifglaklligfaadoor", sum := "3574f6f2f330a12f829a58cb935dcdb0bec9d76bde50db31b03e4978899913c8", func := "assayer/assayerlaw6.ExprTwice", spec := "exprTwice", unfollowed := true, recurses := true, named := ["assayer/expr.takes"], loops := true, apart := false, laid := [("assayer/expr.takes", laid_assayer_expr_takes)], narrowed := true }
def ExprTwiceUptoSaid : Prop := exprTwiceUptoRow.holds Tryd.pinned (OpenSpec.upto exprTwiceSpec)

/-- 'assayerlaw6.ExprSums', WHERE WHAT IT READS IS OF BULK AT MOST 1048576: true; the input reads as it did. -/
def exprSumsUptoRow : OpenClaim := { program := "ytcifglaklligfaadoor", sum := "3574f6f2f330a12f829a58cb935dcdb0bec9d76bde50db31b03e4978899913c8", func := "assayer/assayerlaw6.ExprSums", spec := "exprSums", unfollowed := true, recurses := true, named := ["assayer/expr.takes"], loops := true, apart := false, laid := [("assayer/expr.takes", laid_assayer_expr_takes)], narrowed := true }
def ExprSumsUptoSaid : Prop := exprSumsUptoRow.holds Tryd.pinned (OpenSpec.upto exprSumsSpec)

end Rows
end Go.Proofs.YtcifglaklligfaaDoor
