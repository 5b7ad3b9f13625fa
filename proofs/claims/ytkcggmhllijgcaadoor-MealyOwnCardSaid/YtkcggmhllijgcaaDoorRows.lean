/-
  NARROWER THAN 'FOR EVERY INPUT', by the rows' own cells (each row's printed sentence says how): LearnRange: laid · LearnSame: laid · WsetChow: laid · MealyOwn: laid.
  DERIVED. THE GIVEN ROWS OF THIS SEAT. 4 by the template 'for every input the law returns true; each argument reads behind the call as it read before'; 0 by the template 'total and deterministic' (their statements: YtkcggmhllijgcaaDoorTotals.lean).
  GIVEN WITH THE SEED: the statements are not yours to turn. If you find one false, say at which input.
  Laid BY PROGRAM, IN A SANDBOX (cutbox-rows.mjs): the forced cells as the released guide's own fill.sh prints them over the translation b830c93d3a2ee547… (all of the seat's roots in one cut). By AI agents, Wed Nov 11 2026. No macro, syntax, notation, axiom, sorry.
-/
import Derived.Test.YtkcggmhllijgcaaDoorChecked
import GoSem.Claim
import GoSem.ClaimJoined
import GoSem.ClaimMapViews
import Derived.JoinedTies
import Derived.KernelRfl
namespace Go.Proofs.YtkcggmhllijgcaaDoor
/- THE CELL 'sum', in the pinned program and in every row, IS THE sha256 OF THE DUMP (.gsa) THAT YtkcggmhllijgcaaDoorProg.lean LOADS. Nothing in Lean hashes anything: it is a label: what it is worth is what the hold of that sum in a sandbox is worth. -/
noncomputable def Tryd.pinned : Pinned := { name := "ytkcggmhllijgcaadoor", sum := "b830c93d3a2ee547cb48aade1fdb504ab713506fd72df86b857947f703739676", checked := Tryd.checked }
namespace Rows
def none {H : Type} : Left H := { results := [], args := [] }

/- WHAT THE LISTED PACKAGE-LEVEL VARIABLES READ AS WHEN THE CALL BEGINS. Each datum BY PROGRAM (the guide's laid-datum.mjs) off the statement by which the dump's own 'gosem.cut.vars' lays the variable. In a bare row this is a premise. The card (YtkcggmhllijgcaaDoorCards.lean) ties it to the program's text. -/
def laid_errors_errorType {H : Type} : DataW H := .iface "internal/reflectlite.rtype" (.agg [.ptr (.lit (.string [101, 114, 114, 111, 114]))])

/-- 'assayerlaw3.LearnRange': WHATEVER THE INPUT: true; the input reads as it did. -/
def learnRangeSpec : ChangeSpec := { name := "learnRange", fn := fun _ => fun
  | [d] => { results := [.lit (.bool true)], args := [d] }
  | _ => none }
def learnRangeRow : OpenClaim := { program := "ytkcggmhllijgcaadoor", sum := "b830c93d3a2ee547cb48aade1fdb504ab713506fd72df86b857947f703739676", func := "assayer/assayerlaw3.LearnRange", spec := "learnRange", inPlace := ["internal/reflectlite.ValueOf", "(internal/reflectlite.Value).Type", "(internal/reflectlite.Value).IsNil", "internal/reflectlite.TypeOf", "(internal/reflectlite.Value).Elem", "(internal/reflectlite.Value).Set"], unfollowed := true, recurses := true, named := ["errors.errorType"], plainKeys := false, apart := false, laid := [("errors.errorType", laid_errors_errorType)] }
def LearnRangeSaid : Prop := learnRangeRow.holds Tryd.pinned (OpenSpec.ofChange learnRangeSpec)

/-- ITS FALSE NEIGHBOUR: 'it returns false'. Refute it at one input. -/
def learnRangeWrong : ChangeSpec := { name := "learnRange", fn := fun _ => fun
  | [d] => { results := [.lit (.bool false)], args := [d] }
  | _ => none }
def LearnRangeWrongFalsely : Prop := learnRangeRow.holds Tryd.pinned (OpenSpec.ofChange learnRangeWrong)

/-- 'assayerlaw3.LearnSame': WHATEVER THE INPUT: true; the input reads as it did. -/
def learnSameSpec : ChangeSpec := { name := "learnSame", fn := fun _ => fun
  | [d1, d2] => { results := [.lit (.bool true)], args := [d1, d2] }
  | _ => none }
def learnSameRow : OpenClaim := { program := "ytkcggmhllijgcaadoor", sum := "b830c93d3a2ee547cb48aade1fdb504ab713506fd72df86b857947f703739676", func := "assayer/assayerlaw3.LearnSame", spec := "learnSame", inPlace := ["internal/reflectlite.ValueOf", "(internal/reflectlite.Value).Type", "(internal/reflectlite.Value).IsNil", "internal/reflectlite.TypeOf", "(internal/reflectlite.Value).Elem", "(internal/reflectlite.Value).Set"], unfollowed := true, recurses := true, named := ["errors.errorType"], plainKeys := false, apart := false, laid := [("errors.errorType", laid_errors_errorType)] }
def LearnSameSaid : Prop := learnSameRow.holds Tryd.pinned (OpenSpec.ofChange learnSameSpec)

/-- ITS FALSE NEIGHBOUR: 'it returns false'. Refute it at one input. -/
def learnSameWrong : ChangeSpec := { name := "learnSame", fn := fun _ => fun
  | [d1, d2] => { results := [.lit (.bool false)], args := [d1, d2] }
  | _ => none }
def LearnSameWrongFalsely : Prop := learnSameRow.holds Tryd.pinned (OpenSpec.ofChange learnSameWrong)

/-- 'assayerlaw3.WsetChow': WHATEVER THE INPUT: true; the input reads as it did. -/
def wsetChowSpec : ChangeSpec := { name := "wsetChow", fn := fun _ => fun
  | [d1, d2, d3] => { results := [.lit (.bool true)], args := [d1, d2, d3] }
  | _ => none }
def wsetChowRow : OpenClaim := { program := "ytkcggmhllijgcaadoor", sum := "b830c93d3a2ee547cb48aade1fdb504ab713506fd72df86b857947f703739676", func := "assayer/assayerlaw3.WsetChow", spec := "wsetChow", inPlace := ["internal/reflectlite.ValueOf", "(internal/reflectlite.Value).Type", "(internal/reflectlite.Value).IsNil", "internal/reflectlite.TypeOf", "(internal/reflectlite.Value).Elem", "(internal/reflectlite.Value).Set"], unfollowed := true, recurses := true, named := ["errors.errorType"], plainKeys := false, apart := false, laid := [("errors.errorType", laid_errors_errorType)] }
def WsetChowSaid : Prop := wsetChowRow.holds Tryd.pinned (OpenSpec.ofChange wsetChowSpec)

/-- ITS FALSE NEIGHBOUR: 'it returns false'. Refute it at one input. -/
def wsetChowWrong : ChangeSpec := { name := "wsetChow", fn := fun _ => fun
  | [d1, d2, d3] => { results := [.lit (.bool false)], args := [d1, d2, d3] }
  | _ => none }
def WsetChowWrongFalsely : Prop := wsetChowRow.holds Tryd.pinned (OpenSpec.ofChange wsetChowWrong)

/-- 'assayerlaw5.MealyOwn': WHATEVER THE INPUT: true; the input reads as it did. -/
def mealyOwnSpec : ChangeSpec := { name := "mealyOwn", fn := fun _ => fun
  | [d1, d2, d3] => { results := [.lit (.bool true)], args := [d1, d2, d3] }
  | _ => none }
def mealyOwnRow : OpenClaim := { program := "ytkcggmhllijgcaadoor", sum := "b830c93d3a2ee547cb48aade1fdb504ab713506fd72df86b857947f703739676", func := "assayer/assayerlaw5.MealyOwn", spec := "mealyOwn", inPlace := ["internal/reflectlite.ValueOf", "(internal/reflectlite.Value).Type", "(internal/reflectlite.Value).IsNil", "internal/reflectlite.TypeOf", "(internal/reflectlite.Value).Elem", "(internal/reflectlite.Value).Set"], unfollowed := true, recurses := true, named := ["errors.errorType"], plainKeys := false, apart := false, laid := [("errors.errorType", laid_errors_errorType)] }
def MealyOwnSaid : Prop := mealyOwnRow.holds Tryd.pinned (OpenSpec.ofChange mealyOwnSpec)

/-- ITS FALSE NEIGHBOUR: 'it returns false'. Refute it at one input. -/
def mealyOwnWrong : ChangeSpec := { name := "mealyOwn", fn := fun _ => fun
  | [d1, d2, d3] => { results := [.lit (.bool false)], args := [d1, d2, d3] }
  | _ => none }
def MealyOwnWrongFalsely : Prop := mealyOwnRow.holds Tryd.pinned (OpenSpec.ofChange mealyOwnWrong)

/- THE SECOND FORM. 'bulk': how many values and letters a reading holds, each counted each time it is reached (what is shared counts as often as it is met; a slice's spare places count too). A statement '..UptoSaid' is the law's where the arguments, and the package variables that the reading takes, are together of bulk at most 1048576: NARROWER than '..Said'. Prove '..Said' where nothing that the law and all that it calls make is longer than what came in: it says more and counts as full. Else prove '..UptoSaid'. A law counts once. -/
mutual
def uptoBulk {H : Type} : DataW H → Nat
  | .lit (.string bytes) => bytes.length + 1
  | .lit _ => 1
  | .nil => 1
  | .ptr d => uptoBulk d + 1
  | .slice elems spare => uptoBulkAll elems + uptoBulkAll spare + 1
  | .agg parts => uptoBulkAll parts + 1
  | .iface _ d => uptoBulk d + 1
  | .map entries => uptoBulkEntries entries + 1
  | .held _ => 1
def uptoBulkAll {H : Type} : List (DataW H) → Nat
  | [] => 0
  | d :: r => uptoBulk d + uptoBulkAll r
def uptoBulkEntries {H : Type} : List (Lit × DataW H) → Nat
  | [] => 0
  | x :: r => uptoBulkEntry x + uptoBulkEntries r
def uptoBulkEntry {H : Type} : Lit × DataW H → Nat
  | (.string bytes, d) => bytes.length + uptoBulk d + 1
  | (_, d) => uptoBulk d + 1
 end
def uptoSmall : (H : Type) → List (DataW H) → Bool := fun _ ds => decide (uptoBulkAll ds ≤ 1048576)
def OpenSpec.upto (s : _root_.Go.ChangeSpec) : _root_.Go.OpenSpec := { _root_.Go.OpenSpec.ofChange s with cond := some uptoSmall }

/-- 'assayerlaw3.LearnRange', WHERE WHAT IT READS IS OF BULK AT MOST 1048576: true; the input reads as it did. -/
def learnRangeUptoRow : OpenClaim := { program := "ytkcggmhllijgcaadoor", sum := "b830c93d3a2ee547cb48aade1fdb504ab713506fd72df86b857947f703739676", func := "assayer/assayerlaw3.LearnRange", spec := "learnRange", inPlace := ["internal/reflectlite.ValueOf", "(internal/reflectlite.Value).Type", "(internal/reflectlite.Value).IsNil", "internal/reflectlite.TypeOf", "(internal/reflectlite.Value).Elem", "(internal/reflectlite.Value).Set"], unfollowed := true, recurses := true, named := ["errors.errorType"], plainKeys := false, apart := false, laid := [("errors.errorType", laid_errors_errorType)], narrowed := true }
def LearnRangeUptoSaid : Prop := learnRangeUptoRow.holds Tryd.pinned (OpenSpec.upto learnRangeSpec)

/-- 'assayerlaw3.LearnSame', WHERE WHAT IT READS IS OF BULK AT MOST 1048576: true; the input reads as it did. -/
def learnSameUptoRow : OpenClaim := { program := "ytkcggmhllijgcaadoor", sum := "b830c93d3a2ee547cb48aade1fdb504ab713506fd72df86b857947f703739676", func := "assayer/assayerlaw3.LearnSame", spec := "learnSame", inPlace := ["internal/reflectlite.ValueOf", "(internal/reflectlite.Value).Type", "(internal/reflectlite.Value).IsNil", "internal/reflectlite.TypeOf", "(internal/reflectlite.Value).Elem", "(internal/reflectlite.Value).Set"], unfollowed := true, recurses := true, named := ["errors.errorType"], plainKeys := false, apart := false, laid := [("errors.errorType", laid_errors_errorType)], narrowed := true }
def LearnSameUptoSaid : Prop := learnSameUptoRow.holds Tryd.pinned (OpenSpec.upto learnSameSpec)

/-- 'assayerlaw3.WsetChow', WHERE WHAT IT READS IS OF BULK AT MOST 1048576: true; the input reads as it did. -/
def wsetChowUptoRow : OpenClaim := { program := "ytkcggmhllijgcaadoor", sum := "b830c93d3a2ee547cb48aade1fdb504ab713506fd72df86b857947f703739676", func := "assayer/assayerlaw3.WsetChow", spec := "wsetChow", inPlace := ["internal/reflectlite.ValueOf", "(internal/reflectlite.Value).Type", "(internal/reflectlite.Value).IsNil", "internal/reflectlite.TypeOf", "(internal/reflectlite.Value).Elem", "(internal/reflectlite.Value).Set"], unfollowed := true, recurses := true, named := ["errors.errorType"], plainKeys := false, apart := false, laid := [("errors.errorType", laid_errors_errorType)], narrowed := true }
def WsetChowUptoSaid : Prop := wsetChowUptoRow.holds Tryd.pinned (OpenSpec.upto wsetChowSpec)

/-- 'assayerlaw5.MealyOwn', WHERE WHAT IT READS IS OF BULK AT MOST 1048576: true; the input reads as it did. -/
def mealyOwnUptoRow : OpenClaim := { program := "ytkcggmhllijgcaadoor", sum := "b830c93d3a2ee547cb48aade1fdb504ab713506fd72df86b857947f703739676", func := "assayer/assayerlaw5.MealyOwn", spec := "mealyOwn", inPlace := ["internal/reflectlite.ValueOf", "(internal/reflectlite.Value).Type", "(internal/reflectlite.Value).IsNil", "internal/reflectlite.TypeOf", "(internal/reflectlite.Value).Elem", "(internal/reflectlite.Value).Set"], unfollowed := true, recurses := true, named := ["errors.errorType"], plainKeys := false, apart := false, laid := [("errors.errorType", laid_errors_errorType)], narrowed := true }
def MealyOwnUptoSaid : Prop := mealyOwnUptoRow.holds Tryd.pinned (OpenSpec.upto mealyOwnSpec)

end Rows
end Go.Proofs.YtkcggmhllijgcaaDoor
