/-
  NARROWER THAN 'FOR EVERY INPUT', by the rows' own cells (each row's printed sentence says how): FlowOwn: laid · PairsOwn: laid · TourTurned: laid · TableAll: laid · InterOwn: laid · PathOwn: laid · GramOwn: laid.
  DERIVED. THE GIVEN ROWS OF THIS SEAT. 7 by the template 'for every input the law returns true; each argument reads behind the call as it read before'; 0 by the template 'total and deterministic' (their statements: YtkiljnggphlomaaDoorTotals.lean).
  GIVEN WITH THE SEED: the statements are not yours to turn. If you find one false, say at which input.
  Laid BY PROGRAM, IN A SANDBOX (cutbox-rows.mjs): the forced cells as the released guide's own fill.sh prints them over the translation a210a94996088b5b… (all of the seat's roots in one cut). By AI agents, Wed Nov 11 2026. No macro, syntax, notation, axiom, sorry.
-/
import Derived.Test.YtkiljnggphlomaaDoorChecked
import GoSem.Claim
import GoSem.ClaimJoined
import GoSem.ClaimMapViews
import Derived.JoinedTies
import Derived.KernelRfl
namespace Go.Proofs.YtkiljnggphlomaaDoor
/- THE CELL 'sum', in the pinned program and in every row, IS THE sha256 OF THE DUMP (.gsa) THAT YtkiljnggphlomaaDoorProg.lean LOADS. Nothing in Lean hashes anything: it is a label: what it is worth is what the hold of that sum in a sandbox is worth. -/
noncomputable def Tryd.pinned : Pinned := { name := "ytkiljnggphlomaadoor", sum := "a210a94996088b5b2840416d39999b1bcd673ac8e0c673c724d47beefb2b2b13", checked := Tryd.checked }
namespace Rows
def none {H : Type} : Left H := { results := [], args := [] }

/- WHAT THE LISTED PACKAGE-LEVEL VARIABLES READ AS WHEN THE CALL BEGINS. Each datum BY PROGRAM (the guide's laid-datum.mjs) off the statement by which the dump's own 'gosem.cut.vars' lays the variable. In a bare row this is a premise. The card (YtkiljnggphlomaaDoorCards.lean) ties it to the program's text. -/
def laid_errors_errorType {H : Type} : DataW H := .iface "internal/reflectlite.rtype" (.agg [.ptr (.lit (.string [101, 114, 114, 111, 114]))])

/-- 'assayerlaw5.FlowOwn': WHATEVER THE INPUT: true; the input reads as it did. -/
def flowOwnSpec : ChangeSpec := { name := "flowOwn", fn := fun _ => fun
  | [d1, d2, d3, d4] => { results := [.lit (.bool true)], args := [d1, d2, d3, d4] }
  | _ => none }
def flowOwnRow : OpenClaim := { program := "ytkiljnggphlomaadoor", sum := "a210a94996088b5b2840416d39999b1bcd673ac8e0c673c724d47beefb2b2b13", func := "assayer/assayerlaw5.FlowOwn", spec := "flowOwn", inPlace := ["internal/reflectlite.ValueOf", "(internal/reflectlite.Value).Type", "(internal/reflectlite.Value).IsNil", "internal/reflectlite.TypeOf", "(internal/reflectlite.Value).Elem", "(internal/reflectlite.Value).Set"], unfollowed := true, recurses := true, named := ["errors.errorType"], plainKeys := false, apart := false, laid := [("errors.errorType", laid_errors_errorType)] }
def FlowOwnSaid : Prop := flowOwnRow.holds Tryd.pinned (OpenSpec.ofChange flowOwnSpec)

/-- ITS FALSE NEIGHBOUR: 'it returns false'. Refute it at one input. -/
def flowOwnWrong : ChangeSpec := { name := "flowOwn", fn := fun _ => fun
  | [d1, d2, d3, d4] => { results := [.lit (.bool false)], args := [d1, d2, d3, d4] }
  | _ => none }
def FlowOwnWrongFalsely : Prop := flowOwnRow.holds Tryd.pinned (OpenSpec.ofChange flowOwnWrong)

/-- 'assayerlaw5.PairsOwn': WHATEVER THE INPUT: true; the input reads as it did. -/
def pairsOwnSpec : ChangeSpec := { name := "pairsOwn", fn := fun _ => fun
  | [d1, d2, d3] => { results := [.lit (.bool true)], args := [d1, d2, d3] }
  | _ => none }
def pairsOwnRow : OpenClaim := { program := "ytkiljnggphlomaadoor", sum := "a210a94996088b5b2840416d39999b1bcd673ac8e0c673c724d47beefb2b2b13", func := "assayer/assayerlaw5.PairsOwn", spec := "pairsOwn", inPlace := ["internal/reflectlite.ValueOf", "(internal/reflectlite.Value).Type", "(internal/reflectlite.Value).IsNil", "internal/reflectlite.TypeOf", "(internal/reflectlite.Value).Elem", "(internal/reflectlite.Value).Set"], unfollowed := true, recurses := true, named := ["errors.errorType"], plainKeys := false, apart := false, laid := [("errors.errorType", laid_errors_errorType)] }
def PairsOwnSaid : Prop := pairsOwnRow.holds Tryd.pinned (OpenSpec.ofChange pairsOwnSpec)

/-- ITS FALSE NEIGHBOUR: 'it returns false'. Refute it at one input. -/
def pairsOwnWrong : ChangeSpec := { name := "pairsOwn", fn := fun _ => fun
  | [d1, d2, d3] => { results := [.lit (.bool false)], args := [d1, d2, d3] }
  | _ => none }
def PairsOwnWrongFalsely : Prop := pairsOwnRow.holds Tryd.pinned (OpenSpec.ofChange pairsOwnWrong)

/-- 'assayerlaw6.TourTurned': WHATEVER THE INPUT: true; the input reads as it did. -/
def tourTurnedSpec : ChangeSpec := { name := "tourTurned", fn := fun _ => fun
  | [d1, d2] => { results := [.lit (.bool true)], args := [d1, d2] }
  | _ => none }
def tourTurnedRow : OpenClaim := { program := "ytkiljnggphlomaadoor", sum := "a210a94996088b5b2840416d39999b1bcd673ac8e0c673c724d47beefb2b2b13", func := "assayer/assayerlaw6.TourTurned", spec := "tourTurned", inPlace := ["internal/reflectlite.ValueOf", "(internal/reflectlite.Value).Type", "(internal/reflectlite.Value).IsNil", "internal/reflectlite.TypeOf", "(internal/reflectlite.Value).Elem", "(internal/reflectlite.Value).Set"], unfollowed := true, recurses := true, named := ["errors.errorType"], plainKeys := false, apart := false, laid := [("errors.errorType", laid_errors_errorType)] }
def TourTurnedSaid : Prop := tourTurnedRow.holds Tryd.pinned (OpenSpec.ofChange tourTurnedSpec)

/-- ITS FALSE NEIGHBOUR: 'it returns false'. Refute it at one input. -/
def tourTurnedWrong : ChangeSpec := { name := "tourTurned", fn := fun _ => fun
  | [d1, d2] => { results := [.lit (.bool false)], args := [d1, d2] }
  | _ => none }
def TourTurnedWrongFalsely : Prop := tourTurnedRow.holds Tryd.pinned (OpenSpec.ofChange tourTurnedWrong)

/-- 'assayerlaw6.TableAll': WHATEVER THE INPUT: true; the input reads as it did. -/
def tableAllSpec : ChangeSpec := { name := "tableAll", fn := fun _ => fun
  | [d1, d2] => { results := [.lit (.bool true)], args := [d1, d2] }
  | _ => none }
def tableAllRow : OpenClaim := { program := "ytkiljnggphlomaadoor", sum := "a210a94996088b5b2840416d39999b1bcd673ac8e0c673c724d47beefb2b2b13", func := "assayer/assayerlaw6.TableAll", spec := "tableAll", inPlace := ["internal/reflectlite.ValueOf", "(internal/reflectlite.Value).Type", "(internal/reflectlite.Value).IsNil", "internal/reflectlite.TypeOf", "(internal/reflectlite.Value).Elem", "(internal/reflectlite.Value).Set"], unfollowed := true, recurses := true, named := ["errors.errorType"], plainKeys := false, apart := false, laid := [("errors.errorType", laid_errors_errorType)] }
def TableAllSaid : Prop := tableAllRow.holds Tryd.pinned (OpenSpec.ofChange tableAllSpec)

/-- ITS FALSE NEIGHBOUR: 'it returns false'. Refute it at one input. -/
def tableAllWrong : ChangeSpec := { name := "tableAll", fn := fun _ => fun
  | [d1, d2] => { results := [.lit (.bool false)], args := [d1, d2] }
  | _ => none }
def TableAllWrongFalsely : Prop := tableAllRow.holds Tryd.pinned (OpenSpec.ofChange tableAllWrong)

/-- 'assayerlaw5.InterOwn': WHATEVER THE INPUT: true; the input reads as it did. -/
def interOwnSpec : ChangeSpec := { name := "interOwn", fn := fun _ => fun
  | [d1, d2, d3, d4] => { results := [.lit (.bool true)], args := [d1, d2, d3, d4] }
  | _ => none }
def interOwnRow : OpenClaim := { program := "ytkiljnggphlomaadoor", sum := "a210a94996088b5b2840416d39999b1bcd673ac8e0c673c724d47beefb2b2b13", func := "assayer/assayerlaw5.InterOwn", spec := "interOwn", inPlace := ["internal/reflectlite.ValueOf", "(internal/reflectlite.Value).Type", "(internal/reflectlite.Value).IsNil", "internal/reflectlite.TypeOf", "(internal/reflectlite.Value).Elem", "(internal/reflectlite.Value).Set"], unfollowed := true, recurses := true, named := ["errors.errorType"], plainKeys := false, apart := false, laid := [("errors.errorType", laid_errors_errorType)] }
def InterOwnSaid : Prop := interOwnRow.holds Tryd.pinned (OpenSpec.ofChange interOwnSpec)

/-- ITS FALSE NEIGHBOUR: 'it returns false'. Refute it at one input. -/
def interOwnWrong : ChangeSpec := { name := "interOwn", fn := fun _ => fun
  | [d1, d2, d3, d4] => { results := [.lit (.bool false)], args := [d1, d2, d3, d4] }
  | _ => none }
def InterOwnWrongFalsely : Prop := interOwnRow.holds Tryd.pinned (OpenSpec.ofChange interOwnWrong)

/-- 'assayerlaw5.PathOwn': WHATEVER THE INPUT: true; the input reads as it did. -/
def pathOwnSpec : ChangeSpec := { name := "pathOwn", fn := fun _ => fun
  | [d1, d2, d3, d4] => { results := [.lit (.bool true)], args := [d1, d2, d3, d4] }
  | _ => none }
def pathOwnRow : OpenClaim := { program := "ytkiljnggphlomaadoor", sum := "a210a94996088b5b2840416d39999b1bcd673ac8e0c673c724d47beefb2b2b13", func := "assayer/assayerlaw5.PathOwn", spec := "pathOwn", inPlace := ["internal/reflectlite.ValueOf", "(internal/reflectlite.Value).Type", "(internal/reflectlite.Value).IsNil", "internal/reflectlite.TypeOf", "(internal/reflectlite.Value).Elem", "(internal/reflectlite.Value).Set"], unfollowed := true, recurses := true, named := ["errors.errorType"], plainKeys := false, apart := false, laid := [("errors.errorType", laid_errors_errorType)] }
def PathOwnSaid : Prop := pathOwnRow.holds Tryd.pinned (OpenSpec.ofChange pathOwnSpec)

/-- ITS FALSE NEIGHBOUR: 'it returns false'. Refute it at one input. -/
def pathOwnWrong : ChangeSpec := { name := "pathOwn", fn := fun _ => fun
  | [d1, d2, d3, d4] => { results := [.lit (.bool false)], args := [d1, d2, d3, d4] }
  | _ => none }
def PathOwnWrongFalsely : Prop := pathOwnRow.holds Tryd.pinned (OpenSpec.ofChange pathOwnWrong)

/-- 'assayerlaw5.GramOwn': WHATEVER THE INPUT: true; the input reads as it did. -/
def gramOwnSpec : ChangeSpec := { name := "gramOwn", fn := fun _ => fun
  | [d1, d2, d3] => { results := [.lit (.bool true)], args := [d1, d2, d3] }
  | _ => none }
def gramOwnRow : OpenClaim := { program := "ytkiljnggphlomaadoor", sum := "a210a94996088b5b2840416d39999b1bcd673ac8e0c673c724d47beefb2b2b13", func := "assayer/assayerlaw5.GramOwn", spec := "gramOwn", inPlace := ["internal/reflectlite.ValueOf", "(internal/reflectlite.Value).Type", "(internal/reflectlite.Value).IsNil", "internal/reflectlite.TypeOf", "(internal/reflectlite.Value).Elem", "(internal/reflectlite.Value).Set"], unfollowed := true, recurses := true, named := ["errors.errorType"], plainKeys := false, apart := false, laid := [("errors.errorType", laid_errors_errorType)] }
def GramOwnSaid : Prop := gramOwnRow.holds Tryd.pinned (OpenSpec.ofChange gramOwnSpec)

/-- ITS FALSE NEIGHBOUR: 'it returns false'. Refute it at one input. -/
def gramOwnWrong : ChangeSpec := { name := "gramOwn", fn := fun _ => fun
  | [d1, d2, d3] => { results := [.lit (.bool false)], args := [d1, d2, d3] }
  | _ => none }
def GramOwnWrongFalsely : Prop := gramOwnRow.holds Tryd.pinned (OpenSpec.ofChange gramOwnWrong)

/- THE SECOND FORM. 'bulk': how many values and letters a reading holds, each counted each time it is reached (what is shared counts as often as it is met; a slice's spare places count too). A statement '..UptoSaid' is the law's where the arguments, and the package variables that the reading takes, are together of bulk at most 1048576: NARROWER than '..Said'. Prove '..Said' where nothing that the law and all that it calls make is longer than what came in: it says more and counts as full. Else prove '..UptoSaid'. A law counts once. -/
mutual
def uptoBulk {H : Type} : DataW H → Nat
  | .lit (.string bytes) => bytes.length + 1
  | .lit _ => 1
  | .nil => 1
  | .ptr d => uptoBulk d + 1
  | .slice elems spare => uptoBulkAll elems + uptoBulkAll spare + 1
  | .agg parts => uptoBulkAll parts + 1
  | .iface _ d => uptoBulk d + 1
  | .map entries => uptoBulkEntries entries + 1
  | .held _ => 1
def uptoBulkAll {H : Type} : List (DataW H) → Nat
  | [] => 0
  | d :: r => uptoBulk d + uptoBulkAll r
def uptoBulkEntries {H : Type} : List (Lit × DataW H) → Nat
  | [] => 0
  | x :: r => uptoBulkEntry x + uptoBulkEntries r
def uptoBulkEntry {H : Type} : Lit × DataW H → Nat
  | (.string bytes, d) => bytes.length + uptoBulk d + 1
  | (_, d) => uptoBulk d + 1
 end
def uptoSmall : (H : Type) → List (DataW H) → Bool := fun _ ds => decide (uptoBulkAll ds ≤ 1048576)
def OpenSpec.upto (s : _root_.Go.ChangeSpec) : _root_.Go.OpenSpec := { _root_.Go.OpenSpec.ofChange s with cond := some uptoSmall }

/-- 'assayerlaw5.FlowOwn', WHERE WHAT IT READS IS OF BULK AT MOST 1048576: true; the input reads as it did. -/
def flowOwnUptoRow : OpenClaim := { program := "ytkiljnggphlomaadoor", sum := "a210a94996088b5b2840416d39999b1bcd673ac8e0c673c724d47beefb2b2b13", func := "assayer/assayerlaw5.FlowOwn", spec := "flowOwn", inPlace := ["internal/reflectlite.ValueOf", "(internal/reflectlite.Value).Type", "(internal/reflectlite.Value).IsNil", "internal/reflectlite.TypeOf", "(internal/reflectlite.Value).Elem", "(internal/reflectlite.Value).Set"], unfollowed := true, recurses := true, named := ["errors.errorType"], plainKeys := false, apart := false, laid := [("errors.errorType", laid_errors_errorType)], narrowed := true }
def FlowOwnUptoSaid : Prop := flowOwnUptoRow.holds Tryd.pinned (OpenSpec.upto flowOwnSpec)

/-- 'assayerlaw5.PairsOwn', WHERE WHAT IT READS IS OF BULK AT MOST 1048576: true; the input reads as it did. -/
def pairsOwnUptoRow : OpenClaim := { program := "ytkiljnggphlomaadoor", sum := "a210a94996088b5b2840416d39999b1bcd673ac8e0c673c724d47beefb2b2b13", func := "assayer/assayerlaw5.PairsOwn", spec := "pairsOwn", inPlace := ["internal/reflectlite.ValueOf", "(internal/reflectlite.Value).Type", "(internal/reflectlite.Value).IsNil", "internal/reflectlite.TypeOf", "(internal/reflectlite.Value).Elem", "(internal/reflectlite.Value).Set"], unfollowed := true, recurses := true, named := ["errors.errorType"], plainKeys := false, apart := false, laid := [("errors.errorType", laid_errors_errorType)], narrowed := true }
def PairsOwnUptoSaid : Prop := pairsOwnUptoRow.holds Tryd.pinned (OpenSpec.upto pairsOwnSpec)

/-- 'assayerlaw6.TourTurned', WHERE WHAT IT READS IS OF BULK AT MOST 1048576: true; the input reads as it did. -/
def tourTurnedUptoRow : OpenClaim := { program := "ytkiljnggphlomaadoor", sum := "a210a94996088b5b2840416d39999b1bcd673ac8e0c673c724d47beefb2b2b13", func := "assayer/assayerlaw6.TourTurned", spec := "tourTurned", inPlace := ["internal/reflectlite.ValueOf", "(internal/reflectlite.Value).Type", "(internal/reflectlite.Value).IsNil", "internal/reflectlite.TypeOf", "(internal/reflectlite.Value).Elem", "(internal/reflectlite.Value).Set"], unfollowed := true, recurses := true, named := ["errors.errorType"], plainKeys := false, apart := false, laid := [("errors.errorType", laid_errors_errorType)], narrowed := true }
def TourTurnedUptoSaid : Prop := tourTurnedUptoRow.holds Tryd.pinned (OpenSpec.upto tourTurnedSpec)

/-- 'assayerlaw6.TableAll', WHERE WHAT IT READS IS OF BULK AT MOST 1048576: true; the input reads as it did. -/
def tableAllUptoRow : OpenClaim := { program := "ytkiljnggphlomaadoor", sum := "a210a94996088b5b2840416d39999b1bcd673ac8e0c673c724d47beefb2b2b13", func := "assayer/assayerlaw6.TableAll", spec := "tableAll", inPlace := ["internal/reflectlite.ValueOf", "(internal/reflectlite.Value).Type", "(internal/reflectlite.Value).IsNil", "internal/reflectlite.TypeOf", "(internal/reflectlite.Value).Elem", "(internal/reflectlite.Value).Set"], unfollowed := true, recurses := true, named := ["errors.errorType"], plainKeys := false, apart := false, laid := [("errors.errorType", laid_errors_errorType)], narrowed := true }
def TableAllUptoSaid : Prop := tableAllUptoRow.holds Tryd.pinned (OpenSpec.upto tableAllSpec)

/-- 'assayerlaw5.InterOwn', WHERE WHAT IT READS IS OF BULK AT MOST 1048576: true; the input reads as it did. -/
def interOwnUptoRow : OpenClaim := { program := "ytkiljnggphlomaadoor", sum := "a210a94996088b5b2840416d39999b1bcd673ac8e0c673c724d47beefb2b2b13", func := "assayer/assayerlaw5.InterOwn", spec := "interOwn", inPlace := ["internal/reflectlite.ValueOf", "(internal/reflectlite.Value).Type", "(internal/reflectlite.Value).IsNil", "internal/reflectlite.TypeOf", "(internal/reflectlite.Value).Elem", "(internal/reflectlite.Value).Set"], unfollowed := true, recurses := true, named := ["errors.errorType"], plainKeys := false, apart := false, laid := [("errors.errorType", laid_errors_errorType)], narrowed := true }
def InterOwnUptoSaid : Prop := interOwnUptoRow.holds Tryd.pinned (OpenSpec.upto interOwnSpec)

/-- 'assayerlaw5.PathOwn', WHERE WHAT IT READS IS OF BULK AT MOST 1048576: true; the input reads as it did. -/
def pathOwnUptoRow : OpenClaim := { program := "ytkiljnggphlomaadoor", sum := "a210a94996088b5b2840416d39999b1bcd673ac8e0c673c724d47beefb2b2b13", func := "assayer/assayerlaw5.PathOwn", spec := "pathOwn", inPlace := ["internal/reflectlite.ValueOf", "(internal/reflectlite.Value).Type", "(internal/reflectlite.Value).IsNil", "internal/reflectlite.TypeOf", "(internal/reflectlite.Value).Elem", "(internal/reflectlite.Value).Set"], unfollowed := true, recurses := true, named := ["errors.errorType"], plainKeys := false, apart := false, laid := [("errors.errorType", laid_errors_errorType)], narrowed := true }
def PathOwnUptoSaid : Prop := pathOwnUptoRow.holds Tryd.pinned (OpenSpec.upto pathOwnSpec)

/-- 'assayerlaw5.GramOwn', WHERE WHAT IT READS IS OF BULK AT MOST 1048576: true; the input reads as it did. -/
def gramOwnUptoRow : OpenClaim := { program := "ytkiljnggphlomaadoor", sum := "a210a94996088b5b2840416d39999b1bcd673ac8e0c673c724d47beefb2b2b13", func := "assayer/assayerlaw5.GramOwn", spec := "gramOwn", inPlace := ["internal/reflectlite.ValueOf", "(internal/reflectlite.Value).Type", "(internal/reflectlite.Value).IsNil", "internal/reflectlite.TypeOf", "(internal/reflectlite.Value).Elem", "(internal/reflectlite.Value).Set"], unfollowed := true, recurses := true, named := ["errors.errorType"], plainKeys := false, apart := false, laid := [("errors.errorType", laid_errors_errorType)], narrowed := true }
def GramOwnUptoSaid : Prop := gramOwnUptoRow.holds Tryd.pinned (OpenSpec.upto gramOwnSpec)

end Rows
end Go.Proofs.YtkiljnggphlomaaDoor
