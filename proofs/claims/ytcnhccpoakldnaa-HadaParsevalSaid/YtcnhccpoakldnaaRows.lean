/-
  No cell of these rows narrows 'for every input' (looked for: loops, veiled, ifaces, maps, wideKeys, modest, calm, conditions, laid).
  DERIVED. THE GIVEN ROWS OF THIS SEAT. 3 by the template 'for every input the law returns true; each argument reads behind the call as it read before'; 0 by the template 'total and deterministic' (their statements: YtcnhccpoakldnaaTotals.lean).
  GIVEN WITH THE SEED: the statements are not yours to turn. If you find one false, say at which input.
  Laid BY PROGRAM, IN A SANDBOX (cutbox-rows.mjs): the forced cells as the released guide's own fill.sh prints them over the translation 9a36bcdef17ff9b3… (all of the seat's roots in one cut). By AI agents, Wed Nov 11 2026. No macro, syntax, notation, axiom, sorry.
-/
import Derived.Test.YtcnhccpoakldnaaChecked
import GoSem.Claim
import GoSem.ClaimJoined
import GoSem.ClaimMapViews
import Derived.JoinedTies
import Derived.KernelRfl
namespace Go.Proofs.Ytcnhccpoakldnaa
/- THE CELL 'sum', in the pinned program and in every row, IS THE sha256 OF THE DUMP (.gsa) THAT YtcnhccpoakldnaaProg.lean LOADS. Nothing in Lean hashes anything: it is a label: what it is worth is what the hold of that sum in a sandbox is worth. -/
noncomputable def Try.pinned : Pinned := { name := "ytcnhccpoakldnaa", sum := "9a36bcdef17ff9b3155e387fd92c1898fdb24d9d4d3f1ee04c402b49649e6ab4", checked := Try.checked }
namespace Rows
def none {H : Type} : Left H := { results := [], args := [] }

/-- 'assayerlaw6.RngSteps': WHATEVER THE INPUT: true; the input reads as it did. -/
def rngStepsSpec : ChangeSpec := { name := "rngSteps", fn := fun _ => fun
  | [d1, d2] => { results := [.lit (.bool true)], args := [d1, d2] }
  | _ => none }
def rngStepsRow : OpenClaim := { program := "ytcnhccpoakldnaa", sum := "9a36bcdef17ff9b3155e387fd92c1898fdb24d9d4d3f1ee04c402b49649e6ab4", func := "assayer/assayerlaw6.RngSteps", spec := "rngSteps", apart := false }
def RngStepsSaid : Prop := rngStepsRow.holds Try.pinned (OpenSpec.ofChange rngStepsSpec)

/-- ITS FALSE NEIGHBOUR: 'it returns false'. Refute it at one input. -/
def rngStepsWrong : ChangeSpec := { name := "rngSteps", fn := fun _ => fun
  | [d1, d2] => { results := [.lit (.bool false)], args := [d1, d2] }
  | _ => none }
def RngStepsWrongFalsely : Prop := rngStepsRow.holds Try.pinned (OpenSpec.ofChange rngStepsWrong)

/-- 'assayerlaw6.HadaParseval': WHATEVER THE INPUT: true; the input reads as it did. -/
def hadaParsevalSpec : ChangeSpec := { name := "hadaParseval", fn := fun _ => fun
  | [d1, d2] => { results := [.lit (.bool true)], args := [d1, d2] }
  | _ => none }
def hadaParsevalRow : OpenClaim := { program := "ytcnhccpoakldnaa", sum := "9a36bcdef17ff9b3155e387fd92c1898fdb24d9d4d3f1ee04c402b49649e6ab4", func := "assayer/assayerlaw6.HadaParseval", spec := "hadaParseval", apart := false }
def HadaParsevalSaid : Prop := hadaParsevalRow.holds Try.pinned (OpenSpec.ofChange hadaParsevalSpec)

/-- ITS FALSE NEIGHBOUR: 'it returns false'. Refute it at one input. -/
def hadaParsevalWrong : ChangeSpec := { name := "hadaParseval", fn := fun _ => fun
  | [d1, d2] => { results := [.lit (.bool false)], args := [d1, d2] }
  | _ => none }
def HadaParsevalWrongFalsely : Prop := hadaParsevalRow.holds Try.pinned (OpenSpec.ofChange hadaParsevalWrong)

/-- 'assayerlaw6.BoundPieces': WHATEVER THE INPUT: true; the input reads as it did. -/
def boundPiecesSpec : ChangeSpec := { name := "boundPieces", fn := fun _ => fun
  | [d1, d2] => { results := [.lit (.bool true)], args := [d1, d2] }
  | _ => none }
def boundPiecesRow : OpenClaim := { program := "ytcnhccpoakldnaa", sum := "9a36bcdef17ff9b3155e387fd92c1898fdb24d9d4d3f1ee04c402b49649e6ab4", func := "assayer/assayerlaw6.BoundPieces", spec := "boundPieces", apart := false }
def BoundPiecesSaid : Prop := boundPiecesRow.holds Try.pinned (OpenSpec.ofChange boundPiecesSpec)

/-- ITS FALSE NEIGHBOUR: 'it returns false'. Refute it at one input. -/
def boundPiecesWrong : ChangeSpec := { name := "boundPieces", fn := fun _ => fun
  | [d1, d2] => { results := [.lit (.bool false)], args := [d1, d2] }
  | _ => none }
def BoundPiecesWrongFalsely : Prop := boundPiecesRow.holds Try.pinned (OpenSpec.ofChange boundPiecesWrong)

/- THE SECOND FORM. 'bulk': how many values and letters a reading holds, each counted each time it is reached (what is shared counts as often as it is met; a slice's spare places count too). A statement '..UptoSaid' is the law's where the arguments, and the package variables that the reading takes, are together of bulk at most 1048576: NARROWER than '..Said'. Prove '..Said' where nothing that the law and all that it calls make is longer than what came in: it says more and counts as full. Else prove '..UptoSaid'. A law counts once. -/
mutual
def uptoBulk {H : Type} : DataW H → Nat
  | .lit (.string bytes) => bytes.length + 1
  | .lit _ => 1
  | .nil => 1
  | .ptr d => uptoBulk d + 1
  | .slice elems spare => uptoBulkAll elems + uptoBulkAll spare + 1
  | .agg parts => uptoBulkAll parts + 1
  | .iface _ d => uptoBulk d + 1
  | .map entries => uptoBulkEntries entries + 1
  | .held _ => 1
def uptoBulkAll {H : Type} : List (DataW H) → Nat
  | [] => 0
  | d :: r => uptoBulk d + uptoBulkAll r
def uptoBulkEntries {H : Type} : List (Lit × DataW H) → Nat
  | [] => 0
  | x :: r => uptoBulkEntry x + uptoBulkEntries r
def uptoBulkEntry {H : Type} : Lit × DataW H → Nat
  | (.string bytes, d) => bytes.length + uptoBulk d + 1
  | (_, d) => uptoBulk d + 1
 end
def uptoSmall : (H : Type) → List (DataW H) → Bool := fun _ ds => decide (uptoBulkAll ds ≤ 1048576)
def OpenSpec.upto (s : _root_.Go.ChangeSpec) : _root_.Go.OpenSpec := { _root_.Go.OpenSpec.ofChange s with cond := some uptoSmall }

/-- 'assayerlaw6.RngSteps', WHERE WHAT IT READS IS OF BULK AT MOST 1048576: true; the input reads as it did. -/
def rngStepsUptoRow : OpenClaim := { program := "ytcnhccpoakldnaa", sum := "9a36bcdef17ff9b3155e387fd92c1898fdb24d9d4d3f1ee04c402b49649e6ab4", func := "assayer/assayerlaw6.RngSteps", spec := "rngSteps", apart := false, narrowed := true }
def RngStepsUptoSaid : Prop := rngStepsUptoRow.holds Try.pinned (OpenSpec.upto rngStepsSpec)

/-- 'assayerlaw6.HadaParseval', WHERE WHAT IT READS IS OF BULK AT MOST 1048576: true; the input reads as it did. -/
def hadaParsevalUptoRow : OpenClaim := { program := "ytcnhccpoakldnaa", sum := "9a36bcdef17ff9b3155e387fd92c1898fdb24d9d4d3f1ee04c402b49649e6ab4", func := "assayer/assayerlaw6.HadaParseval", spec := "hadaParseval", apart := false, narrowed := true }
def HadaParsevalUptoSaid : Prop := hadaParsevalUptoRow.holds Try.pinned (OpenSpec.upto hadaParsevalSpec)

/-- 'assayerlaw6.BoundPieces', WHERE WHAT IT READS IS OF BULK AT MOST 1048576: true; the input reads as it did. -/
def boundPiecesUptoRow : OpenClaim := { program := "ytcnhccpoakldnaa", sum := "9a36bcdef17ff9b3155e387fd92c1898fdb24d9d4d3f1ee04c402b49649e6ab4", func := "assayer/assayerlaw6.BoundPieces", spec := "boundPieces", apart := false, narrowed := true }
def BoundPiecesUptoSaid : Prop := boundPiecesUptoRow.holds Try.pinned (OpenSpec.upto boundPiecesSpec)

end Rows
end Go.Proofs.Ytcnhccpoakldnaa
