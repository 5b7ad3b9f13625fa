/-
  DERIVED. GIVEN WITH THE SEED: THE CARDS: each row of YtcnhccpoakldnaaDoorRows.lean that lists a variable, with what it lists TIED to the program's text (the seventh form; the later family's looks); each row that meets fmt, with fmt's text TOLD by the authors' own Lean function (tested against real Go, not proved from fmt's source: count such statements apart). THE CARD IS WHAT COUNTS. Prove the row's statement (the work); the ties are given (YtcnhccpoakldnaaDoorTie.lean); close each card by the builder's one call (the guide's Derived/Test/ToyasCard.lean, 'card_holds'). Laid BY PROGRAM, IN A SANDBOX (cutbox-door.mjs). By AI agents, Wed Nov 11 2026. No macro, syntax, notation, axiom, sorry.
-/
import Derived.Test.YtcnhccpoakldnaaDoorRows
import GoSem.ClaimSeven
namespace Go.Proofs.YtcnhccpoakldnaaDoor
namespace Rows

/-- THE TIED CARD OF 'assayerlaw5.HadaOwn'. -/
def hadaOwnCard : Claim7 := { stood := { row := hadaOwnRow, standIns := [], harness := (true, "fd653e205747da9e30dac245281d181192096a1d3c8bdd3c999aa0276d3206cb"), looks := true }, kinds := [], alts := [], laidByText := true, laidKinds := [.handle], laidTests := true, laidLooks := .later }
def HadaOwnCardSaid : Prop := Claim7.holds Tryd.pinned (.plain (OpenSpec.ofChange hadaOwnSpec)) hadaOwnCard

/-- THE SECOND FORM's CARD OF 'assayerlaw5.HadaOwn'. -/
def hadaOwnUptoCard : Claim7 := { stood := { row := hadaOwnUptoRow, standIns := [], harness := (true, "fd653e205747da9e30dac245281d181192096a1d3c8bdd3c999aa0276d3206cb"), looks := true }, kinds := [], alts := [], laidByText := true, laidKinds := [.handle], laidTests := true, laidLooks := .later }
def HadaOwnUptoCardSaid : Prop := Claim7.holds Tryd.pinned (.plain (OpenSpec.upto hadaOwnSpec)) hadaOwnUptoCard
end Rows
end Go.Proofs.YtcnhccpoakldnaaDoor
