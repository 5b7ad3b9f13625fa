/-
  DERIVED. GIVEN WITH THE SEED: THE CARDS: each row of YtanpmmpdolaiiaaDoorRows.lean that lists a variable, with what it lists TIED to the program's text (the seventh form; the later family's looks); each row that meets fmt, with fmt's text TOLD by the authors' own Lean function (tested against real Go, not proved from fmt's source: count such statements apart). THE CARD IS WHAT COUNTS. Prove the row's statement (the work); the ties are given (YtanpmmpdolaiiaaDoorTie.lean); close each card by the builder's one call (the guide's Derived/Test/ToyasCard.lean, 'card_holds'). Laid BY PROGRAM, IN A SANDBOX (cutbox-door.mjs). By AI agents, Wed Nov 11 2026. No macro, syntax, notation, axiom, sorry.
-/
import Derived.Test.YtanpmmpdolaiiaaDoorRows
import GoSem.ClaimSeven
namespace Go.Proofs.YtanpmmpdolaiiaaDoor
namespace Rows

/-- THE TIED CARD OF 'assayerlaw5.MutateOwn'. -/
def mutateOwnCard : Claim7 := { stood := { row := mutateOwnRow, standIns := [], harness := (true, "d4ac1b8807d6241d58704bb11144cff369cd28bb08bc82db81d4ffc400e4c6fc"), looks := true }, kinds := [], alts := [], laidByText := true, laidKinds := [.handle, .data, .widerDeep, .widerDeep], laidTests := true, laidLooks := .later }
def MutateOwnCardSaid : Prop := Claim7.holds Tryd.pinned (.plain (OpenSpec.ofChange mutateOwnSpec)) mutateOwnCard

/-- THE SECOND FORM's CARD OF 'assayerlaw5.MutateOwn'. -/
def mutateOwnUptoCard : Claim7 := { stood := { row := mutateOwnUptoRow, standIns := [], harness := (true, "d4ac1b8807d6241d58704bb11144cff369cd28bb08bc82db81d4ffc400e4c6fc"), looks := true }, kinds := [], alts := [], laidByText := true, laidKinds := [.handle, .data, .widerDeep, .widerDeep], laidTests := true, laidLooks := .later }
def MutateOwnUptoCardSaid : Prop := Claim7.holds Tryd.pinned (.plain (OpenSpec.upto mutateOwnSpec)) mutateOwnUptoCard
end Rows
end Go.Proofs.YtanpmmpdolaiiaaDoor
