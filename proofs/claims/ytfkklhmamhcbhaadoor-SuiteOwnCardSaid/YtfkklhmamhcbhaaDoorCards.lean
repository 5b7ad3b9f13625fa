/-
  DERIVED. GIVEN WITH THE SEED: THE CARDS: each row of YtfkklhmamhcbhaaDoorRows.lean that lists a variable, with what it lists TIED to the program's text (the seventh form; the later family's looks); each row that meets fmt, with fmt's text TOLD by the authors' own Lean function (tested against real Go, not proved from fmt's source: count such statements apart). THE CARD IS WHAT COUNTS. Prove the row's statement (the work); the ties are given (YtfkklhmamhcbhaaDoorTie.lean); close each card by the builder's one call (the guide's Derived/Test/ToyasCard.lean, 'card_holds'). Laid BY PROGRAM, IN A SANDBOX (cutbox-door.mjs). By AI agents, Wed Nov 11 2026. No macro, syntax, notation, axiom, sorry.
-/
import Derived.Test.YtfkklhmamhcbhaaDoorRows
import GoSem.ClaimSeven
namespace Go.Proofs.YtfkklhmamhcbhaaDoor
namespace Rows

/-- THE TIED CARD OF 'assayertop.TopCovers'. -/
def topCoversCard : Claim7 := { stood := { row := topCoversRow, standIns := [], harness := (true, "9e5a32cccbe9afeaf48973f354931c4d0abe8fe22b5f838499826a92411228a4"), looks := true }, kinds := [], alts := [], laidByText := true, laidKinds := [.data, .data], laidTests := true, laidLooks := .later }
def TopCoversCardSaid : Prop := Claim7.holds Tryd.pinned (.plain (OpenSpec.ofChange topCoversSpec)) topCoversCard

/-- THE TIED CARD OF 'assayerlaw5.SuiteOwn'. -/
def suiteOwnCard : Claim7 := { stood := { row := suiteOwnRow, standIns := [], harness := (true, "9e5a32cccbe9afeaf48973f354931c4d0abe8fe22b5f838499826a92411228a4"), looks := true }, kinds := [], alts := [], laidByText := true, laidKinds := [.data, .data, .handle], laidTests := true, laidLooks := .later }
def SuiteOwnCardSaid : Prop := Claim7.holds Tryd.pinned (.plain (OpenSpec.ofChange suiteOwnSpec)) suiteOwnCard

/-- THE SECOND FORM's CARD OF 'assayertop.TopCovers'. -/
def topCoversUptoCard : Claim7 := { stood := { row := topCoversUptoRow, standIns := [], harness := (true, "9e5a32cccbe9afeaf48973f354931c4d0abe8fe22b5f838499826a92411228a4"), looks := true }, kinds := [], alts := [], laidByText := true, laidKinds := [.data, .data], laidTests := true, laidLooks := .later }
def TopCoversUptoCardSaid : Prop := Claim7.holds Tryd.pinned (.plain (OpenSpec.upto topCoversSpec)) topCoversUptoCard

/-- THE SECOND FORM's CARD OF 'assayerlaw5.SuiteOwn'. -/
def suiteOwnUptoCard : Claim7 := { stood := { row := suiteOwnUptoRow, standIns := [], harness := (true, "9e5a32cccbe9afeaf48973f354931c4d0abe8fe22b5f838499826a92411228a4"), looks := true }, kinds := [], alts := [], laidByText := true, laidKinds := [.data, .data, .handle], laidTests := true, laidLooks := .later }
def SuiteOwnUptoCardSaid : Prop := Claim7.holds Tryd.pinned (.plain (OpenSpec.upto suiteOwnSpec)) suiteOwnUptoCard
end Rows
end Go.Proofs.YtfkklhmamhcbhaaDoor
