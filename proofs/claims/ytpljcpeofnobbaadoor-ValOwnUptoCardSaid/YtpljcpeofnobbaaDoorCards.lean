/-
  DERIVED. GIVEN WITH THE SEED: THE CARDS: each row of YtpljcpeofnobbaaDoorRows.lean that lists a variable, with what it lists TIED to the program's text (the seventh form; the later family's looks); each row that meets fmt, with fmt's text TOLD by the authors' own Lean function (tested against real Go, not proved from fmt's source: count such statements apart). THE CARD IS WHAT COUNTS. Prove the row's statement (the work); the ties are given (YtpljcpeofnobbaaDoorTie.lean); close each card by the builder's one call (the guide's Derived/Test/ToyasCard.lean, 'card_holds'). Laid BY PROGRAM, IN A SANDBOX (cutbox-door.mjs). By AI agents, Wed Nov 11 2026. No macro, syntax, notation, axiom, sorry.
-/
import Derived.Test.YtpljcpeofnobbaaDoorRows
import GoSem.ClaimSeven
namespace Go.Proofs.YtpljcpeofnobbaaDoor
namespace Rows

/-- THE TIED CARD OF 'assayerlaw6.ValBrackets'. -/
def valBracketsCard : Claim7 := { stood := { row := valBracketsRow, standIns := [], harness := (true, "b17ee5c2b2bee188be392d25b103a05f3550aabf6e5cb52a7f22680b5fed3ac5"), looks := true }, kinds := [], alts := [], laidByText := true, laidKinds := [.data, .data, .data, .sentinel, .sentinel], laidTests := true, laidLooks := .later }
def ValBracketsCardSaid : Prop := Claim7.holds Tryd.pinned (.plain (OpenSpec.ofChange valBracketsSpec)) valBracketsCard

/-- THE TIED CARD OF 'assayerlaw5.ValOwn'. -/
def valOwnCard : Claim7 := { stood := { row := valOwnRow, standIns := [], harness := (true, "b17ee5c2b2bee188be392d25b103a05f3550aabf6e5cb52a7f22680b5fed3ac5"), looks := true }, kinds := [], alts := [], laidByText := true, laidKinds := [.data, .data, .data, .handle, .sentinel, .sentinel], laidTests := true, laidLooks := .later }
def ValOwnCardSaid : Prop := Claim7.holds Tryd.pinned (.plain (OpenSpec.ofChange valOwnSpec)) valOwnCard

/-- THE SECOND FORM's CARD OF 'assayerlaw6.ValBrackets'. -/
def valBracketsUptoCard : Claim7 := { stood := { row := valBracketsUptoRow, standIns := [], harness := (true, "b17ee5c2b2bee188be392d25b103a05f3550aabf6e5cb52a7f22680b5fed3ac5"), looks := true }, kinds := [], alts := [], laidByText := true, laidKinds := [.data, .data, .data, .sentinel, .sentinel], laidTests := true, laidLooks := .later }
def ValBracketsUptoCardSaid : Prop := Claim7.holds Tryd.pinned (.plain (OpenSpec.upto valBracketsSpec)) valBracketsUptoCard

/-- THE SECOND FORM's CARD OF 'assayerlaw5.ValOwn'. -/
def valOwnUptoCard : Claim7 := { stood := { row := valOwnUptoRow, standIns := [], harness := (true, "b17ee5c2b2bee188be392d25b103a05f3550aabf6e5cb52a7f22680b5fed3ac5"), looks := true }, kinds := [], alts := [], laidByText := true, laidKinds := [.data, .data, .data, .handle, .sentinel, .sentinel], laidTests := true, laidLooks := .later }
def ValOwnUptoCardSaid : Prop := Claim7.holds Tryd.pinned (.plain (OpenSpec.upto valOwnSpec)) valOwnUptoCard
end Rows
end Go.Proofs.YtpljcpeofnobbaaDoor
