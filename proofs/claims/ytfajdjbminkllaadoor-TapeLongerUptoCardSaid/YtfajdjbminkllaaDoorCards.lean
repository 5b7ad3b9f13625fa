/-
  DERIVED. GIVEN WITH THE SEED: THE CARDS: each row of YtfajdjbminkllaaDoorRows.lean that lists a variable, with what it lists TIED to the program's text (the seventh form; the later family's looks); each row that meets fmt, with fmt's text TOLD by the authors' own Lean function (tested against real Go, not proved from fmt's source: count such statements apart). THE CARD IS WHAT COUNTS. Prove the row's statement (the work); the ties are given (YtfajdjbminkllaaDoorTie.lean); close each card by the builder's one call (the guide's Derived/Test/ToyasCard.lean, 'card_holds'). Laid BY PROGRAM, IN A SANDBOX (cutbox-door.mjs). By AI agents, Wed Nov 11 2026. No macro, syntax, notation, axiom, sorry.
-/
import Derived.Test.YtfajdjbminkllaaDoorRows
import GoSem.ClaimSeven
namespace Go.Proofs.YtfajdjbminkllaaDoor
namespace Rows

/-- THE TIED CARD OF 'assayerlaw6.TapeLonger'. -/
def tapeLongerCard : Claim7 := { stood := { row := tapeLongerRow, standIns := [], harness := (true, "749368d85f9fcc90754559ab950e2294dd013f98958c9909fee9d0fcebf06bd4"), looks := false }, kinds := [], alts := [], laidByText := true, laidKinds := [.data, .data, .data], laidTests := true, laidLooks := .later }
def TapeLongerCardSaid : Prop := Claim7.holds Tryd.pinned (.plain (OpenSpec.ofChange tapeLongerSpec)) tapeLongerCard

/-- THE SECOND FORM's CARD OF 'assayerlaw6.TapeLonger'. -/
def tapeLongerUptoCard : Claim7 := { stood := { row := tapeLongerUptoRow, standIns := [], harness := (true, "749368d85f9fcc90754559ab950e2294dd013f98958c9909fee9d0fcebf06bd4"), looks := false }, kinds := [], alts := [], laidByText := true, laidKinds := [.data, .data, .data], laidTests := true, laidLooks := .later }
def TapeLongerUptoCardSaid : Prop := Claim7.holds Tryd.pinned (.plain (OpenSpec.upto tapeLongerSpec)) tapeLongerUptoCard
end Rows
end Go.Proofs.YtfajdjbminkllaaDoor
