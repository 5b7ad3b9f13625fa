/-
  DERIVED. GIVEN WITH THE SEED: THE CARDS: each row of YtmhledlcfbjfkaaDoorRows.lean that lists a variable, with what it lists TIED to the program's text (the seventh form; the later family's looks); each row that meets fmt, with fmt's text TOLD by the authors' own Lean function (tested against real Go, not proved from fmt's source: count such statements apart). THE CARD IS WHAT COUNTS. Prove the row's statement (the work); the ties are given (YtmhledlcfbjfkaaDoorTie.lean); close each card by the builder's one call (the guide's Derived/Test/ToyasCard.lean, 'card_holds'). Laid BY PROGRAM, IN A SANDBOX (cutbox-door.mjs). By AI agents, Wed Nov 11 2026. No macro, syntax, notation, axiom, sorry.
-/
import Derived.Test.YtmhledlcfbjfkaaDoorRows
import GoSem.ClaimSeven
namespace Go.Proofs.YtmhledlcfbjfkaaDoor
namespace Rows

/-- THE TIED CARD OF 'assayerlaw5.CondOwn'. -/
def condOwnCard : Claim7 := { stood := { row := condOwnRow, standIns := [], harness := (true, "df533820f3f3c15e0c7323a44d47d0828ab693912098730a82e5156c14c7377e"), looks := true }, kinds := [], alts := [], laidByText := true, laidKinds := [.handle], laidTests := true, laidLooks := .later }
def CondOwnCardSaid : Prop := Claim7.holds Tryd.pinned (.plain (OpenSpec.ofChange condOwnSpec)) condOwnCard

/-- THE SECOND FORM's CARD OF 'assayerlaw5.CondOwn'. -/
def condOwnUptoCard : Claim7 := { stood := { row := condOwnUptoRow, standIns := [], harness := (true, "df533820f3f3c15e0c7323a44d47d0828ab693912098730a82e5156c14c7377e"), looks := true }, kinds := [], alts := [], laidByText := true, laidKinds := [.handle], laidTests := true, laidLooks := .later }
def CondOwnUptoCardSaid : Prop := Claim7.holds Tryd.pinned (.plain (OpenSpec.upto condOwnSpec)) condOwnUptoCard
end Rows
end Go.Proofs.YtmhledlcfbjfkaaDoor
