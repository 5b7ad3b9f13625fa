/-
  DERIVED. GIVEN WITH THE SEED: THE CARDS: each row of YtbnannlpebggjaaDoorRows.lean that lists a variable, with what it lists TIED to the program's text (the seventh form; the later family's looks); each row that meets fmt, with fmt's text TOLD by the authors' own Lean function (tested against real Go, not proved from fmt's source: count such statements apart). THE CARD IS WHAT COUNTS. Prove the row's statement (the work); the ties are given (YtbnannlpebggjaaDoorTie.lean); close each card by the builder's one call (the guide's Derived/Test/ToyasCard.lean, 'card_holds'). Laid BY PROGRAM, IN A SANDBOX (cutbox-door.mjs). By AI agents, Wed Nov 11 2026. No macro, syntax, notation, axiom, sorry.
-/
import Derived.Test.YtbnannlpebggjaaDoorRows
import GoSem.ClaimSeven
namespace Go.Proofs.YtbnannlpebggjaaDoor
namespace Rows

/-- THE TIED CARD OF 'assayerlaw5.GramOwn'. -/
def gramOwnCard : Claim7 := { stood := { row := gramOwnRow, standIns := [], harness := (true, "f1a61b94f664f9a234ff4081d577b182efbb565396d1bdb267d185a48fccbe3f"), looks := true }, kinds := [], alts := [], laidByText := true, laidKinds := [.handle], laidTests := true, laidLooks := .later }
def GramOwnCardSaid : Prop := Claim7.holds Tryd.pinned (.plain (OpenSpec.ofChange gramOwnSpec)) gramOwnCard

/-- THE SECOND FORM's CARD OF 'assayerlaw5.GramOwn'. -/
def gramOwnUptoCard : Claim7 := { stood := { row := gramOwnUptoRow, standIns := [], harness := (true, "f1a61b94f664f9a234ff4081d577b182efbb565396d1bdb267d185a48fccbe3f"), looks := true }, kinds := [], alts := [], laidByText := true, laidKinds := [.handle], laidTests := true, laidLooks := .later }
def GramOwnUptoCardSaid : Prop := Claim7.holds Tryd.pinned (.plain (OpenSpec.upto gramOwnSpec)) gramOwnUptoCard
end Rows
end Go.Proofs.YtbnannlpebggjaaDoor
