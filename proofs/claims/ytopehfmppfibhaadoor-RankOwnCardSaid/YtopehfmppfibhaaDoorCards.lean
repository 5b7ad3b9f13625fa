/-
  DERIVED. GIVEN WITH THE SEED: THE CARDS: each row of YtopehfmppfibhaaDoorRows.lean that lists a variable, with what it lists TIED to the program's text (the seventh form; the later family's looks); each row that meets fmt, with fmt's text TOLD by the authors' own Lean function (tested against real Go, not proved from fmt's source: count such statements apart). THE CARD IS WHAT COUNTS. Prove the row's statement (the work); the ties are given (YtopehfmppfibhaaDoorTie.lean); close each card by the builder's one call (the guide's Derived/Test/ToyasCard.lean, 'card_holds'). Laid BY PROGRAM, IN A SANDBOX (cutbox-door.mjs). By AI agents, Wed Nov 11 2026. No macro, syntax, notation, axiom, sorry.
-/
import Derived.Test.YtopehfmppfibhaaDoorRows
import GoSem.ClaimSeven
namespace Go.Proofs.YtopehfmppfibhaaDoor
namespace Rows

/-- THE TIED CARD OF 'assayerlaw5.RoseOwn'. -/
def roseOwnCard : Claim7 := { stood := { row := roseOwnRow, standIns := [], harness := (true, "ba32885b29da45436d97687fabdd0ba207b75a1cfcef1dc1abf2204035b4d557"), looks := true }, kinds := [], alts := [], laidByText := true, laidKinds := [.handle], laidTests := true, laidLooks := .later }
def RoseOwnCardSaid : Prop := Claim7.holds Tryd.pinned (.plain (OpenSpec.ofChange roseOwnSpec)) roseOwnCard

/-- THE TIED CARD OF 'assayerlaw5.RankOwn'. -/
def rankOwnCard : Claim7 := { stood := { row := rankOwnRow, standIns := [], harness := (true, "ba32885b29da45436d97687fabdd0ba207b75a1cfcef1dc1abf2204035b4d557"), looks := true }, kinds := [], alts := [], laidByText := true, laidKinds := [.handle], laidTests := true, laidLooks := .later }
def RankOwnCardSaid : Prop := Claim7.holds Tryd.pinned (.plain (OpenSpec.ofChange rankOwnSpec)) rankOwnCard

/-- THE TIED CARD OF 'assayerlaw5.GenOwn'. -/
def genOwnCard : Claim7 := { stood := { row := genOwnRow, standIns := [], harness := (true, "ba32885b29da45436d97687fabdd0ba207b75a1cfcef1dc1abf2204035b4d557"), looks := true }, kinds := [], alts := [], laidByText := true, laidKinds := [.data, .data, .data], laidTests := true, laidLooks := .later }
def GenOwnCardSaid : Prop := Claim7.holds Tryd.pinned (.plain (OpenSpec.ofChange genOwnSpec)) genOwnCard

/-- THE TIED CARD OF 'assayerlaw5.ShrinkOwn'. -/
def shrinkOwnCard : Claim7 := { stood := { row := shrinkOwnRow, standIns := [], harness := (true, "ba32885b29da45436d97687fabdd0ba207b75a1cfcef1dc1abf2204035b4d557"), looks := true }, kinds := [], alts := [], laidByText := true, laidKinds := [.handle, .data], laidTests := true, laidLooks := .later }
def ShrinkOwnCardSaid : Prop := Claim7.holds Tryd.pinned (.plain (OpenSpec.ofChange shrinkOwnSpec)) shrinkOwnCard

/-- THE TIED CARD OF 'assayerlaw6.GenWraps'. -/
def genWrapsCard : Claim7 := { stood := { row := genWrapsRow, standIns := [], harness := (true, "ba32885b29da45436d97687fabdd0ba207b75a1cfcef1dc1abf2204035b4d557"), looks := true }, kinds := [], alts := [], laidByText := true, laidKinds := [.data, .data, .data, .handle], laidTests := true, laidLooks := .later }
def GenWrapsCardSaid : Prop := Claim7.holds Tryd.pinned (.plain (OpenSpec.ofChange genWrapsSpec)) genWrapsCard

/-- THE TIED CARD OF 'assayerlaw6.ShrinkStays'. -/
def shrinkStaysCard : Claim7 := { stood := { row := shrinkStaysRow, standIns := [], harness := (true, "ba32885b29da45436d97687fabdd0ba207b75a1cfcef1dc1abf2204035b4d557"), looks := true }, kinds := [], alts := [], laidByText := true, laidKinds := [.handle, .data], laidTests := true, laidLooks := .later }
def ShrinkStaysCardSaid : Prop := Claim7.holds Tryd.pinned (.plain (OpenSpec.ofChange shrinkStaysSpec)) shrinkStaysCard

/-- THE SECOND FORM's CARD OF 'assayerlaw5.RoseOwn'. -/
def roseOwnUptoCard : Claim7 := { stood := { row := roseOwnUptoRow, standIns := [], harness := (true, "ba32885b29da45436d97687fabdd0ba207b75a1cfcef1dc1abf2204035b4d557"), looks := true }, kinds := [], alts := [], laidByText := true, laidKinds := [.handle], laidTests := true, laidLooks := .later }
def RoseOwnUptoCardSaid : Prop := Claim7.holds Tryd.pinned (.plain (OpenSpec.upto roseOwnSpec)) roseOwnUptoCard

/-- THE SECOND FORM's CARD OF 'assayerlaw5.RankOwn'. -/
def rankOwnUptoCard : Claim7 := { stood := { row := rankOwnUptoRow, standIns := [], harness := (true, "ba32885b29da45436d97687fabdd0ba207b75a1cfcef1dc1abf2204035b4d557"), looks := true }, kinds := [], alts := [], laidByText := true, laidKinds := [.handle], laidTests := true, laidLooks := .later }
def RankOwnUptoCardSaid : Prop := Claim7.holds Tryd.pinned (.plain (OpenSpec.upto rankOwnSpec)) rankOwnUptoCard

/-- THE SECOND FORM's CARD OF 'assayerlaw5.GenOwn'. -/
def genOwnUptoCard : Claim7 := { stood := { row := genOwnUptoRow, standIns := [], harness := (true, "ba32885b29da45436d97687fabdd0ba207b75a1cfcef1dc1abf2204035b4d557"), looks := true }, kinds := [], alts := [], laidByText := true, laidKinds := [.data, .data, .data], laidTests := true, laidLooks := .later }
def GenOwnUptoCardSaid : Prop := Claim7.holds Tryd.pinned (.plain (OpenSpec.upto genOwnSpec)) genOwnUptoCard

/-- THE SECOND FORM's CARD OF 'assayerlaw5.ShrinkOwn'. -/
def shrinkOwnUptoCard : Claim7 := { stood := { row := shrinkOwnUptoRow, standIns := [], harness := (true, "ba32885b29da45436d97687fabdd0ba207b75a1cfcef1dc1abf2204035b4d557"), looks := true }, kinds := [], alts := [], laidByText := true, laidKinds := [.handle, .data], laidTests := true, laidLooks := .later }
def ShrinkOwnUptoCardSaid : Prop := Claim7.holds Tryd.pinned (.plain (OpenSpec.upto shrinkOwnSpec)) shrinkOwnUptoCard

/-- THE SECOND FORM's CARD OF 'assayerlaw6.GenWraps'. -/
def genWrapsUptoCard : Claim7 := { stood := { row := genWrapsUptoRow, standIns := [], harness := (true, "ba32885b29da45436d97687fabdd0ba207b75a1cfcef1dc1abf2204035b4d557"), looks := true }, kinds := [], alts := [], laidByText := true, laidKinds := [.data, .data, .data, .handle], laidTests := true, laidLooks := .later }
def GenWrapsUptoCardSaid : Prop := Claim7.holds Tryd.pinned (.plain (OpenSpec.upto genWrapsSpec)) genWrapsUptoCard

/-- THE SECOND FORM's CARD OF 'assayerlaw6.ShrinkStays'. -/
def shrinkStaysUptoCard : Claim7 := { stood := { row := shrinkStaysUptoRow, standIns := [], harness := (true, "ba32885b29da45436d97687fabdd0ba207b75a1cfcef1dc1abf2204035b4d557"), looks := true }, kinds := [], alts := [], laidByText := true, laidKinds := [.handle, .data], laidTests := true, laidLooks := .later }
def ShrinkStaysUptoCardSaid : Prop := Claim7.holds Tryd.pinned (.plain (OpenSpec.upto shrinkStaysSpec)) shrinkStaysUptoCard
end Rows
end Go.Proofs.YtopehfmppfibhaaDoor
