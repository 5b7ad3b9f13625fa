/-
  DERIVED. GIVEN WITH THE SEED: THE CARDS: each row of YtkiljnggphlomaaDoorRows.lean that lists a variable, with what it lists TIED to the program's text (the seventh form; the later family's looks); each row that meets fmt, with fmt's text TOLD by the authors' own Lean function (tested against real Go, not proved from fmt's source: count such statements apart). THE CARD IS WHAT COUNTS. Prove the row's statement (the work); the ties are given (YtkiljnggphlomaaDoorTie.lean); close each card by the builder's one call (the guide's Derived/Test/ToyasCard.lean, 'card_holds'). Laid BY PROGRAM, IN A SANDBOX (cutbox-door.mjs). By AI agents, Wed Nov 11 2026. No macro, syntax, notation, axiom, sorry.
-/
import Derived.Test.YtkiljnggphlomaaDoorRows
import GoSem.ClaimSeven
namespace Go.Proofs.YtkiljnggphlomaaDoor
namespace Rows

/-- THE TIED CARD OF 'assayerlaw5.FlowOwn'. -/
def flowOwnCard : Claim7 := { stood := { row := flowOwnRow, standIns := [], harness := (true, "dc5f722f025849bd8f31bbe25a894d2f5eacca5cceaf01b03c3541ac41d70266"), looks := true }, kinds := [], alts := [], laidByText := true, laidKinds := [.handle], laidTests := true, laidLooks := .later }
def FlowOwnCardSaid : Prop := Claim7.holds Tryd.pinned (.plain (OpenSpec.ofChange flowOwnSpec)) flowOwnCard

/-- THE TIED CARD OF 'assayerlaw5.PairsOwn'. -/
def pairsOwnCard : Claim7 := { stood := { row := pairsOwnRow, standIns := [], harness := (true, "dc5f722f025849bd8f31bbe25a894d2f5eacca5cceaf01b03c3541ac41d70266"), looks := true }, kinds := [], alts := [], laidByText := true, laidKinds := [.handle], laidTests := true, laidLooks := .later }
def PairsOwnCardSaid : Prop := Claim7.holds Tryd.pinned (.plain (OpenSpec.ofChange pairsOwnSpec)) pairsOwnCard

/-- THE TIED CARD OF 'assayerlaw6.TourTurned'. -/
def tourTurnedCard : Claim7 := { stood := { row := tourTurnedRow, standIns := [], harness := (true, "dc5f722f025849bd8f31bbe25a894d2f5eacca5cceaf01b03c3541ac41d70266"), looks := true }, kinds := [], alts := [], laidByText := true, laidKinds := [.handle], laidTests := true, laidLooks := .later }
def TourTurnedCardSaid : Prop := Claim7.holds Tryd.pinned (.plain (OpenSpec.ofChange tourTurnedSpec)) tourTurnedCard

/-- THE TIED CARD OF 'assayerlaw6.TableAll'. -/
def tableAllCard : Claim7 := { stood := { row := tableAllRow, standIns := [], harness := (true, "dc5f722f025849bd8f31bbe25a894d2f5eacca5cceaf01b03c3541ac41d70266"), looks := true }, kinds := [], alts := [], laidByText := true, laidKinds := [.handle], laidTests := true, laidLooks := .later }
def TableAllCardSaid : Prop := Claim7.holds Tryd.pinned (.plain (OpenSpec.ofChange tableAllSpec)) tableAllCard

/-- THE TIED CARD OF 'assayerlaw5.InterOwn'. -/
def interOwnCard : Claim7 := { stood := { row := interOwnRow, standIns := [], harness := (true, "dc5f722f025849bd8f31bbe25a894d2f5eacca5cceaf01b03c3541ac41d70266"), looks := true }, kinds := [], alts := [], laidByText := true, laidKinds := [.handle], laidTests := true, laidLooks := .later }
def InterOwnCardSaid : Prop := Claim7.holds Tryd.pinned (.plain (OpenSpec.ofChange interOwnSpec)) interOwnCard

/-- THE TIED CARD OF 'assayerlaw5.PathOwn'. -/
def pathOwnCard : Claim7 := { stood := { row := pathOwnRow, standIns := [], harness := (true, "dc5f722f025849bd8f31bbe25a894d2f5eacca5cceaf01b03c3541ac41d70266"), looks := true }, kinds := [], alts := [], laidByText := true, laidKinds := [.handle], laidTests := true, laidLooks := .later }
def PathOwnCardSaid : Prop := Claim7.holds Tryd.pinned (.plain (OpenSpec.ofChange pathOwnSpec)) pathOwnCard

/-- THE TIED CARD OF 'assayerlaw5.GramOwn'. -/
def gramOwnCard : Claim7 := { stood := { row := gramOwnRow, standIns := [], harness := (true, "dc5f722f025849bd8f31bbe25a894d2f5eacca5cceaf01b03c3541ac41d70266"), looks := true }, kinds := [], alts := [], laidByText := true, laidKinds := [.handle], laidTests := true, laidLooks := .later }
def GramOwnCardSaid : Prop := Claim7.holds Tryd.pinned (.plain (OpenSpec.ofChange gramOwnSpec)) gramOwnCard

/-- THE SECOND FORM's CARD OF 'assayerlaw5.FlowOwn'. -/
def flowOwnUptoCard : Claim7 := { stood := { row := flowOwnUptoRow, standIns := [], harness := (true, "dc5f722f025849bd8f31bbe25a894d2f5eacca5cceaf01b03c3541ac41d70266"), looks := true }, kinds := [], alts := [], laidByText := true, laidKinds := [.handle], laidTests := true, laidLooks := .later }
def FlowOwnUptoCardSaid : Prop := Claim7.holds Tryd.pinned (.plain (OpenSpec.upto flowOwnSpec)) flowOwnUptoCard

/-- THE SECOND FORM's CARD OF 'assayerlaw5.PairsOwn'. -/
def pairsOwnUptoCard : Claim7 := { stood := { row := pairsOwnUptoRow, standIns := [], harness := (true, "dc5f722f025849bd8f31bbe25a894d2f5eacca5cceaf01b03c3541ac41d70266"), looks := true }, kinds := [], alts := [], laidByText := true, laidKinds := [.handle], laidTests := true, laidLooks := .later }
def PairsOwnUptoCardSaid : Prop := Claim7.holds Tryd.pinned (.plain (OpenSpec.upto pairsOwnSpec)) pairsOwnUptoCard

/-- THE SECOND FORM's CARD OF 'assayerlaw6.TourTurned'. -/
def tourTurnedUptoCard : Claim7 := { stood := { row := tourTurnedUptoRow, standIns := [], harness := (true, "dc5f722f025849bd8f31bbe25a894d2f5eacca5cceaf01b03c3541ac41d70266"), looks := true }, kinds := [], alts := [], laidByText := true, laidKinds := [.handle], laidTests := true, laidLooks := .later }
def TourTurnedUptoCardSaid : Prop := Claim7.holds Tryd.pinned (.plain (OpenSpec.upto tourTurnedSpec)) tourTurnedUptoCard

/-- THE SECOND FORM's CARD OF 'assayerlaw6.TableAll'. -/
def tableAllUptoCard : Claim7 := { stood := { row := tableAllUptoRow, standIns := [], harness := (true, "dc5f722f025849bd8f31bbe25a894d2f5eacca5cceaf01b03c3541ac41d70266"), looks := true }, kinds := [], alts := [], laidByText := true, laidKinds := [.handle], laidTests := true, laidLooks := .later }
def TableAllUptoCardSaid : Prop := Claim7.holds Tryd.pinned (.plain (OpenSpec.upto tableAllSpec)) tableAllUptoCard

/-- THE SECOND FORM's CARD OF 'assayerlaw5.InterOwn'. -/
def interOwnUptoCard : Claim7 := { stood := { row := interOwnUptoRow, standIns := [], harness := (true, "dc5f722f025849bd8f31bbe25a894d2f5eacca5cceaf01b03c3541ac41d70266"), looks := true }, kinds := [], alts := [], laidByText := true, laidKinds := [.handle], laidTests := true, laidLooks := .later }
def InterOwnUptoCardSaid : Prop := Claim7.holds Tryd.pinned (.plain (OpenSpec.upto interOwnSpec)) interOwnUptoCard

/-- THE SECOND FORM's CARD OF 'assayerlaw5.PathOwn'. -/
def pathOwnUptoCard : Claim7 := { stood := { row := pathOwnUptoRow, standIns := [], harness := (true, "dc5f722f025849bd8f31bbe25a894d2f5eacca5cceaf01b03c3541ac41d70266"), looks := true }, kinds := [], alts := [], laidByText := true, laidKinds := [.handle], laidTests := true, laidLooks := .later }
def PathOwnUptoCardSaid : Prop := Claim7.holds Tryd.pinned (.plain (OpenSpec.upto pathOwnSpec)) pathOwnUptoCard

/-- THE SECOND FORM's CARD OF 'assayerlaw5.GramOwn'. -/
def gramOwnUptoCard : Claim7 := { stood := { row := gramOwnUptoRow, standIns := [], harness := (true, "dc5f722f025849bd8f31bbe25a894d2f5eacca5cceaf01b03c3541ac41d70266"), looks := true }, kinds := [], alts := [], laidByText := true, laidKinds := [.handle], laidTests := true, laidLooks := .later }
def GramOwnUptoCardSaid : Prop := Claim7.holds Tryd.pinned (.plain (OpenSpec.upto gramOwnSpec)) gramOwnUptoCard
end Rows
end Go.Proofs.YtkiljnggphlomaaDoor
