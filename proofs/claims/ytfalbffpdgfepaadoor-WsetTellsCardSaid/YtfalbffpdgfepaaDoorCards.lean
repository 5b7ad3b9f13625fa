/-
  DERIVED. GIVEN WITH THE SEED: THE CARDS: each row of YtfalbffpdgfepaaDoorRows.lean that lists a variable, with what it lists TIED to the program's text (the seventh form; the later family's looks); each row that meets fmt, with fmt's text TOLD by the authors' own Lean function (tested against real Go, not proved from fmt's source: count such statements apart). THE CARD IS WHAT COUNTS. Prove the row's statement (the work); the ties are given (YtfalbffpdgfepaaDoorTie.lean); close each card by the builder's one call (the guide's Derived/Test/ToyasCard.lean, 'card_holds'). Laid BY PROGRAM, IN A SANDBOX (cutbox-door.mjs). By AI agents, Wed Nov 11 2026. No macro, syntax, notation, axiom, sorry.
-/
import Derived.Test.YtfalbffpdgfepaaDoorRows
import GoSem.ClaimSeven
namespace Go.Proofs.YtfalbffpdgfepaaDoor
namespace Rows

/-- THE TIED CARD OF 'assayerlaw3.MealyTells'. -/
def mealyTellsCard : Claim7 := { stood := { row := mealyTellsRow, standIns := [], harness := (true, "05684fb8383abb2a5cd0493c38c202ef90034119326f77dd65ae0fd97c2bcb63"), looks := true }, kinds := [], alts := [], laidByText := true, laidKinds := [.handle], laidTests := true, laidLooks := .later }
def MealyTellsCardSaid : Prop := Claim7.holds Tryd.pinned (.plain (OpenSpec.ofChange mealyTellsSpec)) mealyTellsCard

/-- THE TIED CARD OF 'assayerlaw3.MealyApart'. -/
def mealyApartCard : Claim7 := { stood := { row := mealyApartRow, standIns := [], harness := (true, "05684fb8383abb2a5cd0493c38c202ef90034119326f77dd65ae0fd97c2bcb63"), looks := true }, kinds := [], alts := [], laidByText := true, laidKinds := [.handle], laidTests := true, laidLooks := .later }
def MealyApartCardSaid : Prop := Claim7.holds Tryd.pinned (.plain (OpenSpec.ofChange mealyApartSpec)) mealyApartCard

/-- THE TIED CARD OF 'assayerlaw3.MealyTurned'. -/
def mealyTurnedCard : Claim7 := { stood := { row := mealyTurnedRow, standIns := [], harness := (true, "05684fb8383abb2a5cd0493c38c202ef90034119326f77dd65ae0fd97c2bcb63"), looks := true }, kinds := [], alts := [], laidByText := true, laidKinds := [.handle], laidTests := true, laidLooks := .later }
def MealyTurnedCardSaid : Prop := Claim7.holds Tryd.pinned (.plain (OpenSpec.ofChange mealyTurnedSpec)) mealyTurnedCard

/-- THE TIED CARD OF 'assayerlaw3.MinimAlike'. -/
def minimAlikeCard : Claim7 := { stood := { row := minimAlikeRow, standIns := [], harness := (true, "05684fb8383abb2a5cd0493c38c202ef90034119326f77dd65ae0fd97c2bcb63"), looks := true }, kinds := [], alts := [], laidByText := true, laidKinds := [.handle], laidTests := true, laidLooks := .later }
def MinimAlikeCardSaid : Prop := Claim7.holds Tryd.pinned (.plain (OpenSpec.ofChange minimAlikeSpec)) minimAlikeCard

/-- THE TIED CARD OF 'assayerlaw3.MinimTells'. -/
def minimTellsCard : Claim7 := { stood := { row := minimTellsRow, standIns := [], harness := (true, "05684fb8383abb2a5cd0493c38c202ef90034119326f77dd65ae0fd97c2bcb63"), looks := true }, kinds := [], alts := [], laidByText := true, laidKinds := [.handle], laidTests := true, laidLooks := .later }
def MinimTellsCardSaid : Prop := Claim7.holds Tryd.pinned (.plain (OpenSpec.ofChange minimTellsSpec)) minimTellsCard

/-- THE TIED CARD OF 'assayerlaw3.MinimSame'. -/
def minimSameCard : Claim7 := { stood := { row := minimSameRow, standIns := [], harness := (true, "05684fb8383abb2a5cd0493c38c202ef90034119326f77dd65ae0fd97c2bcb63"), looks := true }, kinds := [], alts := [], laidByText := true, laidKinds := [.handle], laidTests := true, laidLooks := .later }
def MinimSameCardSaid : Prop := Claim7.holds Tryd.pinned (.plain (OpenSpec.ofChange minimSameSpec)) minimSameCard

/-- THE TIED CARD OF 'assayerlaw3.MinimOne'. -/
def minimOneCard : Claim7 := { stood := { row := minimOneRow, standIns := [], harness := (true, "05684fb8383abb2a5cd0493c38c202ef90034119326f77dd65ae0fd97c2bcb63"), looks := true }, kinds := [], alts := [], laidByText := true, laidKinds := [.handle], laidTests := true, laidLooks := .later }
def MinimOneCardSaid : Prop := Claim7.holds Tryd.pinned (.plain (OpenSpec.ofChange minimOneSpec)) minimOneCard

/-- THE TIED CARD OF 'assayerlaw3.WsetTells'. -/
def wsetTellsCard : Claim7 := { stood := { row := wsetTellsRow, standIns := [], harness := (true, "05684fb8383abb2a5cd0493c38c202ef90034119326f77dd65ae0fd97c2bcb63"), looks := true }, kinds := [], alts := [], laidByText := true, laidKinds := [.handle], laidTests := true, laidLooks := .later }
def WsetTellsCardSaid : Prop := Claim7.holds Tryd.pinned (.plain (OpenSpec.ofChange wsetTellsSpec)) wsetTellsCard

/-- THE SECOND FORM's CARD OF 'assayerlaw3.MealyTells'. -/
def mealyTellsUptoCard : Claim7 := { stood := { row := mealyTellsUptoRow, standIns := [], harness := (true, "05684fb8383abb2a5cd0493c38c202ef90034119326f77dd65ae0fd97c2bcb63"), looks := true }, kinds := [], alts := [], laidByText := true, laidKinds := [.handle], laidTests := true, laidLooks := .later }
def MealyTellsUptoCardSaid : Prop := Claim7.holds Tryd.pinned (.plain (OpenSpec.upto mealyTellsSpec)) mealyTellsUptoCard

/-- THE SECOND FORM's CARD OF 'assayerlaw3.MealyApart'. -/
def mealyApartUptoCard : Claim7 := { stood := { row := mealyApartUptoRow, standIns := [], harness := (true, "05684fb8383abb2a5cd0493c38c202ef90034119326f77dd65ae0fd97c2bcb63"), looks := true }, kinds := [], alts := [], laidByText := true, laidKinds := [.handle], laidTests := true, laidLooks := .later }
def MealyApartUptoCardSaid : Prop := Claim7.holds Tryd.pinned (.plain (OpenSpec.upto mealyApartSpec)) mealyApartUptoCard

/-- THE SECOND FORM's CARD OF 'assayerlaw3.MealyTurned'. -/
def mealyTurnedUptoCard : Claim7 := { stood := { row := mealyTurnedUptoRow, standIns := [], harness := (true, "05684fb8383abb2a5cd0493c38c202ef90034119326f77dd65ae0fd97c2bcb63"), looks := true }, kinds := [], alts := [], laidByText := true, laidKinds := [.handle], laidTests := true, laidLooks := .later }
def MealyTurnedUptoCardSaid : Prop := Claim7.holds Tryd.pinned (.plain (OpenSpec.upto mealyTurnedSpec)) mealyTurnedUptoCard

/-- THE SECOND FORM's CARD OF 'assayerlaw3.MinimAlike'. -/
def minimAlikeUptoCard : Claim7 := { stood := { row := minimAlikeUptoRow, standIns := [], harness := (true, "05684fb8383abb2a5cd0493c38c202ef90034119326f77dd65ae0fd97c2bcb63"), looks := true }, kinds := [], alts := [], laidByText := true, laidKinds := [.handle], laidTests := true, laidLooks := .later }
def MinimAlikeUptoCardSaid : Prop := Claim7.holds Tryd.pinned (.plain (OpenSpec.upto minimAlikeSpec)) minimAlikeUptoCard

/-- THE SECOND FORM's CARD OF 'assayerlaw3.MinimTells'. -/
def minimTellsUptoCard : Claim7 := { stood := { row := minimTellsUptoRow, standIns := [], harness := (true, "05684fb8383abb2a5cd0493c38c202ef90034119326f77dd65ae0fd97c2bcb63"), looks := true }, kinds := [], alts := [], laidByText := true, laidKinds := [.handle], laidTests := true, laidLooks := .later }
def MinimTellsUptoCardSaid : Prop := Claim7.holds Tryd.pinned (.plain (OpenSpec.upto minimTellsSpec)) minimTellsUptoCard

/-- THE SECOND FORM's CARD OF 'assayerlaw3.MinimSame'. -/
def minimSameUptoCard : Claim7 := { stood := { row := minimSameUptoRow, standIns := [], harness := (true, "05684fb8383abb2a5cd0493c38c202ef90034119326f77dd65ae0fd97c2bcb63"), looks := true }, kinds := [], alts := [], laidByText := true, laidKinds := [.handle], laidTests := true, laidLooks := .later }
def MinimSameUptoCardSaid : Prop := Claim7.holds Tryd.pinned (.plain (OpenSpec.upto minimSameSpec)) minimSameUptoCard

/-- THE SECOND FORM's CARD OF 'assayerlaw3.MinimOne'. -/
def minimOneUptoCard : Claim7 := { stood := { row := minimOneUptoRow, standIns := [], harness := (true, "05684fb8383abb2a5cd0493c38c202ef90034119326f77dd65ae0fd97c2bcb63"), looks := true }, kinds := [], alts := [], laidByText := true, laidKinds := [.handle], laidTests := true, laidLooks := .later }
def MinimOneUptoCardSaid : Prop := Claim7.holds Tryd.pinned (.plain (OpenSpec.upto minimOneSpec)) minimOneUptoCard

/-- THE SECOND FORM's CARD OF 'assayerlaw3.WsetTells'. -/
def wsetTellsUptoCard : Claim7 := { stood := { row := wsetTellsUptoRow, standIns := [], harness := (true, "05684fb8383abb2a5cd0493c38c202ef90034119326f77dd65ae0fd97c2bcb63"), looks := true }, kinds := [], alts := [], laidByText := true, laidKinds := [.handle], laidTests := true, laidLooks := .later }
def WsetTellsUptoCardSaid : Prop := Claim7.holds Tryd.pinned (.plain (OpenSpec.upto wsetTellsSpec)) wsetTellsUptoCard
end Rows
end Go.Proofs.YtfalbffpdgfepaaDoor
