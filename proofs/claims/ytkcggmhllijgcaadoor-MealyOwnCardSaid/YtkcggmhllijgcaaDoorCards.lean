/-
  DERIVED. GIVEN WITH THE SEED: THE CARDS: each row of YtkcggmhllijgcaaDoorRows.lean that lists a variable, with what it lists TIED to the program's text (the seventh form; the later family's looks); each row that meets fmt, with fmt's text TOLD by the authors' own Lean function (tested against real Go, not proved from fmt's source: count such statements apart). THE CARD IS WHAT COUNTS. Prove the row's statement (the work); the ties are given (YtkcggmhllijgcaaDoorTie.lean); close each card by the builder's one call (the guide's Derived/Test/ToyasCard.lean, 'card_holds'). Laid BY PROGRAM, IN A SANDBOX (cutbox-door.mjs). By AI agents, Wed Nov 11 2026. No macro, syntax, notation, axiom, sorry.
-/
import Derived.Test.YtkcggmhllijgcaaDoorRows
import GoSem.ClaimSeven
namespace Go.Proofs.YtkcggmhllijgcaaDoor
namespace Rows

/-- THE TIED CARD OF 'assayerlaw3.LearnRange'. -/
def learnRangeCard : Claim7 := { stood := { row := learnRangeRow, standIns := [], harness := (true, "f0f3d1201adb34918d783a26f88c44f5a6ad1932059872134a5a3b77f9be6f5e"), looks := true }, kinds := [], alts := [], laidByText := true, laidKinds := [.handle], laidTests := true, laidLooks := .later }
def LearnRangeCardSaid : Prop := Claim7.holds Tryd.pinned (.plain (OpenSpec.ofChange learnRangeSpec)) learnRangeCard

/-- THE TIED CARD OF 'assayerlaw3.LearnSame'. -/
def learnSameCard : Claim7 := { stood := { row := learnSameRow, standIns := [], harness := (true, "f0f3d1201adb34918d783a26f88c44f5a6ad1932059872134a5a3b77f9be6f5e"), looks := true }, kinds := [], alts := [], laidByText := true, laidKinds := [.handle], laidTests := true, laidLooks := .later }
def LearnSameCardSaid : Prop := Claim7.holds Tryd.pinned (.plain (OpenSpec.ofChange learnSameSpec)) learnSameCard

/-- THE TIED CARD OF 'assayerlaw3.WsetChow'. -/
def wsetChowCard : Claim7 := { stood := { row := wsetChowRow, standIns := [], harness := (true, "f0f3d1201adb34918d783a26f88c44f5a6ad1932059872134a5a3b77f9be6f5e"), looks := true }, kinds := [], alts := [], laidByText := true, laidKinds := [.handle], laidTests := true, laidLooks := .later }
def WsetChowCardSaid : Prop := Claim7.holds Tryd.pinned (.plain (OpenSpec.ofChange wsetChowSpec)) wsetChowCard

/-- THE TIED CARD OF 'assayerlaw5.MealyOwn'. -/
def mealyOwnCard : Claim7 := { stood := { row := mealyOwnRow, standIns := [], harness := (true, "f0f3d1201adb34918d783a26f88c44f5a6ad1932059872134a5a3b77f9be6f5e"), looks := true }, kinds := [], alts := [], laidByText := true, laidKinds := [.handle], laidTests := true, laidLooks := .later }
def MealyOwnCardSaid : Prop := Claim7.holds Tryd.pinned (.plain (OpenSpec.ofChange mealyOwnSpec)) mealyOwnCard

/-- THE SECOND FORM's CARD OF 'assayerlaw3.LearnRange'. -/
def learnRangeUptoCard : Claim7 := { stood := { row := learnRangeUptoRow, standIns := [], harness := (true, "f0f3d1201adb34918d783a26f88c44f5a6ad1932059872134a5a3b77f9be6f5e"), looks := true }, kinds := [], alts := [], laidByText := true, laidKinds := [.handle], laidTests := true, laidLooks := .later }
def LearnRangeUptoCardSaid : Prop := Claim7.holds Tryd.pinned (.plain (OpenSpec.upto learnRangeSpec)) learnRangeUptoCard

/-- THE SECOND FORM's CARD OF 'assayerlaw3.LearnSame'. -/
def learnSameUptoCard : Claim7 := { stood := { row := learnSameUptoRow, standIns := [], harness := (true, "f0f3d1201adb34918d783a26f88c44f5a6ad1932059872134a5a3b77f9be6f5e"), looks := true }, kinds := [], alts := [], laidByText := true, laidKinds := [.handle], laidTests := true, laidLooks := .later }
def LearnSameUptoCardSaid : Prop := Claim7.holds Tryd.pinned (.plain (OpenSpec.upto learnSameSpec)) learnSameUptoCard

/-- THE SECOND FORM's CARD OF 'assayerlaw3.WsetChow'. -/
def wsetChowUptoCard : Claim7 := { stood := { row := wsetChowUptoRow, standIns := [], harness := (true, "f0f3d1201adb34918d783a26f88c44f5a6ad1932059872134a5a3b77f9be6f5e"), looks := true }, kinds := [], alts := [], laidByText := true, laidKinds := [.handle], laidTests := true, laidLooks := .later }
def WsetChowUptoCardSaid : Prop := Claim7.holds Tryd.pinned (.plain (OpenSpec.upto wsetChowSpec)) wsetChowUptoCard

/-- THE SECOND FORM's CARD OF 'assayerlaw5.MealyOwn'. -/
def mealyOwnUptoCard : Claim7 := { stood := { row := mealyOwnUptoRow, standIns := [], harness := (true, "f0f3d1201adb34918d783a26f88c44f5a6ad1932059872134a5a3b77f9be6f5e"), looks := true }, kinds := [], alts := [], laidByText := true, laidKinds := [.handle], laidTests := true, laidLooks := .later }
def MealyOwnUptoCardSaid : Prop := Claim7.holds Tryd.pinned (.plain (OpenSpec.upto mealyOwnSpec)) mealyOwnUptoCard
end Rows
end Go.Proofs.YtkcggmhllijgcaaDoor
