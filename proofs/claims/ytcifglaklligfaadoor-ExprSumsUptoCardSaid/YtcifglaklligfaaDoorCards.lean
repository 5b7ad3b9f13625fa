/-
  DERIVED. GIVEN WITH THE SEED: THE CARDS: each row of YtcifglaklligfaaDoorRows.lean that lists a variable, with what it lists TIED to the program's text (the seventh form; the later family's looks); each row that meets fmt, with fmt's text TOLD by the authors' own Lean function (tested against real Go, not proved from fmt's source: count such statements apart). THE CARD IS WHAT COUNTS. Prove the row's statement (the work); the ties are given (YtcifglaklligfaaDoorTie.lean); close each card by the builder's one call (the guide's Derived/Test/ToyasCard.lean, 'card_holds'). Laid BY PROGRAM, IN A SANDBOX (cutbox-door.mjs). By AI agents, Wed Nov 11 2026. No macro, syntax, notation, axiom, sorry.
-/
import Derived.Test.YtcifglaklligfaaDoorRows
import GoSem.ClaimSeven
namespace Go.Proofs.YtcifglaklligfaaDoor
namespace Rows

/-- THE TIED CARD OF 'assayerlaw3.MutateRight'. -/
def mutateRightCard : Claim7 := { stood := { row := mutateRightRow, standIns := [], harness := (true, "b4d36b810b915df893fc7fd62227df685db8d51aa72d846b850be16dcd7ab164"), looks := true }, kinds := [], alts := [], laidByText := true, laidKinds := [.data, .widerDeep, .widerDeep], laidTests := true, laidLooks := .later }
def MutateRightCardSaid : Prop := Claim7.holds Tryd.pinned (.plain (OpenSpec.ofChange mutateRightSpec)) mutateRightCard

/-- THE TIED CARD OF 'assayerlaw6.MutateMany'. -/
def mutateManyCard : Claim7 := { stood := { row := mutateManyRow, standIns := [], harness := (true, "b4d36b810b915df893fc7fd62227df685db8d51aa72d846b850be16dcd7ab164"), looks := true }, kinds := [], alts := [], laidByText := true, laidKinds := [.data, .widerDeep, .widerDeep], laidTests := true, laidLooks := .later }
def MutateManyCardSaid : Prop := Claim7.holds Tryd.pinned (.plain (OpenSpec.ofChange mutateManySpec)) mutateManyCard

/-- THE TIED CARD OF 'assayerlaw3.MutateKills'. -/
def mutateKillsCard : Claim7 := { stood := { row := mutateKillsRow, standIns := [], harness := (true, "b4d36b810b915df893fc7fd62227df685db8d51aa72d846b850be16dcd7ab164"), looks := true }, kinds := [], alts := [], laidByText := true, laidKinds := [.data, .widerDeep, .widerDeep], laidTests := true, laidLooks := .later }
def MutateKillsCardSaid : Prop := Claim7.holds Tryd.pinned (.plain (OpenSpec.ofChange mutateKillsSpec)) mutateKillsCard

/-- THE TIED CARD OF 'assayerlaw3.MutateAlive'. -/
def mutateAliveCard : Claim7 := { stood := { row := mutateAliveRow, standIns := [], harness := (true, "b4d36b810b915df893fc7fd62227df685db8d51aa72d846b850be16dcd7ab164"), looks := true }, kinds := [], alts := [], laidByText := true, laidKinds := [.data, .widerDeep, .widerDeep], laidTests := true, laidLooks := .later }
def MutateAliveCardSaid : Prop := Claim7.holds Tryd.pinned (.plain (OpenSpec.ofChange mutateAliveSpec)) mutateAliveCard

/-- THE TIED CARD OF 'assayerlaw5.MutateOwn'. -/
def mutateOwnCard : Claim7 := { stood := { row := mutateOwnRow, standIns := [], harness := (true, "b4d36b810b915df893fc7fd62227df685db8d51aa72d846b850be16dcd7ab164"), looks := true }, kinds := [], alts := [], laidByText := true, laidKinds := [.handle, .data, .widerDeep, .widerDeep], laidTests := true, laidLooks := .later }
def MutateOwnCardSaid : Prop := Claim7.holds Tryd.pinned (.plain (OpenSpec.ofChange mutateOwnSpec)) mutateOwnCard

/-- THE TIED CARD OF 'assayerlaw3.MutateTells'. -/
def mutateTellsCard : Claim7 := { stood := { row := mutateTellsRow, standIns := [], harness := (true, "b4d36b810b915df893fc7fd62227df685db8d51aa72d846b850be16dcd7ab164"), looks := true }, kinds := [], alts := [], laidByText := true, laidKinds := [.handle, .data, .widerDeep, .widerDeep], laidTests := true, laidLooks := .later }
def MutateTellsCardSaid : Prop := Claim7.holds Tryd.pinned (.plain (OpenSpec.ofChange mutateTellsSpec)) mutateTellsCard

/-- THE TIED CARD OF 'assayerlaw6.ExprTwice'. -/
def exprTwiceCard : Claim7 := { stood := { row := exprTwiceRow, standIns := [], harness := (true, "b4d36b810b915df893fc7fd62227df685db8d51aa72d846b850be16dcd7ab164"), looks := true }, kinds := [], alts := [], laidByText := true, laidKinds := [.data], laidTests := true, laidLooks := .later }
def ExprTwiceCardSaid : Prop := Claim7.holds Tryd.pinned (.plain (OpenSpec.ofChange exprTwiceSpec)) exprTwiceCard

/-- THE TIED CARD OF 'assayerlaw6.ExprSums'. -/
def exprSumsCard : Claim7 := { stood := { row := exprSumsRow, standIns := [], harness := (true, "b4d36b810b915df893fc7fd62227df685db8d51aa72d846b850be16dcd7ab164"), looks := true }, kinds := [], alts := [], laidByText := true, laidKinds := [.data], laidTests := true, laidLooks := .later }
def ExprSumsCardSaid : Prop := Claim7.holds Tryd.pinned (.plain (OpenSpec.ofChange exprSumsSpec)) exprSumsCard

/-- THE SECOND FORM's CARD OF 'assayerlaw3.MutateRight'. -/
def mutateRightUptoCard : Claim7 := { stood := { row := mutateRightUptoRow, standIns := [], harness := (true, "b4d36b810b915df893fc7fd62227df685db8d51aa72d846b850be16dcd7ab164"), looks := true }, kinds := [], alts := [], laidByText := true, laidKinds := [.data, .widerDeep, .widerDeep], laidTests := true, laidLooks := .later }
def MutateRightUptoCardSaid : Prop := Claim7.holds Tryd.pinned (.plain (OpenSpec.upto mutateRightSpec)) mutateRightUptoCard

/-- THE SECOND FORM's CARD OF 'assayerlaw6.MutateMany'. -/
def mutateManyUptoCard : Claim7 := { stood := { row := mutateManyUptoRow, standIns := [], harness := (true, "b4d36b810b915df893fc7fd62227df685db8d51aa72d846b850be16dcd7ab164"), looks := true }, kinds := [], alts := [], laidByText := true, laidKinds := [.data, .widerDeep, .widerDeep], laidTests := true, laidLooks := .later }
def MutateManyUptoCardSaid : Prop := Claim7.holds Tryd.pinned (.plain (OpenSpec.upto mutateManySpec)) mutateManyUptoCard

/-- THE SECOND FORM's CARD OF 'assayerlaw3.MutateKills'. -/
def mutateKillsUptoCard : Claim7 := { stood := { row := mutateKillsUptoRow, standIns := [], harness := (true, "b4d36b810b915df893fc7fd62227df685db8d51aa72d846b850be16dcd7ab164"), looks := true }, kinds := [], alts := [], laidByText := true, laidKinds := [.data, .widerDeep, .widerDeep], laidTests := true, laidLooks := .later }
def MutateKillsUptoCardSaid : Prop := Claim7.holds Tryd.pinned (.plain (OpenSpec.upto mutateKillsSpec)) mutateKillsUptoCard

/-- THE SECOND FORM's CARD OF 'assayerlaw3.MutateAlive'. -/
def mutateAliveUptoCard : Claim7 := { stood := { row := mutateAliveUptoRow, standIns := [], harness := (true, "b4d36b810b915df893fc7fd62227df685db8d51aa72d846b850be16dcd7ab164"), looks := true }, kinds := [], alts := [], laidByText := true, laidKinds := [.data, .widerDeep, .widerDeep], laidTests := true, laidLooks := .later }
def MutateAliveUptoCardSaid : Prop := Claim7.holds Tryd.pinned (.plain (OpenSpec.upto mutateAliveSpec)) mutateAliveUptoCard

/-- THE SECOND FORM's CARD OF 'assayerlaw5.MutateOwn'. -/
def mutateOwnUptoCard : Claim7 := { stood := { row := mutateOwnUptoRow, standIns := [], harness := (true, "b4d36b810b915df893fc7fd62227df685db8d51aa72d846b850be16dcd7ab164"), looks := true }, kinds := [], alts := [], laidByText := true, laidKinds := [.handle, .data, .widerDeep, .widerDeep], laidTests := true, laidLooks := .later }
def MutateOwnUptoCardSaid : Prop := Claim7.holds Tryd.pinned (.plain (OpenSpec.upto mutateOwnSpec)) mutateOwnUptoCard

/-- THE SECOND FORM's CARD OF 'assayerlaw3.MutateTells'. -/
def mutateTellsUptoCard : Claim7 := { stood := { row := mutateTellsUptoRow, standIns := [], harness := (true, "b4d36b810b915df893fc7fd62227df685db8d51aa72d846b850be16dcd7ab164"), looks := true }, kinds := [], alts := [], laidByText := true, laidKinds := [.handle, .data, .widerDeep, .widerDeep], laidTests := true, laidLooks := .later }
def MutateTellsUptoCardSaid : Prop := Claim7.holds Tryd.pinned (.plain (OpenSpec.upto mutateTellsSpec)) mutateTellsUptoCard

/-- THE SECOND FORM's CARD OF 'assayerlaw6.ExprTwice'. -/
def exprTwiceUptoCard : Claim7 := { stood := { row := exprTwiceUptoRow, standIns := [], harness := (true, "b4d36b810b915df893fc7fd62227df685db8d51aa72d846b850be16dcd7ab164"), looks := true }, kinds := [], alts := [], laidByText := true, laidKinds := [.data], laidTests := true, laidLooks := .later }
def ExprTwiceUptoCardSaid : Prop := Claim7.holds Tryd.pinned (.plain (OpenSpec.upto exprTwiceSpec)) exprTwiceUptoCard

/-- THE SECOND FORM's CARD OF 'assayerlaw6.ExprSums'. -/
def exprSumsUptoCard : Claim7 := { stood := { row := exprSumsUptoRow, standIns := [], harness := (true, "b4d36b810b915df893fc7fd62227df685db8d51aa72d846b850be16dcd7ab164"), looks := true }, kinds := [], alts := [], laidByText := true, laidKinds := [.data], laidTests := true, laidLooks := .later }
def ExprSumsUptoCardSaid : Prop := Claim7.holds Tryd.pinned (.plain (OpenSpec.upto exprSumsSpec)) exprSumsUptoCard
end Rows
end Go.Proofs.YtcifglaklligfaaDoor
