/-
  NARROWER THAN 'FOR EVERY INPUT', by the rows' own cells (each row's printed sentence says how): MealyTells: laid · MealyApart: laid · MealyTurned: laid · MinimAlike: laid · MinimTells: laid · MinimSame: laid · MinimOne: laid · WsetTells: laid.
  DERIVED. THE GIVEN ROWS OF THIS SEAT. 8 by the template 'for every input the law returns true; each argument reads behind the call as it read before'; 0 by the template 'total and deterministic' (their statements: YtfalbffpdgfepaaDoorTotals.lean).
  GIVEN WITH THE SEED: the statements are not yours to turn. If you find one false, say at which input.
  Laid BY PROGRAM, IN A SANDBOX (cutbox-rows.mjs): the forced cells as the released guide's own fill.sh prints them over the translation 1d8cd0763884a92b… (all of the seat's roots in one cut). By AI agents, Wed Nov 11 2026. No macro, syntax, notation, axiom, sorry.
-/
import Derived.Test.YtfalbffpdgfepaaDoorChecked
import GoSem.Claim
import GoSem.ClaimJoined
import GoSem.ClaimMapViews
import Derived.JoinedTies
import Derived.KernelRfl
namespace Go.Proofs.YtfalbffpdgfepaaDoor
/- THE CELL 'sum', in the pinned program and in every row, IS THE sha256 OF THE DUMP (.gsa) THAT YtfalbffpdgfepaaDoorProg.lean LOADS. Nothing in Lean hashes anything: it is a label: what it is worth is what the hold of that sum in a sandbox is worth. -/
noncomputable def Tryd.pinned : Pinned := { name := "ytfalbffpdgfepaadoor", sum := "1d8cd0763884a92bee1b60431c220ff3ac6962b26187f6f66c72ca9be2c15066", checked := Tryd.checked }
namespace Rows
def none {H : Type} : Left H := { results := [], args := [] }

/- WHAT THE LISTED PACKAGE-LEVEL VARIABLES READ AS WHEN THE CALL BEGINS. Each datum BY PROGRAM (the guide's laid-datum.mjs) off the statement by which the dump's own 'gosem.cut.vars' lays the variable. In a bare row this is a premise. The card (YtfalbffpdgfepaaDoorCards.lean) ties it to the program's text. -/
def laid_errors_errorType {H : Type} : DataW H := .iface "internal/reflectlite.rtype" (.agg [.ptr (.lit (.string [101, 114, 114, 111, 114]))])

/-- 'assayerlaw3.MealyTells': WHATEVER THE INPUT: true; the input reads as it did. -/
def mealyTellsSpec : ChangeSpec := { name := "mealyTells", fn := fun _ => fun
  | [d1, d2, d3, d4] => { results := [.lit (.bool true)], args := [d1, d2, d3, d4] }
  | _ => none }
def mealyTellsRow : OpenClaim := { program := "ytfalbffpdgfepaadoor", sum := "1d8cd0763884a92bee1b60431c220ff3ac6962b26187f6f66c72ca9be2c15066", func := "assayer/assayerlaw3.MealyTells", spec := "mealyTells", inPlace := ["internal/reflectlite.ValueOf", "(internal/reflectlite.Value).Type", "(internal/reflectlite.Value).IsNil", "internal/reflectlite.TypeOf", "(internal/reflectlite.Value).Elem", "(internal/reflectlite.Value).Set"], unfollowed := true, recurses := true, named := ["errors.errorType"], plainKeys := false, apart := false, laid := [("errors.errorType", laid_errors_errorType)] }
def MealyTellsSaid : Prop := mealyTellsRow.holds Tryd.pinned (OpenSpec.ofChange mealyTellsSpec)

/-- ITS FALSE NEIGHBOUR: 'it returns false'. Refute it at one input. -/
def mealyTellsWrong : ChangeSpec := { name := "mealyTells", fn := fun _ => fun
  | [d1, d2, d3, d4] => { results := [.lit (.bool false)], args := [d1, d2, d3, d4] }
  | _ => none }
def MealyTellsWrongFalsely : Prop := mealyTellsRow.holds Tryd.pinned (OpenSpec.ofChange mealyTellsWrong)

/-- 'assayerlaw3.MealyApart': WHATEVER THE INPUT: true; the input reads as it did. -/
def mealyApartSpec : ChangeSpec := { name := "mealyApart", fn := fun _ => fun
  | [d1, d2, d3] => { results := [.lit (.bool true)], args := [d1, d2, d3] }
  | _ => none }
def mealyApartRow : OpenClaim := { program := "ytfalbffpdgfepaadoor", sum := "1d8cd0763884a92bee1b60431c220ff3ac6962b26187f6f66c72ca9be2c15066", func := "assayer/assayerlaw3.MealyApart", spec := "mealyApart", inPlace := ["internal/reflectlite.ValueOf", "(internal/reflectlite.Value).Type", "(internal/reflectlite.Value).IsNil", "internal/reflectlite.TypeOf", "(internal/reflectlite.Value).Elem", "(internal/reflectlite.Value).Set"], unfollowed := true, recurses := true, named := ["errors.errorType"], plainKeys := false, apart := false, laid := [("errors.errorType", laid_errors_errorType)] }
def MealyApartSaid : Prop := mealyApartRow.holds Tryd.pinned (OpenSpec.ofChange mealyApartSpec)

/-- ITS FALSE NEIGHBOUR: 'it returns false'. Refute it at one input. -/
def mealyApartWrong : ChangeSpec := { name := "mealyApart", fn := fun _ => fun
  | [d1, d2, d3] => { results := [.lit (.bool false)], args := [d1, d2, d3] }
  | _ => none }
def MealyApartWrongFalsely : Prop := mealyApartRow.holds Tryd.pinned (OpenSpec.ofChange mealyApartWrong)

/-- 'assayerlaw3.MealyTurned': WHATEVER THE INPUT: true; the input reads as it did. -/
def mealyTurnedSpec : ChangeSpec := { name := "mealyTurned", fn := fun _ => fun
  | [d1, d2] => { results := [.lit (.bool true)], args := [d1, d2] }
  | _ => none }
def mealyTurnedRow : OpenClaim := { program := "ytfalbffpdgfepaadoor", sum := "1d8cd0763884a92bee1b60431c220ff3ac6962b26187f6f66c72ca9be2c15066", func := "assayer/assayerlaw3.MealyTurned", spec := "mealyTurned", inPlace := ["internal/reflectlite.ValueOf", "(internal/reflectlite.Value).Type", "(internal/reflectlite.Value).IsNil", "internal/reflectlite.TypeOf", "(internal/reflectlite.Value).Elem", "(internal/reflectlite.Value).Set"], unfollowed := true, recurses := true, named := ["errors.errorType"], plainKeys := false, apart := false, laid := [("errors.errorType", laid_errors_errorType)] }
def MealyTurnedSaid : Prop := mealyTurnedRow.holds Tryd.pinned (OpenSpec.ofChange mealyTurnedSpec)

/-- ITS FALSE NEIGHBOUR: 'it returns false'. Refute it at one input. -/
def mealyTurnedWrong : ChangeSpec := { name := "mealyTurned", fn := fun _ => fun
  | [d1, d2] => { results := [.lit (.bool false)], args := [d1, d2] }
  | _ => none }
def MealyTurnedWrongFalsely : Prop := mealyTurnedRow.holds Tryd.pinned (OpenSpec.ofChange mealyTurnedWrong)

/-- 'assayerlaw3.MinimAlike': WHATEVER THE INPUT: true; the input reads as it did. -/
def minimAlikeSpec : ChangeSpec := { name := "minimAlike", fn := fun _ => fun
  | [d1, d2, d3, d4] => { results := [.lit (.bool true)], args := [d1, d2, d3, d4] }
  | _ => none }
def minimAlikeRow : OpenClaim := { program := "ytfalbffpdgfepaadoor", sum := "1d8cd0763884a92bee1b60431c220ff3ac6962b26187f6f66c72ca9be2c15066", func := "assayer/assayerlaw3.MinimAlike", spec := "minimAlike", inPlace := ["internal/reflectlite.ValueOf", "(internal/reflectlite.Value).Type", "(internal/reflectlite.Value).IsNil", "internal/reflectlite.TypeOf", "(internal/reflectlite.Value).Elem", "(internal/reflectlite.Value).Set"], unfollowed := true, recurses := true, named := ["errors.errorType"], plainKeys := false, apart := false, laid := [("errors.errorType", laid_errors_errorType)] }
def MinimAlikeSaid : Prop := minimAlikeRow.holds Tryd.pinned (OpenSpec.ofChange minimAlikeSpec)

/-- ITS FALSE NEIGHBOUR: 'it returns false'. Refute it at one input. -/
def minimAlikeWrong : ChangeSpec := { name := "minimAlike", fn := fun _ => fun
  | [d1, d2, d3, d4] => { results := [.lit (.bool false)], args := [d1, d2, d3, d4] }
  | _ => none }
def MinimAlikeWrongFalsely : Prop := minimAlikeRow.holds Tryd.pinned (OpenSpec.ofChange minimAlikeWrong)

/-- 'assayerlaw3.MinimTells': WHATEVER THE INPUT: true; the input reads as it did. -/
def minimTellsSpec : ChangeSpec := { name := "minimTells", fn := fun _ => fun
  | [d] => { results := [.lit (.bool true)], args := [d] }
  | _ => none }
def minimTellsRow : OpenClaim := { program := "ytfalbffpdgfepaadoor", sum := "1d8cd0763884a92bee1b60431c220ff3ac6962b26187f6f66c72ca9be2c15066", func := "assayer/assayerlaw3.MinimTells", spec := "minimTells", inPlace := ["internal/reflectlite.ValueOf", "(internal/reflectlite.Value).Type", "(internal/reflectlite.Value).IsNil", "internal/reflectlite.TypeOf", "(internal/reflectlite.Value).Elem", "(internal/reflectlite.Value).Set"], unfollowed := true, recurses := true, named := ["errors.errorType"], plainKeys := false, apart := false, laid := [("errors.errorType", laid_errors_errorType)] }
def MinimTellsSaid : Prop := minimTellsRow.holds Tryd.pinned (OpenSpec.ofChange minimTellsSpec)

/-- ITS FALSE NEIGHBOUR: 'it returns false'. Refute it at one input. -/
def minimTellsWrong : ChangeSpec := { name := "minimTells", fn := fun _ => fun
  | [d] => { results := [.lit (.bool false)], args := [d] }
  | _ => none }
def MinimTellsWrongFalsely : Prop := minimTellsRow.holds Tryd.pinned (OpenSpec.ofChange minimTellsWrong)

/-- 'assayerlaw3.MinimSame': WHATEVER THE INPUT: true; the input reads as it did. -/
def minimSameSpec : ChangeSpec := { name := "minimSame", fn := fun _ => fun
  | [d1, d2] => { results := [.lit (.bool true)], args := [d1, d2] }
  | _ => none }
def minimSameRow : OpenClaim := { program := "ytfalbffpdgfepaadoor", sum := "1d8cd0763884a92bee1b60431c220ff3ac6962b26187f6f66c72ca9be2c15066", func := "assayer/assayerlaw3.MinimSame", spec := "minimSame", inPlace := ["internal/reflectlite.ValueOf", "(internal/reflectlite.Value).Type", "(internal/reflectlite.Value).IsNil", "internal/reflectlite.TypeOf", "(internal/reflectlite.Value).Elem", "(internal/reflectlite.Value).Set"], unfollowed := true, recurses := true, named := ["errors.errorType"], plainKeys := false, apart := false, laid := [("errors.errorType", laid_errors_errorType)] }
def MinimSameSaid : Prop := minimSameRow.holds Tryd.pinned (OpenSpec.ofChange minimSameSpec)

/-- ITS FALSE NEIGHBOUR: 'it returns false'. Refute it at one input. -/
def minimSameWrong : ChangeSpec := { name := "minimSame", fn := fun _ => fun
  | [d1, d2] => { results := [.lit (.bool false)], args := [d1, d2] }
  | _ => none }
def MinimSameWrongFalsely : Prop := minimSameRow.holds Tryd.pinned (OpenSpec.ofChange minimSameWrong)

/-- 'assayerlaw3.MinimOne': WHATEVER THE INPUT: true; the input reads as it did. -/
def minimOneSpec : ChangeSpec := { name := "minimOne", fn := fun _ => fun
  | [d1, d2] => { results := [.lit (.bool true)], args := [d1, d2] }
  | _ => none }
def minimOneRow : OpenClaim := { program := "ytfalbffpdgfepaadoor", sum := "1d8cd0763884a92bee1b60431c220ff3ac6962b26187f6f66c72ca9be2c15066", func := "assayer/assayerlaw3.MinimOne", spec := "minimOne", inPlace := ["internal/reflectlite.ValueOf", "(internal/reflectlite.Value).Type", "(internal/reflectlite.Value).IsNil", "internal/reflectlite.TypeOf", "(internal/reflectlite.Value).Elem", "(internal/reflectlite.Value).Set"], unfollowed := true, recurses := true, named := ["errors.errorType"], plainKeys := false, apart := false, laid := [("errors.errorType", laid_errors_errorType)] }
def MinimOneSaid : Prop := minimOneRow.holds Tryd.pinned (OpenSpec.ofChange minimOneSpec)

/-- ITS FALSE NEIGHBOUR: 'it returns false'. Refute it at one input. -/
def minimOneWrong : ChangeSpec := { name := "minimOne", fn := fun _ => fun
  | [d1, d2] => { results := [.lit (.bool false)], args := [d1, d2] }
  | _ => none }
def MinimOneWrongFalsely : Prop := minimOneRow.holds Tryd.pinned (OpenSpec.ofChange minimOneWrong)

/-- 'assayerlaw3.WsetTells': WHATEVER THE INPUT: true; the input reads as it did. -/
def wsetTellsSpec : ChangeSpec := { name := "wsetTells", fn := fun _ => fun
  | [d1, d2, d3, d4, d5] => { results := [.lit (.bool true)], args := [d1, d2, d3, d4, d5] }
  | _ => none }
def wsetTellsRow : OpenClaim := { program := "ytfalbffpdgfepaadoor", sum := "1d8cd0763884a92bee1b60431c220ff3ac6962b26187f6f66c72ca9be2c15066", func := "assayer/assayerlaw3.WsetTells", spec := "wsetTells", inPlace := ["internal/reflectlite.ValueOf", "(internal/reflectlite.Value).Type", "(internal/reflectlite.Value).IsNil", "internal/reflectlite.TypeOf", "(internal/reflectlite.Value).Elem", "(internal/reflectlite.Value).Set"], unfollowed := true, recurses := true, named := ["errors.errorType"], plainKeys := false, apart := false, laid := [("errors.errorType", laid_errors_errorType)] }
def WsetTellsSaid : Prop := wsetTellsRow.holds Tryd.pinned (OpenSpec.ofChange wsetTellsSpec)

/-- ITS FALSE NEIGHBOUR: 'it returns false'. Refute it at one input. -/
def wsetTellsWrong : ChangeSpec := { name := "wsetTells", fn := fun _ => fun
  | [d1, d2, d3, d4, d5] => { results := [.lit (.bool false)], args := [d1, d2, d3, d4, d5] }
  | _ => none }
def WsetTellsWrongFalsely : Prop := wsetTellsRow.holds Tryd.pinned (OpenSpec.ofChange wsetTellsWrong)

/- THE SECOND FORM. 'bulk': how many values and letters a reading holds, each counted each time it is reached (what is shared counts as often as it is met; a slice's spare places count too). A statement '..UptoSaid' is the law's where the arguments, and the package variables that the reading takes, are together of bulk at most 1048576: NARROWER than '..Said'. Prove '..Said' where nothing that the law and all that it calls make is longer than what came in: it says more and counts as full. Else prove '..UptoSaid'. A law counts once. -/
mutual
def uptoBulk {H : Type} : DataW H → Nat
  | .lit (.string bytes) => bytes.length + 1
  | .lit _ => 1
  | .nil => 1
  | .ptr d => uptoBulk d + 1
  | .slice elems spare => uptoBulkAll elems + uptoBulkAll spare + 1
  | .agg parts => uptoBulkAll parts + 1
  | .iface _ d => uptoBulk d + 1
  | .map entries => uptoBulkEntries entries + 1
  | .held _ => 1
def uptoBulkAll {H : Type} : List (DataW H) → Nat
  | [] => 0
  | d :: r => uptoBulk d + uptoBulkAll r
def uptoBulkEntries {H : Type} : List (Lit × DataW H) → Nat
  | [] => 0
  | x :: r => uptoBulkEntry x + uptoBulkEntries r
def uptoBulkEntry {H : Type} : Lit × DataW H → Nat
  | (.string bytes, d) => bytes.length + uptoBulk d + 1
  | (_, d) => uptoBulk d + 1
 end
def uptoSmall : (H : Type) → List (DataW H) → Bool := fun _ ds => decide (uptoBulkAll ds ≤ 1048576)
def OpenSpec.upto (s : _root_.Go.ChangeSpec) : _root_.Go.OpenSpec := { _root_.Go.OpenSpec.ofChange s with cond := some uptoSmall }

/-- 'assayerlaw3.MealyTells', WHERE WHAT IT READS IS OF BULK AT MOST 1048576: true; the input reads as it did. -/
def mealyTellsUptoRow : OpenClaim := { program := "ytfalbffpdgfepaadoor", sum := "1d8cd0763884a92bee1b60431c220ff3ac6962b26187f6f66c72ca9be2c15066", func := "assayer/assayerlaw3.MealyTells", spec := "mealyTells", inPlace := ["internal/reflectlite.ValueOf", "(internal/reflectlite.Value).Type", "(internal/reflectlite.Value).IsNil", "internal/reflectlite.TypeOf", "(internal/reflectlite.Value).Elem", "(internal/reflectlite.Value).Set"], unfollowed := true, recurses := true, named := ["errors.errorType"], plainKeys := false, apart := false, laid := [("errors.errorType", laid_errors_errorType)], narrowed := true }
def MealyTellsUptoSaid : Prop := mealyTellsUptoRow.holds Tryd.pinned (OpenSpec.upto mealyTellsSpec)

/-- 'assayerlaw3.MealyApart', WHERE WHAT IT READS IS OF BULK AT MOST 1048576: true; the input reads as it did. -/
def mealyApartUptoRow : OpenClaim := { program := "ytfalbffpdgfepaadoor", sum := "1d8cd0763884a92bee1b60431c220ff3ac6962b26187f6f66c72ca9be2c15066", func := "assayer/assayerlaw3.MealyApart", spec := "mealyApart", inPlace := ["internal/reflectlite.ValueOf", "(internal/reflectlite.Value).Type", "(internal/reflectlite.Value).IsNil", "internal/reflectlite.TypeOf", "(internal/reflectlite.Value).Elem", "(internal/reflectlite.Value).Set"], unfollowed := true, recurses := true, named := ["errors.errorType"], plainKeys := false, apart := false, laid := [("errors.errorType", laid_errors_errorType)], narrowed := true }
def MealyApartUptoSaid : Prop := mealyApartUptoRow.holds Tryd.pinned (OpenSpec.upto mealyApartSpec)

/-- 'assayerlaw3.MealyTurned', WHERE WHAT IT READS IS OF BULK AT MOST 1048576: true; the input reads as it did. -/
def mealyTurnedUptoRow : OpenClaim := { program := "ytfalbffpdgfepaadoor", sum := "1d8cd0763884a92bee1b60431c220ff3ac6962b26187f6f66c72ca9be2c15066", func := "assayer/assayerlaw3.MealyTurned", spec := "mealyTurned", inPlace := ["internal/reflectlite.ValueOf", "(internal/reflectlite.Value).Type", "(internal/reflectlite.Value).IsNil", "internal/reflectlite.TypeOf", "(internal/reflectlite.Value).Elem", "(internal/reflectlite.Value).Set"], unfollowed := true, recurses := true, named := ["errors.errorType"], plainKeys := false, apart := false, laid := [("errors.errorType", laid_errors_errorType)], narrowed := true }
def MealyTurnedUptoSaid : Prop := mealyTurnedUptoRow.holds Tryd.pinned (OpenSpec.upto mealyTurnedSpec)

/-- 'assayerlaw3.MinimAlike', WHERE WHAT IT READS IS OF BULK AT MOST 1048576: true; the input reads as it did. -/
def minimAlikeUptoRow : OpenClaim := { program := "ytfalbffpdgfepaadoor", sum := "1d8cd0763884a92bee1b60431c220ff3ac6962b26187f6f66c72ca9be2c15066", func := "assayer/assayerlaw3.MinimAlike", spec := "minimAlike", inPlace := ["internal/reflectlite.ValueOf", "(internal/reflectlite.Value).Type", "(internal/reflectlite.Value).IsNil", "internal/reflectlite.TypeOf", "(internal/reflectlite.Value).Elem", "(internal/reflectlite.Value).Set"], unfollowed := true, recurses := true, named := ["errors.errorType"], plainKeys := false, apart := false, laid := [("errors.errorType", laid_errors_errorType)], narrowed := true }
def MinimAlikeUptoSaid : Prop := minimAlikeUptoRow.holds Tryd.pinned (OpenSpec.upto minimAlikeSpec)

/-- 'assayerlaw3.MinimTells', WHERE WHAT IT READS IS OF BULK AT MOST 1048576: true; the input reads as it did. -/
def minimTellsUptoRow : OpenClaim := { program := "ytfalbffpdgfepaadoor", sum := "1d8cd0763884a92bee1b60431c220ff3ac6962b26187f6f66c72ca9be2c15066", func := "assayer/assayerlaw3.MinimTells", spec := "minimTells", inPlace := ["internal/reflectlite.ValueOf", "(internal/reflectlite.Value).Type", "(internal/reflectlite.Value).IsNil", "internal/reflectlite.TypeOf", "(internal/reflectlite.Value).Elem", "(internal/reflectlite.Value).Set"], unfollowed := true, recurses := true, named := ["errors.errorType"], plainKeys := false, apart := false, laid := [("errors.errorType", laid_errors_errorType)], narrowed := true }
def MinimTellsUptoSaid : Prop := minimTellsUptoRow.holds Tryd.pinned (OpenSpec.upto minimTellsSpec)

/-- 'assayerlaw3.MinimSame', WHERE WHAT IT READS IS OF BULK AT MOST 1048576: true; the input reads as it did. -/
def minimSameUptoRow : OpenClaim := { program := "ytfalbffpdgfepaadoor", sum := "1d8cd0763884a92bee1b60431c220ff3ac6962b26187f6f66c72ca9be2c15066", func := "assayer/assayerlaw3.MinimSame", spec := "minimSame", inPlace := ["internal/reflectlite.ValueOf", "(internal/reflectlite.Value).Type", "(internal/reflectlite.Value).IsNil", "internal/reflectlite.TypeOf", "(internal/reflectlite.Value).Elem", "(internal/reflectlite.Value).Set"], unfollowed := true, recurses := true, named := ["errors.errorType"], plainKeys := false, apart := false, laid := [("errors.errorType", laid_errors_errorType)], narrowed := true }
def MinimSameUptoSaid : Prop := minimSameUptoRow.holds Tryd.pinned (OpenSpec.upto minimSameSpec)

/-- 'assayerlaw3.MinimOne', WHERE WHAT IT READS IS OF BULK AT MOST 1048576: true; the input reads as it did. -/
def minimOneUptoRow : OpenClaim := { program := "ytfalbffpdgfepaadoor", sum := "1d8cd0763884a92bee1b60431c220ff3ac6962b26187f6f66c72ca9be2c15066", func := "assayer/assayerlaw3.MinimOne", spec := "minimOne", inPlace := ["internal/reflectlite.ValueOf", "(internal/reflectlite.Value).Type", "(internal/reflectlite.Value).IsNil", "internal/reflectlite.TypeOf", "(internal/reflectlite.Value).Elem", "(internal/reflectlite.Value).Set"], unfollowed := true, recurses := true, named := ["errors.errorType"], plainKeys := false, apart := false, laid := [("errors.errorType", laid_errors_errorType)], narrowed := true }
def MinimOneUptoSaid : Prop := minimOneUptoRow.holds Tryd.pinned (OpenSpec.upto minimOneSpec)

/-- 'assayerlaw3.WsetTells', WHERE WHAT IT READS IS OF BULK AT MOST 1048576: true; the input reads as it did. -/
def wsetTellsUptoRow : OpenClaim := { program := "ytfalbffpdgfepaadoor", sum := "1d8cd0763884a92bee1b60431c220ff3ac6962b26187f6f66c72ca9be2c15066", func := "assayer/assayerlaw3.WsetTells", spec := "wsetTells", inPlace := ["internal/reflectlite.ValueOf", "(internal/reflectlite.Value).Type", "(internal/reflectlite.Value).IsNil", "internal/reflectlite.TypeOf", "(internal/reflectlite.Value).Elem", "(internal/reflectlite.Value).Set"], unfollowed := true, recurses := true, named := ["errors.errorType"], plainKeys := false, apart := false, laid := [("errors.errorType", laid_errors_errorType)], narrowed := true }
def WsetTellsUptoSaid : Prop := wsetTellsUptoRow.holds Tryd.pinned (OpenSpec.upto wsetTellsSpec)

end Rows
end Go.Proofs.YtfalbffpdgfepaaDoor
