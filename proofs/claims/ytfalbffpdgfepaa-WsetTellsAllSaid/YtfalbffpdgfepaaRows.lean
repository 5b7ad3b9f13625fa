/-
  No cell of these rows narrows 'for every input' (looked for: loops, veiled, ifaces, maps, wideKeys, modest, calm, conditions, laid).
  DERIVED. THE GIVEN ROWS OF THIS SEAT. 4 by the template 'for every input the law returns true; each argument reads behind the call as it read before'; 0 by the template 'total and deterministic' (their statements: YtfalbffpdgfepaaTotals.lean).
  GIVEN WITH THE SEED: the statements are not yours to turn. If you find one false, say at which input.
  Laid BY PROGRAM, IN A SANDBOX (cutbox-rows.mjs): the forced cells as the released guide's own fill.sh prints them over the translation 97e6c142133a4084… (all of the seat's roots in one cut). By AI agents, Wed Nov 11 2026. No macro, syntax, notation, axiom, sorry.
-/
import Derived.Test.YtfalbffpdgfepaaChecked
import GoSem.Claim
import GoSem.ClaimJoined
import GoSem.ClaimMapViews
import Derived.JoinedTies
import Derived.KernelRfl
namespace Go.Proofs.Ytfalbffpdgfepaa
/- THE CELL 'sum', in the pinned program and in every row, IS THE sha256 OF THE DUMP (.gsa) THAT YtfalbffpdgfepaaProg.lean LOADS. Nothing in Lean hashes anything: it is a label: what it is worth is what the hold of that sum in a sandbox is worth. -/
noncomputable def Try.pinned : Pinned := { name := "ytfalbffpdgfepaa", sum := "97e6c142133a40849218940c6ced75c659a59361fada42bc2e5a3dc34fad3137", checked := Try.checked }
namespace Rows
def none {H : Type} : Left H := { results := [], args := [] }

/-- 'assayerlaw3.MealyParts': WHATEVER THE INPUT: true; the input reads as it did. -/
def mealyPartsSpec : ChangeSpec := { name := "mealyParts", fn := fun _ => fun
  | [d1, d2, d3, d4] => { results := [.lit (.bool true)], args := [d1, d2, d3, d4] }
  | _ => none }
def mealyPartsRow : OpenClaim := { program := "ytfalbffpdgfepaa", sum := "97e6c142133a40849218940c6ced75c659a59361fada42bc2e5a3dc34fad3137", func := "assayer/assayerlaw3.MealyParts", spec := "mealyParts", plainKeys := false, apart := false }
def MealyPartsSaid : Prop := mealyPartsRow.holds Try.pinned (OpenSpec.ofChange mealyPartsSpec)

/-- ITS FALSE NEIGHBOUR: 'it returns false'. Refute it at one input. -/
def mealyPartsWrong : ChangeSpec := { name := "mealyParts", fn := fun _ => fun
  | [d1, d2, d3, d4] => { results := [.lit (.bool false)], args := [d1, d2, d3, d4] }
  | _ => none }
def MealyPartsWrongFalsely : Prop := mealyPartsRow.holds Try.pinned (OpenSpec.ofChange mealyPartsWrong)

/-- 'assayerlaw3.WsetMore': WHATEVER THE INPUT: true; the input reads as it did. -/
def wsetMoreSpec : ChangeSpec := { name := "wsetMore", fn := fun _ => fun
  | [d1, d2, d3, d4] => { results := [.lit (.bool true)], args := [d1, d2, d3, d4] }
  | _ => none }
def wsetMoreRow : OpenClaim := { program := "ytfalbffpdgfepaa", sum := "97e6c142133a40849218940c6ced75c659a59361fada42bc2e5a3dc34fad3137", func := "assayer/assayerlaw3.WsetMore", spec := "wsetMore", plainKeys := false, apart := false }
def WsetMoreSaid : Prop := wsetMoreRow.holds Try.pinned (OpenSpec.ofChange wsetMoreSpec)

/-- ITS FALSE NEIGHBOUR: 'it returns false'. Refute it at one input. -/
def wsetMoreWrong : ChangeSpec := { name := "wsetMore", fn := fun _ => fun
  | [d1, d2, d3, d4] => { results := [.lit (.bool false)], args := [d1, d2, d3, d4] }
  | _ => none }
def WsetMoreWrongFalsely : Prop := wsetMoreRow.holds Try.pinned (OpenSpec.ofChange wsetMoreWrong)

/-- 'assayerlaw6.MinimNames': WHATEVER THE INPUT: true; the input reads as it did. -/
def minimNamesSpec : ChangeSpec := { name := "minimNames", fn := fun _ => fun
  | [d1, d2, d3] => { results := [.lit (.bool true)], args := [d1, d2, d3] }
  | _ => none }
def minimNamesRow : OpenClaim := { program := "ytfalbffpdgfepaa", sum := "97e6c142133a40849218940c6ced75c659a59361fada42bc2e5a3dc34fad3137", func := "assayer/assayerlaw6.MinimNames", spec := "minimNames", unfollowed := true, recurses := true, plainKeys := false, apart := false }
def MinimNamesSaid : Prop := minimNamesRow.holds Try.pinned (OpenSpec.ofChange minimNamesSpec)

/-- ITS FALSE NEIGHBOUR: 'it returns false'. Refute it at one input. -/
def minimNamesWrong : ChangeSpec := { name := "minimNames", fn := fun _ => fun
  | [d1, d2, d3] => { results := [.lit (.bool false)], args := [d1, d2, d3] }
  | _ => none }
def MinimNamesWrongFalsely : Prop := minimNamesRow.holds Try.pinned (OpenSpec.ofChange minimNamesWrong)

/-- 'assayerlaw3.WsetTellsAll': WHATEVER THE INPUT: true; the input reads as it did. -/
def wsetTellsAllSpec : ChangeSpec := { name := "wsetTellsAll", fn := fun _ => fun
  | [d1, d2, d3] => { results := [.lit (.bool true)], args := [d1, d2, d3] }
  | _ => none }
def wsetTellsAllRow : OpenClaim := { program := "ytfalbffpdgfepaa", sum := "97e6c142133a40849218940c6ced75c659a59361fada42bc2e5a3dc34fad3137", func := "assayer/assayerlaw3.WsetTellsAll", spec := "wsetTellsAll", unfollowed := true, recurses := true, plainKeys := false, apart := false }
def WsetTellsAllSaid : Prop := wsetTellsAllRow.holds Try.pinned (OpenSpec.ofChange wsetTellsAllSpec)

/-- ITS FALSE NEIGHBOUR: 'it returns false'. Refute it at one input. -/
def wsetTellsAllWrong : ChangeSpec := { name := "wsetTellsAll", fn := fun _ => fun
  | [d1, d2, d3] => { results := [.lit (.bool false)], args := [d1, d2, d3] }
  | _ => none }
def WsetTellsAllWrongFalsely : Prop := wsetTellsAllRow.holds Try.pinned (OpenSpec.ofChange wsetTellsAllWrong)

/- THE SECOND FORM. 'bulk': how many values and letters a reading holds, each counted each time it is reached (what is shared counts as often as it is met; a slice's spare places count too). A statement '..UptoSaid' is the law's where the arguments, and the package variables that the reading takes, are together of bulk at most 1048576: NARROWER than '..Said'. Prove '..Said' where nothing that the law and all that it calls make is longer than what came in: it says more and counts as full. Else prove '..UptoSaid'. A law counts once. -/
mutual
def uptoBulk {H : Type} : DataW H → Nat
  | .lit (.string bytes) => bytes.length + 1
  | .lit _ => 1
  | .nil => 1
  | .ptr d => uptoBulk d + 1
  | .slice elems spare => uptoBulkAll elems + uptoBulkAll spare + 1
  | .agg parts => uptoBulkAll parts + 1
  | .iface _ d => uptoBulk d + 1
  | .map entries => uptoBulkEntries entries + 1
  | .held _ => 1
def uptoBulkAll {H : Type} : List (DataW H) → Nat
  | [] => 0
  | d :: r => uptoBulk d + uptoBulkAll r
def uptoBulkEntries {H : Type} : List (Lit × DataW H) → Nat
  | [] => 0
  | x :: r => uptoBulkEntry x + uptoBulkEntries r
def uptoBulkEntry {H : Type} : Lit × DataW H → Nat
  | (.string bytes, d) => bytes.length + uptoBulk d + 1
  | (_, d) => uptoBulk d + 1
 end
def uptoSmall : (H : Type) → List (DataW H) → Bool := fun _ ds => decide (uptoBulkAll ds ≤ 1048576)
def OpenSpec.upto (s : _root_.Go.ChangeSpec) : _root_.Go.OpenSpec := { _root_.Go.OpenSpec.ofChange s with cond := some uptoSmall }

/-- 'assayerlaw3.MealyParts', WHERE WHAT IT READS IS OF BULK AT MOST 1048576: true; the input reads as it did. -/
def mealyPartsUptoRow : OpenClaim := { program := "ytfalbffpdgfepaa", sum := "97e6c142133a40849218940c6ced75c659a59361fada42bc2e5a3dc34fad3137", func := "assayer/assayerlaw3.MealyParts", spec := "mealyParts", plainKeys := false, apart := false, narrowed := true }
def MealyPartsUptoSaid : Prop := mealyPartsUptoRow.holds Try.pinned (OpenSpec.upto mealyPartsSpec)

/-- 'assayerlaw3.WsetMore', WHERE WHAT IT READS IS OF BULK AT MOST 1048576: true; the input reads as it did. -/
def wsetMoreUptoRow : OpenClaim := { program := "ytfalbffpdgfepaa", sum := "97e6c142133a40849218940c6ced75c659a59361fada42bc2e5a3dc34fad3137", func := "assayer/assayerlaw3.WsetMore", spec := "wsetMore", plainKeys := false, apart := false, narrowed := true }
def WsetMoreUptoSaid : Prop := wsetMoreUptoRow.holds Try.pinned (OpenSpec.upto wsetMoreSpec)

/-- 'assayerlaw6.MinimNames', WHERE WHAT IT READS IS OF BULK AT MOST 1048576: true; the input reads as it did. -/
def minimNamesUptoRow : OpenClaim := { program := "ytfalbffpdgfepaa", sum := "97e6c142133a40849218940c6ced75c659a59361fada42bc2e5a3dc34fad3137", func := "assayer/assayerlaw6.MinimNames", spec := "minimNames", unfollowed := true, recurses := true, plainKeys := false, apart := false, narrowed := true }
def MinimNamesUptoSaid : Prop := minimNamesUptoRow.holds Try.pinned (OpenSpec.upto minimNamesSpec)

/-- 'assayerlaw3.WsetTellsAll', WHERE WHAT IT READS IS OF BULK AT MOST 1048576: true; the input reads as it did. -/
def wsetTellsAllUptoRow : OpenClaim := { program := "ytfalbffpdgfepaa", sum := "97e6c142133a40849218940c6ced75c659a59361fada42bc2e5a3dc34fad3137", func := "assayer/assayerlaw3.WsetTellsAll", spec := "wsetTellsAll", unfollowed := true, recurses := true, plainKeys := false, apart := false, narrowed := true }
def WsetTellsAllUptoSaid : Prop := wsetTellsAllUptoRow.holds Try.pinned (OpenSpec.upto wsetTellsAllSpec)

end Rows
end Go.Proofs.Ytfalbffpdgfepaa
