/-
  NARROWER THAN 'FOR EVERY INPUT', by the rows' own cells (each row's printed sentence says how): GenNoughts: loops · RankFirst: loops · RoseNone: loops.
  DERIVED. THE GIVEN ROWS OF THIS SEAT. 3 by the template 'for every input the law returns true; each argument reads behind the call as it read before'; 0 by the template 'total and deterministic' (their statements: YtkpgedejabahaaaTotals.lean).
  GIVEN WITH THE SEED: the statements are not yours to turn. If you find one false, say at which input.
  Laid BY PROGRAM, IN A SANDBOX (cutbox-rows.mjs): the forced cells as the released guide's own fill.sh prints them over the translation 170db1cc55dd9531… (all of the seat's roots in one cut). By AI agents, Wed Nov 11 2026. No macro, syntax, notation, axiom, sorry.
-/
import Derived.Test.YtkpgedejabahaaaChecked
import GoSem.Claim
import GoSem.ClaimJoined
import GoSem.ClaimMapViews
import Derived.JoinedTies
import Derived.KernelRfl
namespace Go.Proofs.Ytkpgedejabahaaa
/- THE CELL 'sum', in the pinned program and in every row, IS THE sha256 OF THE DUMP (.gsa) THAT YtkpgedejabahaaaProg.lean LOADS. Nothing in Lean hashes anything: it is a label: what it is worth is what the hold of that sum in a sandbox is worth. -/
noncomputable def Try.pinned : Pinned := { name := "ytkpgedejabahaaa", sum := "170db1cc55dd9531458da3ea112e3b9e222bc21cfeb95f42091a73997e098ce3", checked := Try.checked }
namespace Rows
def none {H : Type} : Left H := { results := [], args := [] }

/-- 'assayerlaw6.GenNoughts': WHATEVER THE INPUT: true; the input reads as it did. -/
def genNoughtsSpec : ChangeSpec := { name := "genNoughts", fn := fun _ => fun
  | [d1, d2] => { results := [.lit (.bool true)], args := [d1, d2] }
  | _ => none }
def genNoughtsRow : OpenClaim := { program := "ytkpgedejabahaaa", sum := "170db1cc55dd9531458da3ea112e3b9e222bc21cfeb95f42091a73997e098ce3", func := "assayer/assayerlaw6.GenNoughts", spec := "genNoughts", unfollowed := true, recurses := true, loops := true, apart := false }
def GenNoughtsSaid : Prop := genNoughtsRow.holds Try.pinned (OpenSpec.ofChange genNoughtsSpec)

/-- ITS FALSE NEIGHBOUR: 'it returns false'. Refute it at one input. -/
def genNoughtsWrong : ChangeSpec := { name := "genNoughts", fn := fun _ => fun
  | [d1, d2] => { results := [.lit (.bool false)], args := [d1, d2] }
  | _ => none }
def GenNoughtsWrongFalsely : Prop := genNoughtsRow.holds Try.pinned (OpenSpec.ofChange genNoughtsWrong)

/-- 'assayerlaw6.RankFirst': WHATEVER THE INPUT: true; the input reads as it did. -/
def rankFirstSpec : ChangeSpec := { name := "rankFirst", fn := fun _ => fun
  | [d] => { results := [.lit (.bool true)], args := [d] }
  | _ => none }
def rankFirstRow : OpenClaim := { program := "ytkpgedejabahaaa", sum := "170db1cc55dd9531458da3ea112e3b9e222bc21cfeb95f42091a73997e098ce3", func := "assayer/assayerlaw6.RankFirst", spec := "rankFirst", unfollowed := true, recurses := true, loops := true, apart := false }
def RankFirstSaid : Prop := rankFirstRow.holds Try.pinned (OpenSpec.ofChange rankFirstSpec)

/-- ITS FALSE NEIGHBOUR: 'it returns false'. Refute it at one input. -/
def rankFirstWrong : ChangeSpec := { name := "rankFirst", fn := fun _ => fun
  | [d] => { results := [.lit (.bool false)], args := [d] }
  | _ => none }
def RankFirstWrongFalsely : Prop := rankFirstRow.holds Try.pinned (OpenSpec.ofChange rankFirstWrong)

/-- 'assayerlaw6.RoseNone': WHATEVER THE INPUT: true; the input reads as it did. -/
def roseNoneSpec : ChangeSpec := { name := "roseNone", fn := fun _ => fun
  | [d1, d2] => { results := [.lit (.bool true)], args := [d1, d2] }
  | _ => none }
def roseNoneRow : OpenClaim := { program := "ytkpgedejabahaaa", sum := "170db1cc55dd9531458da3ea112e3b9e222bc21cfeb95f42091a73997e098ce3", func := "assayer/assayerlaw6.RoseNone", spec := "roseNone", unfollowed := true, recurses := true, loops := true, apart := false }
def RoseNoneSaid : Prop := roseNoneRow.holds Try.pinned (OpenSpec.ofChange roseNoneSpec)

/-- ITS FALSE NEIGHBOUR: 'it returns false'. Refute it at one input. -/
def roseNoneWrong : ChangeSpec := { name := "roseNone", fn := fun _ => fun
  | [d1, d2] => { results := [.lit (.bool false)], args := [d1, d2] }
  | _ => none }
def RoseNoneWrongFalsely : Prop := roseNoneRow.holds Try.pinned (OpenSpec.ofChange roseNoneWrong)

/- THE SECOND FORM. 'bulk': how many values and letters a reading holds, each counted each time it is reached (what is shared counts as often as it is met; a slice's spare places count too). A statement '..UptoSaid' is the law's where the arguments, and the package variables that the reading takes, are together of bulk at most 1048576: NARROWER than '..Said'. Prove '..Said' where nothing that the law and all that it calls make is longer than what came in: it says more and counts as full. Else prove '..UptoSaid'. A law counts once. -/
mutual
def uptoBulk {H : Type} : DataW H → Nat
  | .lit (.string bytes) => bytes.length + 1
  | .lit _ => 1
  | .nil => 1
  | .ptr d => uptoBulk d + 1
  | .slice elems spare => uptoBulkAll elems + uptoBulkAll spare + 1
  | .agg parts => uptoBulkAll parts + 1
  | .iface _ d => uptoBulk d + 1
  | .map entries => uptoBulkEntries entries + 1
  | .held _ => 1
def uptoBulkAll {H : Type} : List (DataW H) → Nat
  | [] => 0
  | d :: r => uptoBulk d + uptoBulkAll r
def uptoBulkEntries {H : Type} : List (Lit × DataW H) → Nat
  | [] => 0
  | x :: r => uptoBulkEntry x + uptoBulkEntries r
def uptoBulkEntry {H : Type} : Lit × DataW H → Nat
  | (.string bytes, d) => bytes.length + uptoBulk d + 1
  | (_, d) => uptoBulk d + 1
 end
def uptoSmall : (H : Type) → List (DataW H) → Bool := fun _ ds => decide (uptoBulkAll ds ≤ 1048576)
def OpenSpec.upto (s : _root_.Go.ChangeSpec) : _root_.Go.OpenSpec := { _root_.Go.OpenSpec.ofChange s with cond := some uptoSmall }

/-- 'assayerlaw6.GenNoughts', WHERE WHAT IT READS IS OF BULK AT MOST 1048576: true; the input reads as it did. -/
def genNoughtsUptoRow : OpenClaim := { program := "ytkpgedejabahaaa", sum := "170db1cc55dd9531458da3ea112e3b9e222bc21cfeb95f42091a73997e098ce3", func := "assayer/assayerlaw6.GenNoughts", spec := "genNoughts", unfollowed := true, recurses := true, loops := true, apart := false, narrowed := true }
def GenNoughtsUptoSaid : Prop := genNoughtsUptoRow.holds Try.pinned (OpenSpec.upto genNoughtsSpec)

/-- 'assayerlaw6.RankFirst', WHERE WHAT IT READS IS OF BULK AT MOST 1048576: true; the input reads as it did. -/
def rankFirstUptoRow : OpenClaim := { program := "ytkpgedejabahaaa", sum := "170db1cc55dd9531458da3ea112e3b9e222bc21cfeb95f42091a73997e098ce3", func := "assayer/assayerlaw6.RankFirst", spec := "rankFirst", unfollowed := true, recurses := true, loops := true, apart := false, narrowed := true }
def RankFirstUptoSaid : Prop := rankFirstUptoRow.holds Try.pinned (OpenSpec.upto rankFirstSpec)

/-- 'assayerlaw6.RoseNone', WHERE WHAT IT READS IS OF BULK AT MOST 1048576: true; the input reads as it did. -/
def roseNoneUptoRow : OpenClaim := { program := "ytkpgedejabahaaa", sum := "170db1cc55dd9531458da3ea112e3b9e222bc21cfeb95f42091a73997e098ce3", func := "assayer/assayerlaw6.RoseNone", spec := "roseNone", unfollowed := true, recurses := true, loops := true, apart := false, narrowed := true }
def RoseNoneUptoSaid : Prop := roseNoneUptoRow.holds Try.pinned (OpenSpec.upto roseNoneSpec)

end Rows
end Go.Proofs.Ytkpgedejabahaaa
