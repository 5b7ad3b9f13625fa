/-
  No cell of these rows narrows 'for every input' (looked for: loops, veiled, ifaces, maps, wideKeys, modest, calm, conditions, laid).
  DERIVED. THE GIVEN ROWS OF THIS SEAT. 4 by the template 'for every input the law returns true; each argument reads behind the call as it read before'; 0 by the template 'total and deterministic' (their statements: YtkiljnggphlomaaTotals.lean).
  GIVEN WITH THE SEED: the statements are not yours to turn. If you find one false, say at which input.
  Laid BY PROGRAM, IN A SANDBOX (cutbox-rows.mjs): the forced cells as the released guide's own fill.sh prints them over the translation 9dad3b6eb783f03a… (all of the seat's roots in one cut). By AI agents, Wed Nov 11 2026. No macro, syntax, notation, axiom, sorry.
-/
import Derived.Test.YtkiljnggphlomaaChecked
import GoSem.Claim
import GoSem.ClaimJoined
import GoSem.ClaimMapViews
import Derived.JoinedTies
import Derived.KernelRfl
namespace Go.Proofs.Ytkiljnggphlomaa
/- THE CELL 'sum', in the pinned program and in every row, IS THE sha256 OF THE DUMP (.gsa) THAT YtkiljnggphlomaaProg.lean LOADS. Nothing in Lean hashes anything: it is a label: what it is worth is what the hold of that sum in a sandbox is worth. -/
noncomputable def Try.pinned : Pinned := { name := "ytkiljnggphlomaa", sum := "9dad3b6eb783f03a2f942c9b6eec353f69fa850dfe11d31c1158b7e8f7c6ebc1", checked := Try.checked }
namespace Rows
def none {H : Type} : Left H := { results := [], args := [] }

/-- 'assayerlaw6.DdCounts': WHATEVER THE INPUT: true; the input reads as it did. -/
def ddCountsSpec : ChangeSpec := { name := "ddCounts", fn := fun _ => fun
  | [d1, d2] => { results := [.lit (.bool true)], args := [d1, d2] }
  | _ => none }
def ddCountsRow : OpenClaim := { program := "ytkiljnggphlomaa", sum := "9dad3b6eb783f03a2f942c9b6eec353f69fa850dfe11d31c1158b7e8f7c6ebc1", func := "assayer/assayerlaw6.DdCounts", spec := "ddCounts", unfollowed := true, recurses := true, plainKeys := false, apart := false }
def DdCountsSaid : Prop := ddCountsRow.holds Try.pinned (OpenSpec.ofChange ddCountsSpec)

/-- ITS FALSE NEIGHBOUR: 'it returns false'. Refute it at one input. -/
def ddCountsWrong : ChangeSpec := { name := "ddCounts", fn := fun _ => fun
  | [d1, d2] => { results := [.lit (.bool false)], args := [d1, d2] }
  | _ => none }
def DdCountsWrongFalsely : Prop := ddCountsRow.holds Try.pinned (OpenSpec.ofChange ddCountsWrong)

/-- 'assayerlaw6.FlowSelf': WHATEVER THE INPUT: true; the input reads as it did. -/
def flowSelfSpec : ChangeSpec := { name := "flowSelf", fn := fun _ => fun
  | [d1, d2, d3] => { results := [.lit (.bool true)], args := [d1, d2, d3] }
  | _ => none }
def flowSelfRow : OpenClaim := { program := "ytkiljnggphlomaa", sum := "9dad3b6eb783f03a2f942c9b6eec353f69fa850dfe11d31c1158b7e8f7c6ebc1", func := "assayer/assayerlaw6.FlowSelf", spec := "flowSelf", unfollowed := true, recurses := true, plainKeys := false, apart := false }
def FlowSelfSaid : Prop := flowSelfRow.holds Try.pinned (OpenSpec.ofChange flowSelfSpec)

/-- ITS FALSE NEIGHBOUR: 'it returns false'. Refute it at one input. -/
def flowSelfWrong : ChangeSpec := { name := "flowSelf", fn := fun _ => fun
  | [d1, d2, d3] => { results := [.lit (.bool false)], args := [d1, d2, d3] }
  | _ => none }
def FlowSelfWrongFalsely : Prop := flowSelfRow.holds Try.pinned (OpenSpec.ofChange flowSelfWrong)

/-- 'assayerlaw6.PairsTwo': WHATEVER THE INPUT: true; the input reads as it did. -/
def pairsTwoSpec : ChangeSpec := { name := "pairsTwo", fn := fun _ => fun
  | [d1, d2] => { results := [.lit (.bool true)], args := [d1, d2] }
  | _ => none }
def pairsTwoRow : OpenClaim := { program := "ytkiljnggphlomaa", sum := "9dad3b6eb783f03a2f942c9b6eec353f69fa850dfe11d31c1158b7e8f7c6ebc1", func := "assayer/assayerlaw6.PairsTwo", spec := "pairsTwo", unfollowed := true, recurses := true, plainKeys := false, apart := false }
def PairsTwoSaid : Prop := pairsTwoRow.holds Try.pinned (OpenSpec.ofChange pairsTwoSpec)

/-- ITS FALSE NEIGHBOUR: 'it returns false'. Refute it at one input. -/
def pairsTwoWrong : ChangeSpec := { name := "pairsTwo", fn := fun _ => fun
  | [d1, d2] => { results := [.lit (.bool false)], args := [d1, d2] }
  | _ => none }
def PairsTwoWrongFalsely : Prop := pairsTwoRow.holds Try.pinned (OpenSpec.ofChange pairsTwoWrong)

/-- 'assayerlaw6.PathDoubles': WHATEVER THE INPUT: true; the input reads as it did. -/
def pathDoublesSpec : ChangeSpec := { name := "pathDoubles", fn := fun _ => fun
  | [d] => { results := [.lit (.bool true)], args := [d] }
  | _ => none }
def pathDoublesRow : OpenClaim := { program := "ytkiljnggphlomaa", sum := "9dad3b6eb783f03a2f942c9b6eec353f69fa850dfe11d31c1158b7e8f7c6ebc1", func := "assayer/assayerlaw6.PathDoubles", spec := "pathDoubles", unfollowed := true, recurses := true, plainKeys := false, apart := false }
def PathDoublesSaid : Prop := pathDoublesRow.holds Try.pinned (OpenSpec.ofChange pathDoublesSpec)

/-- ITS FALSE NEIGHBOUR: 'it returns false'. Refute it at one input. -/
def pathDoublesWrong : ChangeSpec := { name := "pathDoubles", fn := fun _ => fun
  | [d] => { results := [.lit (.bool false)], args := [d] }
  | _ => none }
def PathDoublesWrongFalsely : Prop := pathDoublesRow.holds Try.pinned (OpenSpec.ofChange pathDoublesWrong)

/- THE SECOND FORM. 'bulk': how many values and letters a reading holds, each counted each time it is reached (what is shared counts as often as it is met; a slice's spare places count too). A statement '..UptoSaid' is the law's where the arguments, and the package variables that the reading takes, are together of bulk at most 1048576: NARROWER than '..Said'. Prove '..Said' where nothing that the law and all that it calls make is longer than what came in: it says more and counts as full. Else prove '..UptoSaid'. A law counts once. -/
mutual
def uptoBulk {H : Type} : DataW H → Nat
  | .lit (.string bytes) => bytes.length + 1
  | .lit _ => 1
  | .nil => 1
  | .ptr d => uptoBulk d + 1
  | .slice elems spare => uptoBulkAll elems + uptoBulkAll spare + 1
  | .agg parts => uptoBulkAll parts + 1
  | .iface _ d => uptoBulk d + 1
  | .map entries => uptoBulkEntries entries + 1
  | .held _ => 1
def uptoBulkAll {H : Type} : List (DataW H) → Nat
  | [] => 0
  | d :: r => uptoBulk d + uptoBulkAll r
def uptoBulkEntries {H : Type} : List (Lit × DataW H) → Nat
  | [] => 0
  | x :: r => uptoBulkEntry x + uptoBulkEntries r
def uptoBulkEntry {H : Type} : Lit × DataW H → Nat
  | (.string bytes, d) => bytes.length + uptoBulk d + 1
  | (_, d) => uptoBulk d + 1
 end
def uptoSmall : (H : Type) → List (DataW H) → Bool := fun _ ds => decide (uptoBulkAll ds ≤ 1048576)
def OpenSpec.upto (s : _root_.Go.ChangeSpec) : _root_.Go.OpenSpec := { _root_.Go.OpenSpec.ofChange s with cond := some uptoSmall }

/-- 'assayerlaw6.DdCounts', WHERE WHAT IT READS IS OF BULK AT MOST 1048576: true; the input reads as it did. -/
def ddCountsUptoRow : OpenClaim := { program := "ytkiljnggphlomaa", sum := "9dad3b6eb783f03a2f942c9b6eec353f69fa850dfe11d31c1158b7e8f7c6ebc1", func := "assayer/assayerlaw6.DdCounts", spec := "ddCounts", unfollowed := true, recurses := true, plainKeys := false, apart := false, narrowed := true }
def DdCountsUptoSaid : Prop := ddCountsUptoRow.holds Try.pinned (OpenSpec.upto ddCountsSpec)

/-- 'assayerlaw6.FlowSelf', WHERE WHAT IT READS IS OF BULK AT MOST 1048576: true; the input reads as it did. -/
def flowSelfUptoRow : OpenClaim := { program := "ytkiljnggphlomaa", sum := "9dad3b6eb783f03a2f942c9b6eec353f69fa850dfe11d31c1158b7e8f7c6ebc1", func := "assayer/assayerlaw6.FlowSelf", spec := "flowSelf", unfollowed := true, recurses := true, plainKeys := false, apart := false, narrowed := true }
def FlowSelfUptoSaid : Prop := flowSelfUptoRow.holds Try.pinned (OpenSpec.upto flowSelfSpec)

/-- 'assayerlaw6.PairsTwo', WHERE WHAT IT READS IS OF BULK AT MOST 1048576: true; the input reads as it did. -/
def pairsTwoUptoRow : OpenClaim := { program := "ytkiljnggphlomaa", sum := "9dad3b6eb783f03a2f942c9b6eec353f69fa850dfe11d31c1158b7e8f7c6ebc1", func := "assayer/assayerlaw6.PairsTwo", spec := "pairsTwo", unfollowed := true, recurses := true, plainKeys := false, apart := false, narrowed := true }
def PairsTwoUptoSaid : Prop := pairsTwoUptoRow.holds Try.pinned (OpenSpec.upto pairsTwoSpec)

/-- 'assayerlaw6.PathDoubles', WHERE WHAT IT READS IS OF BULK AT MOST 1048576: true; the input reads as it did. -/
def pathDoublesUptoRow : OpenClaim := { program := "ytkiljnggphlomaa", sum := "9dad3b6eb783f03a2f942c9b6eec353f69fa850dfe11d31c1158b7e8f7c6ebc1", func := "assayer/assayerlaw6.PathDoubles", spec := "pathDoubles", unfollowed := true, recurses := true, plainKeys := false, apart := false, narrowed := true }
def PathDoublesUptoSaid : Prop := pathDoublesUptoRow.holds Try.pinned (OpenSpec.upto pathDoublesSpec)

end Rows
end Go.Proofs.Ytkiljnggphlomaa
