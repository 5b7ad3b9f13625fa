/- Sets keyed by edges: what a key reads as, which keys are there. No conditions. -/
import Derived.Test.YtkiljnggphlomaaEdg
import Derived.Maps.OwnSet
import Derived.WideKeyPair
import Derived.DeepKeys4
import Derived.Maps.AppendAt
namespace Go.Proofs.Ytkiljnggphlomaa
open Go.RowKit Go.Maps Go.WideMaps
theorem laidE : laidOutB Try.prog = true := by kernel_rfl
theorem lawE : Keyed Try.prog 44 := Keyed.of_law (deep_law_laid laidE (m := 2) (by omega) (of_decide_eq_true (by kernel_rfl)) (by kernel_rfl) (by rw [Try.underlying44]))
theorem sizeE : ∃ m, Try.prog.types.size = m + 1 := ⟨Try.prog.types.size - 1, by kernel_rfl⟩
theorem zeroU (w : World) : (zeroValue 54).run Try.prog w = .ok (.agg #[]) w := by kernel_rfl
def keyE (e : Int × Int) : Lit := .string (keyBytes [.int .i64 e.1, .int .i64 e.2])
theorem keyOf_edge (e : Int × Int) (he : wf64 e.1 ∧ wf64 e.2) : keyOf Try.prog 44 (.agg #[.int .i64 e.1, .int .i64 e.2]) = some (keyE e) := by
  have kt : Try.prog.keyType 44 = true := by kernel_rfl
  have c2 : Try.prog.cellsOf 44 = 2 := by kernel_rfl
  have c1 : Try.prog.cellsOf 3 = 1 := by kernel_rfl
  obtain ⟨m, hm⟩ := sizeE
  unfold keyOf
  simp only [Try.underlying44]
  rw [if_pos (by simp [kt, Value.formed, Try.underlying44, c2]), hm]
  have k1 : ∀ x : Int, wf64 x → Try.prog.keyLits (m + 1) 3 [.int .i64 x] = some [.int .i64 x] := fun x hx => by
    unfold Program.keyLits
    simp only [Try.underlying3]
    rw [if_pos ⟨trivial, hx⟩]
  unfold Program.keyLits
  simp only [Try.underlying44, Value.cells]
  rw [if_pos (by rw [c2]; exact ⟨rfl, by simp⟩)]
  simp [c1, k1 e.1 he.1, k1 e.2 he.2, keyE]
end Go.Proofs.Ytkiljnggphlomaa
