/- Sets keyed by edges: what a key reads as, which keys are there. No conditions. -/
import Derived.Test.YtkiljnggphlomaaDoorEdg
import Derived.Maps.OwnSet
import Derived.WideKeyPair
import Derived.DeepKeys4
import Derived.Maps.AppendAt
namespace Go.Proofs.YtkiljnggphlomaaDoor
open Go.RowKit Go.Maps Go.WideMaps
theorem laidE : laidOutB Tryd.prog = true := by kernel_rfl
theorem lawEK : KeyLaw Tryd.prog 32 := deep_law_laid laidE (m := 2) (by omega) (of_decide_eq_true (by kernel_rfl)) (by kernel_rfl) (by rw [Tryd.underlying32])
theorem lawE : Keyed Tryd.prog 32 := Keyed.of_law lawEK
theorem sizeE : ∃ m, Tryd.prog.types.size = m + 1 := ⟨Tryd.prog.types.size - 1, by kernel_rfl⟩
theorem zeroU (w : World) : (zeroValue 78).run Tryd.prog w = .ok (.agg #[]) w := by kernel_rfl
def keyE (e : Int × Int) : Lit := .string (keyBytes [.int .i64 e.1, .int .i64 e.2])
theorem keyOf_edge (e : Int × Int) (he : wf64 e.1 ∧ wf64 e.2) : keyOf Tryd.prog 32 (.agg #[.int .i64 e.1, .int .i64 e.2]) = some (keyE e) := by
  have kt : Tryd.prog.keyType 32 = true := by kernel_rfl
  have c2 : Tryd.prog.cellsOf 32 = 2 := by kernel_rfl
  have c1 : Tryd.prog.cellsOf 3 = 1 := by kernel_rfl
  obtain ⟨m, hm⟩ := sizeE
  unfold keyOf
  simp only [Tryd.underlying32]
  rw [if_pos (by simp [kt, Value.formed, Tryd.underlying32, c2]), hm]
  have k1 : ∀ x : Int, wf64 x → Tryd.prog.keyLits (m + 1) 3 [.int .i64 x] = some [.int .i64 x] := fun x hx => by
    unfold Program.keyLits
    simp only [Tryd.underlying3]
    rw [if_pos ⟨trivial, hx⟩]
  unfold Program.keyLits
  simp only [Tryd.underlying32, Value.cells]
  rw [if_pos (by rw [c2]; exact ⟨rfl, by simp⟩)]
  simp [c1, k1 e.1 he.1, k1 e.2 he.2, keyE]
theorem keyE_is (p : Int × Int) : WideAt.IsKeyLit (keyE p) := trivial
theorem keyE_inj {p q : Int × Int} (hp : wf64 p.1 ∧ wf64 p.2) (hq : wf64 q.1 ∧ wf64 q.2) (h : keyE p = keyE q) : p = q := by
  have h1 := keyOf_edge p hp
  have h2 := keyOf_edge q hq
  have := lawEK.inj h1 (by rw [h2]; exact congrArg some h.symm)
  simp at this
  exact Prod.ext this.1 this.2
theorem hasE {ps : EdgeL} (hps : ∀ p ∈ ps, wf64 p.1 ∧ wf64 p.2) {q : Int × Int} (hq : wf64 q.1 ∧ wf64 q.2) : Maps.has (setOf (H := Unit) (.agg []) (ps.map keyE)) (keyE q) = decide (q ∈ ps) := by
  rw [has_setOf _ _ _ (fun x hx => by simp only [List.mem_map] at hx; obtain ⟨p, _, rfl⟩ := hx; exact keyE_is p)]
  by_cases h : q ∈ ps
  · rw [decide_eq_true h, List.any_eq_true]
    exact ⟨keyE q, List.mem_map_of_mem h, WideAt.sameKey_self (keyE_is q)⟩
  · rw [decide_eq_false h, List.any_eq_false]
    intro x hx
    simp only [List.mem_map] at hx
    obtain ⟨p, hp, rfl⟩ := hx
    have hne : keyE p ≠ keyE q := fun e => by
      have := keyE_inj (hps p hp) hq e
      subst this; exact h hp
    rw [sameKey_ne hne]; simp
def SetE (w : World) (b : Nat) (ps : EdgeL) : Prop := ∃ n, n ≤ ps.length ∧ w.ownsMap (H := Unit) Tryd.prog 32 unitElem b n (setOf (.agg []) (ps.map keyE))
theorem SetE.lt {w : World} {b : Nat} {M : EdgeL} (h : SetE w b M) : b < w.heap.size := by
  obtain ⟨n, _, hm⟩ := h; exact hm.lt
theorem SetE.below {w w' : World} {b B : Nat} {M : EdgeL} (h : SetE w b M) (hb : Below B w w') (hB : b < B) : SetE w' b M := by
  obtain ⟨n, hn, es, clock, h1, h2⟩ := h
  exact ⟨n, hn, es, clock, (hb.block b hB).trans h1, h2⟩
theorem SetE.put {w : World} {b nm : Nat} {M : EdgeL} {q : Int × Int} (hn : nm ≤ M.length) (h : w.ownsMap (H := Unit) Tryd.prog 32 unitElem b (nm + 1) ((setOf (.agg []) (M.map keyE)).put (keyE q) (.agg []))) : SetE w b (M ++ [q]) :=
  ⟨nm + 1, by simp; omega, by rw [List.map_append, List.map_cons, List.map_nil, setOf_snoc]; exact h⟩
end Go.Proofs.YtkiljnggphlomaaDoor
