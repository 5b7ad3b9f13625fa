/- Where a number first stands in a list. No conditions. -/
import Derived.Test.YtbnannlpebggjaaDoorGen
namespace Go.Proofs.YtbnannlpebggjaaDoor
open Go.RowKit
def ixOf (zs : List Int) (x : Int) : Int := if x ∈ zs then (zs.idxOf x : Nat) else -1
theorem ix_at {zs : List Int} {x : Int} {j : Nat} (hj : j < zs.length) (hx : at0 zs j = x) (hold : ∀ k, k < j → at0 zs k ≠ x) : ixOf zs x = j := by
  have hm : x ∈ zs := by rw [← hx]; exact mem_at hj
  unfold ixOf
  rw [if_pos hm]
  have h1 : zs.idxOf x < zs.length := List.idxOf_lt_length_of_mem hm
  have h2 : at0 zs (zs.idxOf x) = x := by
    unfold at0; rw [List.getD_eq_getElem?_getD, List.getElem?_eq_getElem h1]
    simp [List.getElem_idxOf]
  have h3 : ¬ zs.idxOf x < j := fun h => hold _ h h2
  have h4 : zs.idxOf x ≤ j := by
    rcases Nat.lt_or_ge j (zs.idxOf x) with h | h
    · have := List.not_of_lt_findIdx (p := fun y => y == x) (xs := zs) (i := j) (by simpa [List.idxOf] using h)
      unfold at0 at hx; rw [List.getD_eq_getElem?_getD, List.getElem?_eq_getElem hj] at hx
      simp at hx; simp [hx] at this
    · exact h
  omega
theorem ix_none {zs : List Int} {x : Int} (hold : ∀ k, k < zs.length → at0 zs k ≠ x) : ixOf zs x = -1 := by
  unfold ixOf
  rw [if_neg]
  intro hm
  obtain ⟨i, hi, rfl⟩ := List.getElem_of_mem hm
  apply hold i hi
  unfold at0; rw [List.getD_eq_getElem?_getD, List.getElem?_eq_getElem hi]; rfl
theorem ix_ge {zs : List Int} {x : Int} : 0 ≤ ixOf zs x ↔ x ∈ zs := by
  unfold ixOf; split <;> simp [*]
theorem ix_lt {zs : List Int} {x : Int} : ixOf zs x < zs.length := by
  unfold ixOf; split
  · have := List.idxOf_lt_length_of_mem (a := x) (l := zs) (by assumption); omega
  · omega
end Go.Proofs.YtbnannlpebggjaaDoor
