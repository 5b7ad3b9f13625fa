/- Slices of slices: the header's cells as a list, and back. No conditions. -/
import Derived.Test.YtpljcpeofnobbaaDoorMrow
import Derived.Test.YtpljcpeofnobbaaDoorApp
namespace Go.Proofs.YtpljcpeofnobbaaDoor
open Go.RowKit Go.Deep
theorem RowsIn.cells {F : Nat → Prop} {w : World} {v : Value} {ll : List (List Int)} (h : RowsIn F w v ll) : ∃ cs : List Value, cs.length = ll.length ∧ CellsIn F w 1 v ll.length cs ∧ (∀ i, i < ll.length → ∃ r, cs[i]? = some r ∧ IntsIn .i64 F w r (rowAt ll i)) ∧ (∀ u ∈ cs, u.oneCell' = true) := by
  obtain ⟨A, c, rfl, h1, h3⟩ := h
  by_cases hn : 0 < ll.length
  · obtain ⟨b, off, rfl, hF, hc⟩ := h3 hn
    obtain ⟨V, hV⟩ := choose_lt (n := ll.length) (α := Value) (p := fun i r => w.cell? ⟨b, off + i, none⟩ = some r ∧ IntsIn .i64 F w r (rowAt ll i)) hc
    have hg : ∀ i, i < ll.length → ((List.range ll.length).map V)[i]? = some (V i) := fun i hi => by simp [hi]
    refine ⟨(List.range ll.length).map V, by simp, ⟨_, c, rfl, by simp, fun _ => ⟨b, off, rfl, hF, fun j u hj => ?_⟩⟩, fun i hi => ⟨V i, hg i hi, (hV i hi).2⟩, ?_⟩
    · by_cases hlt : j < ll.length
      · rw [hg j hlt] at hj; rw [← hj]; exact (hV j hlt).1
      · rw [List.getElem?_eq_none (by simp; omega)] at hj; cases hj
    · intro u hu
      simp only [List.mem_map, List.mem_range] at hu
      obtain ⟨i, hi, rfl⟩ := hu
      obtain ⟨_, A', c', e, _⟩ := hV i hi
      rw [e]; rfl
  · have h0 : ll.length = 0 := by omega
    refine ⟨[], h0.symm, ⟨A, c, rfl, by simp [h0], fun h => absurd h hn⟩, fun i hi => by omega, by simp⟩
theorem rows_of_own {F : Nat → Prop} {w : World} {base n : Nat} {e : TypeId} {v : Value} {cs : List Value} {ll : List (List Int)} (h : w.ownsRow base e 1 v n cs) (hl : ll.length = n) (hc : ∀ i, i < ll.length → ∃ r, cs[i]? = some r ∧ IntsIn .i64 F w r (rowAt ll i)) (hF : ∀ b, base ≤ b → b < w.heap.size → F b) : RowsIn F w v ll := by
  subst hl
  by_cases hn : 0 < ll.length
  · obtain ⟨g, cap, rfl, hb, hlt, hc1, hc2, hcell⟩ := own_open h hn
    refine ⟨_, cap, rfl, by omega, fun _ => ⟨g, 0, rfl, hF g hb hlt, fun i hi => ?_⟩⟩
    obtain ⟨r, hr, hi'⟩ := hc i hi
    exact ⟨r, by rw [Nat.zero_add, hcell i (by omega)]; exact hr, hi'⟩
  · rcases h.2 with ⟨rfl, h0⟩ | ⟨g, cap, cur, rfl, hb, hh, hc1, hc2, _⟩
    · exact ⟨none, 0, by rw [h0], by omega, fun h => absurd h hn⟩
    · exact ⟨_, cap, rfl, by omega, fun h => absurd h hn⟩
theorem rowAt_append (a b : List (List Int)) (i : Nat) : rowAt (a ++ b) i = if i < a.length then rowAt a i else rowAt b (i - a.length) := by
  unfold rowAt
  simp only [List.getD_eq_getElem?_getD]
  split
  · rw [List.getElem?_append_left (by assumption)]
  · rw [List.getElem?_append_right (by omega)]
theorem rows_join {F : Nat → Prop} {w : World} {a b : List (List Int)} {ca cb : List Value} (la : ca.length = a.length) (ha : ∀ i, i < a.length → ∃ r, ca[i]? = some r ∧ IntsIn .i64 F w r (rowAt a i)) (hb : ∀ i, i < b.length → ∃ r, cb[i]? = some r ∧ IntsIn .i64 F w r (rowAt b i)) :
    ∀ i, i < (a ++ b).length → ∃ r, (ca ++ cb)[i]? = some r ∧ IntsIn .i64 F w r (rowAt (a ++ b) i) := by
  intro i hi
  rw [rowAt_append]
  by_cases h : i < a.length
  · rw [if_pos h, List.getElem?_append_left (by omega)]; exact ha i h
  · rw [if_neg h, List.getElem?_append_right (by omega), la]; exact hb _ (by rw [List.length_append] at hi; omega)
end Go.Proofs.YtpljcpeofnobbaaDoor
