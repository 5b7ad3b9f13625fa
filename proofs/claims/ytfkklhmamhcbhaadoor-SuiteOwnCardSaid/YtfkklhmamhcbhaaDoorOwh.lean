/- Small facts of rows that the call owns. No conditions. -/
import Derived.Test.YtfkklhmamhcbhaaDoorGen
namespace Go.Proofs.YtfkklhmamhcbhaaDoor
open Go.RowKit
theorem own_lo {w : World} {base base' : Nat} {e : TypeId} {size n : Nat} {v : Value} {xs : List Value} (h : w.ownsRow base e size v n xs) (hb : base' ≤ base) : w.ownsRow base' e size v n xs := by
  refine ⟨h.1, ?_⟩
  rcases h.2 with h | ⟨g, cap, cur, rfl, h1, h2⟩
  · exact .inl h
  · exact .inr ⟨g, cap, cur, rfl, by omega, h2⟩
theorem own_sl {w : World} {base : Nat} {e : TypeId} {size n : Nat} {v : Value} {xs : List Value} (h : w.ownsRow base e size v n xs) : ∃ A c, v = .slice A n c ∧ n ≤ c ∧ c ≤ maxLen := by
  rcases h.2 with ⟨rfl, rfl⟩ | ⟨g, cap, cur, rfl, hb, hh, hc1, hc2, _⟩
  · exact ⟨none, 0, rfl, Nat.le_refl _, by unfold maxLen; omega⟩
  · exact ⟨_, cap, rfl, hc1, hc2⟩
theorem cells_1 (w : World) (x : Value) (t : TypeId) {g : Nat} (hg : g = w.heap.size) : CellsIn (fun b => b = g) (w.alloc (.cells #[x] t)) 1 (.slice (some ⟨g, 0, none⟩) 1 1) 1 [x] := by
  subst hg
  refine ⟨_, 1, rfl, rfl, fun _ => ⟨w.heap.size, 0, rfl, rfl, fun j u hj => ?_⟩⟩
  match j, hj with
  | 0, hj => simp at hj; subst hj; simp
/-- the numbers below j that p picks -/
def filtI (p : Nat → Bool) (j : Nat) : List Int := ((List.range j).filter p).map Int.ofNat
theorem filtI_zero (p : Nat → Bool) : filtI p 0 = [] := rfl
theorem filtI_yes {p : Nat → Bool} {j : Nat} (h : p j = true) : filtI p (j + 1) = filtI p j ++ [(j : Int)] := by
  unfold filtI; rw [List.range_succ, List.filter_append, List.map_append]; simp [h]
theorem filtI_no {p : Nat → Bool} {j : Nat} (h : p j = false) : filtI p (j + 1) = filtI p j := by
  unfold filtI; rw [List.range_succ, List.filter_append, List.map_append]; simp [h]
theorem filtI_len (p : Nat → Bool) (j : Nat) : (filtI p j).length ≤ j := by
  unfold filtI; rw [List.length_map]; exact Nat.le_trans (List.length_filter_le _ _) (by simp)
theorem filtI_wf (p : Nat → Bool) (j : Nat) (hj : j ≤ 9223372036854775807) : ∀ z ∈ filtI p j, (Lit.int .i64 z).wf = true := by
  intro z hz
  unfold filtI at hz
  simp only [List.mem_map, List.mem_filter, List.mem_range] at hz
  obtain ⟨a, ⟨h, _⟩, rfl⟩ := hz
  exact WalkArith.wf_i64 (n := (a : Int)) (by omega)
end Go.Proofs.YtfkklhmamhcbhaaDoor
