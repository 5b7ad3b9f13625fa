/- The row of the machines learnt: two cells each, in a row of the call's own. No conditions. -/
import Derived.Test.YtkcggmhllijgcaaDoorLqx
namespace Go.Proofs.YtkcggmhllijgcaaDoor
open Go.RowKit
structure LRow (B : Nat) (lv : Value) (cs : List Value) (ls : List MachD) (w : World) : Prop where
  own : w.ownsRow B 24 2 lv ls.length cs
  len : cs.length = 2 * ls.length
  mem : ∀ k, k < ls.length → ∃ o n l, cs[2 * k]? = some o ∧ cs[2 * k + 1]? = some n ∧ ls[k]? = some l ∧ MachIn (fun b => B ≤ b ∧ b < w.heap.size ∧ lv.ownBlock ≠ some b) w (.agg #[o, n]) l
theorem LRow.nil (B : Nat) (w : World) : LRow B (.slice none 0 0) [] [] w :=
  ⟨World.ownsRow_nil _ _ _ _, rfl, fun k hk => by simp at hk⟩
theorem LRow.gr {B : Nat} {lv : Value} {cs : List Value} {ls : List MachD} {w w' : World} (h : LRow B lv cs ls w) (hb : Below w.heap.size w w') : LRow B lv cs ls w' :=
  ⟨own_keep h.own fun k hk => hb.block k (own_lt h.own k hk), h.len, fun k hk => by
    obtain ⟨o, n, l, h1, h2, h3, h4⟩ := h.mem k hk
    exact ⟨o, n, l, h1, h2, h3, (h4.keep fun b hb' => hb.block b hb'.2.1).more fun b hb' => ⟨hb'.1, Nat.lt_of_lt_of_le hb'.2.1 hb.size, hb'.2.2⟩⟩⟩
theorem LRow.app {B : Nat} {lv lv' : Value} {cs : List Value} {ls : List MachD} {w w' : World} {o n : Value} {l : MachD} (h : LRow B lv cs ls w) (hown : w'.ownsRow B 24 2 lv' (ls.length + 1) (cs ++ [o, n])) (hg : w.grownBy w' lv.ownBlock) (hat : lv'.ownBlock = lv.ownBlock ∨ ∃ b, lv'.ownBlock = some b ∧ w.heap.size ≤ b)
    (hl : MachIn (fun b => B ≤ b ∧ b < w.heap.size ∧ lv.ownBlock ≠ some b) w (.agg #[o, n]) l) : LRow B lv' (cs ++ [o, n]) (ls ++ [l]) w' := by
  have hm : ∀ b, (B ≤ b ∧ b < w.heap.size ∧ lv.ownBlock ≠ some b) → B ≤ b ∧ b < w'.heap.size ∧ lv'.ownBlock ≠ some b := fun b hb => ⟨hb.1, Nat.lt_of_lt_of_le hb.2.1 hg.size, fun e => by
    rcases hat with k | ⟨c, k, hc⟩
    · exact hb.2.2 (k ▸ e)
    · rw [k] at e; injection e with e; have := hb.2.1; omega⟩
  have hs : Same (fun b => B ≤ b ∧ b < w.heap.size ∧ lv.ownBlock ≠ some b) w w' := fun b hb => hg.block b hb.2.1 fun e => hb.2.2 e.symm
  refine ⟨by simpa using hown, by simp [h.len]; omega, fun k hk => ?_⟩
  rw [List.length_append, List.length_singleton] at hk
  have hcl := h.len
  by_cases e : k < ls.length
  · obtain ⟨o', n', l', h1, h2, h3, h4⟩ := h.mem k e
    exact ⟨o', n', l', by rw [List.getElem?_append_left (by omega)]; exact h1, by rw [List.getElem?_append_left (by omega)]; exact h2, by rw [List.getElem?_append_left (by omega)]; exact h3, (h4.keep hs).more hm⟩
  · obtain rfl : k = ls.length := by omega
    refine ⟨o, n, l, ?_, ?_, by simp, (hl.keep hs).more hm⟩
    · rw [List.getElem?_append_right (by omega), show 2 * ls.length - cs.length = 0 by omega]; rfl
    · rw [List.getElem?_append_right (by omega), show 2 * ls.length + 1 - cs.length = 1 by omega]; rfl
end Go.Proofs.YtkcggmhllijgcaaDoor
