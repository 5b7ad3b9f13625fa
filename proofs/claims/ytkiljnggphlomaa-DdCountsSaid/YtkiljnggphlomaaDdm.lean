/- Delta debugging as mathematics: a list without a piece; what none too many means. No conditions. -/
namespace Go.Proofs.Ytkiljnggphlomaa
def cutL (l : List Int) (i s : Nat) : List Int := l.take i ++ l.drop (min (i + s) l.length)
theorem cut_len {l : List Int} {i s : Nat} (hi : i < l.length) (hs : 1 ≤ s) : (cutL l i s).length < l.length := by
  unfold cutL; rw [List.length_append, List.length_take, List.length_drop]; omega
theorem cut_sub (l : List Int) (i s : Nat) : (cutL l i s).Sublist l := by
  unfold cutL
  have h1 : l = l.take i ++ l.drop i := (List.take_append_drop i l).symm
  by_cases h : i ≤ min (i + s) l.length
  · have h2 : (l.drop (min (i + s) l.length)).Sublist (l.drop i) := by
      obtain ⟨d, hd⟩ : ∃ d, min (i + s) l.length = i + d := ⟨min (i + s) l.length - i, by omega⟩
      rw [hd, ← List.drop_drop]
      exact List.drop_sublist _ _
    have h3 : (l.take i ++ l.drop (min (i + s) l.length)).Sublist (l.take i ++ l.drop i) := List.Sublist.append (List.Sublist.refl _) h2
    rw [List.take_append_drop] at h3
    exact h3
  · have h2 : min (i + s) l.length = l.length := by omega
    rw [h2, List.drop_length, List.append_nil]
    exact List.take_sublist _ _
structure DdSpec (P : List Int → Bool) (l m : List Int) : Prop where
  sub : m.Sublist l
  ok : P m = true
  few : ∀ i, i < m.length → P (cutL m i 1) = false
theorem cut_one {m : List Int} {i : Nat} (h : i < m.length) : (cutL m i 1).length = m.length - 1 := by
  unfold cutL; rw [List.length_append, List.length_take, List.length_drop]; omega
theorem dd_counts {n : Int} {l m : List Int} (h : DdSpec (fun x => decide (n ≤ (x.length : Int))) l m) : (m.length : Int) = max n 0 := by
  have h1 := h.ok
  simp only [decide_eq_true_eq] at h1
  by_cases h0 : m.length = 0
  · omega
  · have h2 := h.few 0 (by omega)
    simp only [decide_eq_false_iff_not] at h2
    rw [cut_one (by omega)] at h2
    omega
theorem dd_fact {m : List Int} (h : DdSpec (fun x => decide ((2 : Int) ∈ x)) [1, 2] m) : m.length = 1 := by
  obtain ⟨h1, h2, h3⟩ := h
  simp only [decide_eq_true_eq] at h2
  have hl := h1.length_le
  simp at hl
  match m, h2, hl with
  | [], h2, _ => simp at h2
  | [_], _, _ => rfl
  | [a, b], h2, _ =>
    have e : [a, b] = [1, 2] := h1.eq_of_length rfl
    injection e with e1 e2
    injection e2 with e2 _
    subst e1 e2
    have := h3 0 (by simp)
    simp [cutL] at this
end Go.Proofs.Ytkiljnggphlomaa
