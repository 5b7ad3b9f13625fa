/- Edges in rows that the call owns; slices.Clone, slices.IndexFunc and assayersame.Edges at edges. Condition: 2^47 bytes. -/
import Derived.Test.YtkiljnggphlomaaDoorFck
import Derived.Test.YtkiljnggphlomaaDoorOwh
import Derived.Test.YtkiljnggphlomaaDoorClo
import Derived.Deep.RegionLaw
namespace Go.Proofs.YtkiljnggphlomaaDoor
open Go.RowKit Go.Deep
theorem infoEdge : (Tryd.prog.info? 32).map (fun i => (i.zero, i.size, i.bytes)) = some (some (.agg #[.int .i64 0, .int .i64 0]), 2, 16) := by kernel_rfl
def ecells (l : EdgeL) : List Value := l.flatMap fun e => [.int .i64 e.1, .int .i64 e.2]
theorem ecells_len (l : EdgeL) : (ecells l).length = l.length * 2 := by
  induction l with
  | nil => rfl
  | cons x l ih => simp only [ecells, List.flatMap_cons, List.length_append, List.length_cons, List.length_nil] at *; omega
theorem ecells_append (a b : EdgeL) : ecells (a ++ b) = ecells a ++ ecells b := by unfold ecells; rw [List.flatMap_append]
theorem ecells_at : ∀ (l : EdgeL) (i : Nat), i < l.length → (ecells l)[i * 2]? = some (.int .i64 (eAt l i).1) ∧ (ecells l)[i * 2 + 1]? = some (.int .i64 (eAt l i).2)
  | [], i, h => by simp at h
  | x :: l, 0, _ => ⟨rfl, rfl⟩
  | x :: l, i + 1, h => by
    have := ecells_at l i (by simpa using h)
    have e1 : (i + 1) * 2 = i * 2 + 1 + 1 := by omega
    have e2 : ecells (x :: l) = .int .i64 x.1 :: .int .i64 x.2 :: ecells l := rfl
    have e3 : eAt (x :: l) (i + 1) = eAt l i := by unfold eAt; simp
    rw [e1, e2, e3]
    simpa using this
theorem ecells_one (l : EdgeL) : ∀ u ∈ ecells l, u.oneCell' = true := by
  intro u hu
  simp only [ecells, List.mem_flatMap] at hu
  obtain ⟨e, _, h⟩ := hu
  simp at h
  rcases h with rfl | rfl <;> rfl
theorem EdgesIn.cells {F : Nat → Prop} {w : World} {v : Value} {l : EdgeL} (h : EdgesIn F w v l) : CellsIn F w 2 v l.length (ecells l) := by
  obtain ⟨A, c, rfl, _, _, h3⟩ := h
  refine ⟨A, c, rfl, ecells_len l, fun hn => ?_⟩
  obtain ⟨b, off, rfl, hF, hc⟩ := h3 hn
  refine ⟨b, off, rfl, hF, fun j u hj => ?_⟩
  have hlt : j < l.length * 2 := by
    rcases Nat.lt_or_ge j (ecells l).length with h | h
    · rw [ecells_len] at h; exact h
    · rw [List.getElem?_eq_none h] at hj; cases hj
  obtain ⟨i, rfl | rfl⟩ : ∃ i, j = i * 2 ∨ j = i * 2 + 1 := ⟨j / 2, by omega⟩
  · rw [(hc i (by omega)).1, ← (ecells_at l i (by omega)).1]; exact hj
  · rw [← Nat.add_assoc, (hc i (by omega)).2, ← (ecells_at l i (by omega)).2]; exact hj
theorem edges_of_own {w : World} {base n : Nat} {e : TypeId} {v : Value} {l : EdgeL} (h : w.ownsRow base e 2 v n (ecells l)) (hw : ∀ e ∈ l, wf64 e.1 ∧ wf64 e.2) : EdgesIn (fun b => base ≤ b ∧ b < w.heap.size) w v l := by
  have hl : l.length = n := by have := h.1; rw [ecells_len] at this; omega
  subst hl
  by_cases hn : 0 < l.length
  · obtain ⟨g, cap, rfl, hb, hlt, hc1, hc2, hc⟩ := own_open h hn
    refine ⟨_, cap, rfl, by omega, hw, fun _ => ⟨g, 0, rfl, ⟨hb, hlt⟩, fun i hi => ?_⟩⟩
    rw [Nat.zero_add, hc (i * 2) (by omega), hc (i * 2 + 1) (by omega)]
    exact ecells_at l i hi
  · rcases h.2 with ⟨rfl, h0⟩ | ⟨g, cap, cur, rfl, hb, hh, hc1, hc2, _⟩
    · exact ⟨none, 0, by simp; omega, by unfold maxLen; omega, hw, fun h => absurd h hn⟩
    · exact ⟨_, cap, rfl, by omega, hw, fun h => absurd h hn⟩
set_option maxRecDepth 100000 in
set_option maxHeartbeats 400000 in
theorem eclone_any (l : EdgeL) (F : Nat → Prop) (v : Value) (w : World) (hF : ∀ b, F b → b < w.heap.size) (hv : EdgesIn F w v l) (hz : l.length * 16 ≤ 140737488355328) :
    Calls Tryd.prog 40 #[v] w fun e w' => ∃ r, e = .returned r ∧ w'.ownsRow w.heap.size 32 2 r l.length (ecells l) ∧ Below w.heap.size w w' := by
  have H := hid hv
  have HF := hid hF
  obtain ⟨A, c, rfl, h1, _, h3⟩ := hv
  have h2 : l.length ≤ 8796093022208 := by omega
  clear h1 hF hz
  obtain ⟨i0, hi, hz0, hz1, hz2⟩ := info_parts infoEdge
  have eqn := fun w => Lib.run_eql_slice_nil (P := Tryd.prog) w 22 32 A l.length c 0 0 Tryd.underlying22
  cases A with
  | none =>
    have h0 : l.length = 0 := by
      rcases Nat.eq_zero_or_pos l.length with h | h
      · exact h
      · obtain ⟨_, _, h, _⟩ := h3 h; cases h
    obtain rfl : l = [] := List.eq_nil_of_length_eq_zero h0
    clear h3 h0
    simp at eqn
    go_enter Tryd.func40, Tryd.ntmps40
    go_wp2_with fail
    go_ret
    exact ⟨_, rfl, World.ownsRow_nil _ _ _ _, Below.refl _ _⟩
  | some a =>
    clear h3
    simp at eqn
    have O0 := hid (World.ownsRow_lit (e := 32) (size := 2) (base := w.heap.size) w #[] 0 (Nat.le_refl _) (by unfold maxLen; omega) rfl)
    have C0 := hid (H.out.cells.keep (w' := w.alloc (Obj.cells #[] 32)) (fun b hb => Below.heap_alloc _ _ _ (HF.out b hb)))
    go_enter Tryd.func40, Tryd.ntmps40
    go_wp2_with (at_builtin; refine wpList_app _ rfl (.tmp 5) (.tmp 6) 22 rfl w.heap.size 32 i0 (.agg #[.int .i64 0, .int .i64 0]) 2 16 Tryd.underlying22 hi hz0 hz1 hz2 rfl (by decide) _ 0 [] rfl O0.out _ _ l.length _ rfl C0.out (ecells_one _) (by unfold maxLen; omega) (by omega) (by simp) ?_; intro v1 w1 hown hgrow hat; have B1 : Below w.heap.size w w1 := ((Below.refl _ _).alloc (Nat.le_refl _) _).grown hgrow (by simp) (own_ge O0.out); replace hown : w1.ownsRow w.heap.size 32 2 v1 l.length (ecells l) := (by simpa using hown))
    go_ret
    exact ⟨_, rfl, hown, B1⟩
end Go.Proofs.YtkiljnggphlomaaDoor
