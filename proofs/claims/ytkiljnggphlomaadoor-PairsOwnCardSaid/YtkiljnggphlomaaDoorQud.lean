/- A slice of fours (two factors, a level of each: four cells each) that reads as a list; in rows that the call owns. No conditions. -/
import Derived.Test.YtkiljnggphlomaaDoorPrn
import Derived.Test.YtkiljnggphlomaaDoorGen
import Derived.Test.YtkiljnggphlomaaDoorOwh
import Derived.Test.YtkiljnggphlomaaDoorApp
namespace Go.Proofs.YtkiljnggphlomaaDoor
open Go.RowKit Go.Deep
def qAt (l : List Four) (i : Nat) : Four := l.getD i (0, 0, 0, 0)
def QuadsIn (F : Nat → Prop) (w : World) (v : Value) (l : List Four) : Prop :=
  ∃ A c, v = .slice A l.length c ∧ (l.length ≤ c ∧ c ≤ maxLen) ∧
    (0 < l.length → ∃ b off, A = some ⟨b, off, none⟩ ∧ F b ∧ ∀ i, i < l.length → w.cell? ⟨b, off + i * 4, none⟩ = some (.int .i64 (qAt l i).1) ∧ w.cell? ⟨b, off + i * 4 + 1, none⟩ = some (.int .i64 (qAt l i).2.1) ∧ w.cell? ⟨b, off + i * 4 + 2, none⟩ = some (.int .i64 (qAt l i).2.2.1) ∧ w.cell? ⟨b, off + i * 4 + 3, none⟩ = some (.int .i64 (qAt l i).2.2.2))
section
variable {F F' : Nat → Prop} {w w' : World} {v : Value} {l : List Four}
theorem QuadsIn.nil_ : QuadsIn F w (.slice none 0 0) [] := ⟨none, 0, rfl, by simp, by simp⟩
theorem QuadsIn.keep (h : QuadsIn F w v l) (hs : Same F w w') : QuadsIn F w' v l := by
  obtain ⟨A, c, rfl, h1, h3⟩ := h
  refine ⟨A, c, rfl, h1, fun hn => ?_⟩
  obtain ⟨b, off, rfl, hF, hc⟩ := h3 hn
  exact ⟨b, off, rfl, hF, fun i hi => ⟨(hs.cell (p := ⟨b, off + i * 4, none⟩) hF).trans (hc i hi).1, (hs.cell (p := ⟨b, off + i * 4 + 1, none⟩) hF).trans (hc i hi).2.1, (hs.cell (p := ⟨b, off + i * 4 + 2, none⟩) hF).trans (hc i hi).2.2.1, (hs.cell (p := ⟨b, off + i * 4 + 3, none⟩) hF).trans (hc i hi).2.2.2⟩⟩
theorem QuadsIn.more (h : QuadsIn F w v l) (hF : ∀ b, F b → F' b) : QuadsIn F' w v l := by
  obtain ⟨A, c, rfl, h1, h3⟩ := h
  refine ⟨A, c, rfl, h1, fun hn => ?_⟩
  obtain ⟨b, off, rfl, hFb, hc⟩ := h3 hn
  exact ⟨b, off, rfl, hF _ hFb, hc⟩
end
theorem qAt_mem {l : List Four} {i : Nat} (hi : i < l.length) : qAt l i ∈ l := by
  unfold qAt; rw [List.getD_eq_getElem?_getD, List.getElem?_eq_getElem hi]; exact List.getElem_mem _
theorem take_qAt {l : List Four} {i : Nat} (hi : i < l.length) : l.take (i + 1) = l.take i ++ [qAt l i] := by
  rw [List.take_succ_eq_append_getElem hi]; unfold qAt; rw [List.getD_eq_getElem?_getD, List.getElem?_eq_getElem hi]; rfl
theorem infoQuad : (Tryd.prog.info? 118).map (fun i => (i.zero, i.size, i.bytes)) = some (some (.agg #[.int .i64 0, .int .i64 0, .int .i64 0, .int .i64 0]), 4, 32) := by kernel_rfl
def qc (e : Four) : List Value := [.int .i64 e.1, .int .i64 e.2.1, .int .i64 e.2.2.1, .int .i64 e.2.2.2]
def qcells (l : List Four) : List Value := l.flatMap qc
theorem qcells_len (l : List Four) : (qcells l).length = l.length * 4 := by
  induction l with
  | nil => rfl
  | cons x l ih => simp only [qcells, qc, List.flatMap_cons, List.length_append, List.length_cons, List.length_nil] at *; omega
theorem qcells_append (a b : List Four) : qcells (a ++ b) = qcells a ++ qcells b := by unfold qcells; rw [List.flatMap_append]
theorem qcells_at : ∀ (l : List Four) (i : Nat), i < l.length → (qcells l)[i * 4]? = some (.int .i64 (qAt l i).1) ∧ (qcells l)[i * 4 + 1]? = some (.int .i64 (qAt l i).2.1) ∧ (qcells l)[i * 4 + 2]? = some (.int .i64 (qAt l i).2.2.1) ∧ (qcells l)[i * 4 + 3]? = some (.int .i64 (qAt l i).2.2.2)
  | [], i, h => by simp at h
  | x :: l, 0, _ => ⟨rfl, rfl, rfl, rfl⟩
  | x :: l, i + 1, h => by
    have := qcells_at l i (by simpa using h)
    have e1 : (i + 1) * 4 = i * 4 + 1 + 1 + 1 + 1 := by omega
    have e2 : qcells (x :: l) = .int .i64 x.1 :: .int .i64 x.2.1 :: .int .i64 x.2.2.1 :: .int .i64 x.2.2.2 :: qcells l := rfl
    have e3 : qAt (x :: l) (i + 1) = qAt l i := by unfold qAt; simp
    rw [e1, e2, e3]
    simpa using this
theorem qcells_one (l : List Four) : ∀ u ∈ qcells l, u.oneCell' = true := by
  intro u hu
  simp only [qcells, qc, List.mem_flatMap] at hu
  obtain ⟨e, _, h⟩ := hu
  simp at h
  rcases h with rfl | rfl | rfl | rfl <;> rfl
theorem quads_of_own {w : World} {base n : Nat} {e : TypeId} {v : Value} {l : List Four} (h : w.ownsRow base e 4 v n (qcells l)) : QuadsIn (fun b => base ≤ b ∧ b < w.heap.size) w v l := by
  have hl : l.length = n := by have := h.1; rw [qcells_len] at this; omega
  subst hl
  by_cases hn : 0 < l.length
  · obtain ⟨g, cap, rfl, hb, hlt, hc1, hc2, hc⟩ := own_open h hn
    refine ⟨_, cap, rfl, by omega, fun _ => ⟨g, 0, rfl, ⟨hb, hlt⟩, fun i hi => ?_⟩⟩
    rw [Nat.zero_add, hc (i * 4) (by omega), hc (i * 4 + 1) (by omega), hc (i * 4 + 2) (by omega), hc (i * 4 + 3) (by omega)]
    exact qcells_at l i hi
  · rcases h.2 with ⟨rfl, h0⟩ | ⟨g, cap, cur, rfl, hb, hh, hc1, hc2, _⟩
    · exact ⟨none, 0, by simp; omega, by unfold maxLen; omega, fun h => absurd h hn⟩
    · exact ⟨_, cap, rfl, by omega, fun h => absurd h hn⟩
theorem cells_4 (w : World) (x y z u : Value) (t : TypeId) {g : Nat} (hg : g = w.heap.size) : CellsIn (fun b => b = g) (w.alloc (.cells #[x, y, z, u] t)) 4 (.slice (some ⟨g, 0, none⟩) 1 1) 1 [x, y, z, u] := by
  subst hg
  refine ⟨_, 1, rfl, rfl, fun _ => ⟨w.heap.size, 0, rfl, rfl, fun j u hj => ?_⟩⟩
  match j, hj with
  | 0, hj => simp at hj; subst hj; simp
  | 1, hj => simp at hj; subst hj; simp
  | 2, hj => simp at hj; subst hj; simp
  | 3, hj => simp at hj; subst hj; simp
end Go.Proofs.YtkiljnggphlomaaDoor
