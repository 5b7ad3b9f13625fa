/- How many rows pairs.Rows returns; its contract in one piece; the first row and the others of what it told, where the first is written into. No conditions. -/
import Derived.Test.YtkiljnggphlomaaDoorPrw
namespace Go.Proofs.YtkiljnggphlomaaDoor
open Go.RowKit Go.Deep
theorem growP_len (l : List Int) : ∀ (f : Nat) (rows : List (List Int)), (growP l f rows).length ≤ rows.length + (missP l rows).length
  | 0, _ => by simp [growP]
  | f + 1, rows => by
    simp only [growP]
    split
    · omega
    · have h1 := growP_len l f (rows ++ [nextP l (missP l rows)])
      have h2 := missP_lt (levels := l) (rows := rows) (by omega)
      rw [List.length_append, List.length_singleton] at h1
      omega
theorem pruneP_len (l : List Int) : ∀ (i : Nat) (rows : List (List Int)), (pruneP l i rows).length ≤ rows.length
  | 0, _ => Nat.le_refl _
  | i + 1, rows => by
    have h := pruneP_len l i (if (missP l (rows.take i ++ rows.drop (i + 1))).length = 0 then rows.take i ++ rows.drop (i + 1) else rows)
    rw [← pruneP_step] at h
    refine Nat.le_trans h ?_
    split
    · simp; omega
    · exact Nat.le_refl _
theorem rowsP_le {l : List Int} (h : LevOk l) : (rowsP l).length ≤ 3600 := by
  rw [rowsP_grown]
  refine Nat.le_trans (pruneP_len _ _ _) ?_
  have := growP_len l ((missP l []).length + 1) []
  have h2 := missP_le h []
  unfold grown
  simp only [List.length_nil] at this
  omega
def rowsG (l : List Int) : List (List Int) := if pairsC l = 0 then rowsP l else []
theorem rowsG_le (l : List Int) : (rowsG l).length ≤ 3600 := by
  unfold rowsG
  split
  · rename_i h; exact rowsP_le (pairsC_ok h)
  · simp
theorem prows_u (l : List Int) (F : Nat → Prop) (v : Value) (w : World) (hF : ∀ b, F b → b < w.heap.size) (hv : IntsIn .i64 F w v l) :
    Calls Tryd.prog 17 #[v] w fun e w' => ∃ r bs, e = .returned (.tuple #[r, errV (pairsC l)]) ∧ RInv w.heap.size l.length r bs (rowsG l) w' ∧ Below w.heap.size w w' := by
  refine (prows_any l F v w hF hv).mono ?_
  rintro e w' ⟨hb, ⟨h0, rfl⟩ | ⟨h0, r, bs, rfl, hR⟩⟩
  · have e : rowsG l = [] := by unfold rowsG; rw [if_neg h0]
    exact ⟨_, [], rfl, by rw [e]; exact ⟨World.ownsRow_nil _ _ _ _, RowsAt.nil_, by simp⟩, hb⟩
  · have e : rowsG l = rowsP l := by unfold rowsG; rw [if_pos h0]
    exact ⟨r, bs, by rw [h0, errV_0], by rw [e]; exact hR, hb⟩
/-- all rows but the first read so -/
def TailIn (w : World) (v : Value) (ll : List (List Int)) : Prop :=
  ∀ i, 1 ≤ i → i < ll.length → ∃ g c r, v = .slice (some ⟨g, 0, none⟩) ll.length c ∧ w.cell? ⟨g, i, none⟩ = some r ∧ IntsIn .i64 (fun b => b < w.heap.size) w r (rowAt ll i)
section
variable {B n : Nat} {v : Value} {bs : List Nat} {ll : List (List Int)} {w w' : World}
theorem RInv.tail (h : RInv B n v bs ll w) (hn : n ≤ maxLen) (hg : w.grownBy w' bs[0]?) : TailIn w' v ll := by
  intro i h1 hi
  obtain ⟨g, cap, rfl, _, hgl, _, _, hc⟩ := own_open h.own (by omega)
  have hb : i < bs.length := by rw [h.at_.len]; exact hi
  obtain ⟨b0, hb0⟩ : ∃ b0, bs[0]? = some b0 := ⟨_, List.getElem?_eq_getElem (by omega)⟩
  have hgn : some g ≠ bs[0]? := by
    rw [hb0]
    intro e
    injection e with e
    exact h.ne b0 (List.mem_of_getElem? hb0) (by rw [← e]; rfl)
  have hbl := h.at_.lo bs[i] (List.getElem_mem _)
  have hbn : some bs[i] ≠ bs[0]? := by
    rw [List.getElem?_eq_getElem (by omega)]
    intro e
    injection e with e
    exact (List.pairwise_iff_getElem.1 h.at_.nd 0 i (by omega) hb (by omega)) e.symm
  have hR := h.at_.at_ i bs[i] ll[i] (List.getElem?_eq_getElem hb) (List.getElem?_eq_getElem hi)
  have ho := h.at_.ok ll[i] (List.getElem_mem _)
  have hR' : RowAt w' bs[i] ll[i] := (hg.block _ hbl.2 hbn).trans hR
  have := hR'.ints ho.2.wf (by rw [ho.1]; exact hn)
  rw [ho.1] at this
  refine ⟨g, cap, _, rfl, (hg.cell ((hc i (by omega)).trans (by simp [rowVs, hb]; rfl)) hgn), ?_⟩
  rw [rowAt_get hi]
  have hlt := hR'.lt
  exact this.more fun b e => by rw [e]; exact hlt
theorem RInv.head (h : RInv B n v bs ll w) (hn : n ≤ maxLen) (h0 : 0 < ll.length) : ∃ b0 g c, bs[0]? = some b0 ∧ v = .slice (some ⟨g, 0, none⟩) ll.length c ∧ w.cell? ⟨g, 0, none⟩ = some (.slice (some ⟨b0, 0, none⟩) n n) ∧
    w.ownsRow B 3 1 (.slice (some ⟨b0, 0, none⟩) n n) n ((rowAt ll 0).map (Value.int .i64)) ∧ (rowAt ll 0).length = n ∧ B ≤ b0 ∧ b0 < w.heap.size := by
  obtain ⟨g, cap, rfl, _, hgl, _, _, hc⟩ := own_open h.own h0
  have hb : 0 < bs.length := by rw [h.at_.len]; exact h0
  have hR := h.at_.at_ 0 bs[0] ll[0] (List.getElem?_eq_getElem hb) (List.getElem?_eq_getElem h0)
  have ho := h.at_.ok ll[0] (List.getElem_mem _)
  have hl := h.at_.lo bs[0] (List.getElem_mem _)
  have := hR.own hl.1 (by rw [ho.1]; exact hn)
  rw [ho.1] at this
  exact ⟨bs[0], g, cap, List.getElem?_eq_getElem hb, rfl, (hc 0 (by omega)).trans (by simp [rowVs, hb]), by rw [rowAt_get h0]; exact this, by rw [rowAt_get h0]; exact ho.1, hl.1, hl.2⟩
theorem RInv.row_le (h : RInv B n v bs ll w) : ∀ x ∈ ll, x.length = n := fun x hx => (h.at_.ok x hx).1
end
end Go.Proofs.YtkiljnggphlomaaDoor
