/- A row of numbers that lies whole in a block of the call's own; the counting of pairs.next as mathematics. No conditions. -/
import Derived.Test.YtkiljnggphlomaaDoorRpt
import Derived.Test.YtkiljnggphlomaaDoorPms
namespace Go.Proofs.YtkiljnggphlomaaDoor
open Go.RowKit Go.Deep
def RowAt (w : World) (r : Nat) (row : List Int) : Prop := w.heap[r]? = some (.cells (row.map (Value.int .i64)).toArray 3 (0, 0))
section
variable {w w' : World} {r : Nat} {row : List Int}
theorem RowAt.cell (h : RowAt w r row) {i : Nat} (hi : i < row.length) : w.cell? ⟨r, i, none⟩ = some (.int .i64 (at0 row i)) := by
  rw [Has.cell h i]
  simp [at0, List.getD_eq_getElem?_getD, List.getElem?_eq_getElem hi, hi]
theorem RowAt.froz (h : RowAt w r row) (i : Nat) : w.frozen? ⟨r, i, none⟩ = false := Has.froz h i
theorem RowAt.lt (h : RowAt w r row) : r < w.heap.size := Has.lt h
theorem RowAt.set (h : RowAt w r row) (i : Nat) (x : Int) : RowAt (w.setCell ⟨r, i, none⟩ (.int .i64 x)) r (row.set i x) := by
  unfold RowAt
  rw [Has.set h i (.int .i64 x)]
  simp [List.map_set]
theorem RowAt.alloc (h : RowAt w r row) (o : Obj) : RowAt (w.alloc o) r row := Has.alloc h o
theorem RowAt.below (h : RowAt w r row) {B : Nat} (hb : Below B w w') (hr : r < B) : RowAt w' r row := Has.below h hb hr
theorem RowAt.ints (h : RowAt w r row) (hw : ∀ z ∈ row, (Lit.int .i64 z).wf = true) (hl : row.length ≤ maxLen) : IntsIn .i64 (fun b => b = r) w (.slice (some ⟨r, 0, none⟩) row.length row.length) row :=
  ⟨_, _, rfl, ⟨Nat.le_refl _, hl⟩, hw, fun _ => ⟨r, 0, rfl, rfl, fun i hi => by rw [Nat.zero_add]; exact h.cell hi⟩⟩
theorem RowAt.own (h : RowAt w r row) {B : Nat} (hB : B ≤ r) (hl : row.length ≤ maxLen) : w.ownsRow B 3 1 (.slice (some ⟨r, 0, none⟩) row.length row.length) row.length (row.map (Value.int .i64)) :=
  ⟨by simp, .inr ⟨r, _, _, rfl, hB, h, Nat.le_refl _, hl, by simp, by rw [Nat.mul_one]; exact List.take_of_length_le (by simp)⟩⟩
end
def rowOk (row : List Int) : Prop := ∀ z ∈ row, -1 ≤ z ∧ z ≤ 12
theorem rowOk.wf {row : List Int} (h : rowOk row) : ∀ z ∈ row, (Lit.int .i64 z).wf = true := fun z hz => WalkArith.wf_i64 (by have := h z hz; omega)
theorem rowOk.set {row : List Int} (h : rowOk row) (i : Nat) {x : Int} (h0 : -1 ≤ x) (h1 : x ≤ 12) : rowOk (row.set i x) := fun z hz => by
  rcases List.mem_or_eq_of_mem_set hz with h2 | rfl
  · exact h z h2
  · exact ⟨h0, h1⟩
theorem bestP_lo (row : List Int) (a : Nat) (o : List Four) : ∀ x, 0 ≤ (bestP row a o x).1 ∧ (bestP row a o x).1 ≤ x
  | 0 => ⟨Int.le_refl _, Int.le_refl _⟩
  | x + 1 => by
    have := bestP_lo row a o x
    simp only [bestP]
    split
    · show 0 ≤ (x : Int) ∧ (x : Int) ≤ ((x + 1 : Nat) : Int); omega
    · omega
theorem fillP_ok {levels : List Int} (h : LevOk levels) (o : List Four) : ∀ (a : Nat) {row : List Int}, rowOk row → rowOk (fillP levels o a row)
  | 0, _, hr => hr
  | a + 1, row, hr => by
    have ih := fillP_ok h o a hr
    simp only [fillP]
    split
    · exact ih
    · have := bestP_lo (fillP levels o a row) a o (lvl levels a)
      have := lvl_le h a
      exact ih.set a (by omega) (by omega)
theorem seedP_ok {levels : List Int} (h : LevOk levels) {p : Four} (hp : p ∈ allP levels) : rowOk (seedP levels p) := by
  obtain ⟨a, x, b, y, rfl, hab, hb, hx, hy⟩ := mem_allP.1 hp
  have h1 := lvl_le h a
  have h2 := lvl_le h b
  unfold seedP
  refine rowOk.set (rowOk.set (fun z hz => ?_) _ (by simp only []; omega) (by simp only []; omega)) _ (by simp only []; omega) (by simp only []; omega)
  rw [List.eq_of_mem_replicate hz]; decide
theorem cntP_zero (row : List Int) (a : Nat) : cntP row a [] = 0 := rfl
theorem cntP_yes {row : List Int} {a : Nat} {o : List Four} {k : Nat} (hk : k < o.length) (h : (((qAt o k).1 == (a : Int) || (qAt o k).2.2.1 == (a : Int)) && hasP row (qAt o k)) = true) : cntP row a (o.take (k + 1)) = cntP row a (o.take k) + 1 := by
  unfold cntP; rw [take_qAt hk, List.filter_append]; simp [h]
theorem cntP_no {row : List Int} {a : Nat} {o : List Four} {k : Nat} (hk : k < o.length) (h : (((qAt o k).1 == (a : Int) || (qAt o k).2.2.1 == (a : Int)) && hasP row (qAt o k)) = false) : cntP row a (o.take (k + 1)) = cntP row a (o.take k) := by
  unfold cntP; rw [take_qAt hk, List.filter_append]; simp [h]
theorem cntP_le (row : List Int) (a : Nat) (o : List Four) : cntP row a o ≤ o.length := List.length_filter_le _ _
theorem bestP_yes {row : List Int} {a : Nat} {o : List Four} {x : Nat} (h : (bestP row a o x).2 < (cntP (row.set a x) a o : Nat)) : bestP row a o (x + 1) = ((x : Int), ((cntP (row.set a x) a o : Nat) : Int)) := by
  simp only [bestP]; rw [if_pos h]
theorem bestP_no {row : List Int} {a : Nat} {o : List Four} {x : Nat} (h : ¬ (bestP row a o x).2 < (cntP (row.set a x) a o : Nat)) : bestP row a o (x + 1) = bestP row a o x := by
  simp only [bestP]; rw [if_neg h]
theorem fillP_skip {levels : List Int} {o : List Four} {a : Nat} {row : List Int} (h : 0 ≤ at0 (fillP levels o a row) a) : fillP levels o (a + 1) row = fillP levels o a row := by
  simp only [fillP]; rw [if_pos h]
theorem fillP_do {levels : List Int} {o : List Four} {a : Nat} {row : List Int} (h : ¬ 0 ≤ at0 (fillP levels o a row) a) : fillP levels o (a + 1) row = (fillP levels o a row).set a (bestP (fillP levels o a row) a o (lvl levels a)).1 := by
  simp only [fillP]; rw [if_neg h]
end Go.Proofs.YtkiljnggphlomaaDoor
