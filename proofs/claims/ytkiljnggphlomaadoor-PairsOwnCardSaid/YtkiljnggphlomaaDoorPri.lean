/- What pairs.Rows knows of its rows: the list's row and the rows, all apart; how many there can be. No program's walk. No conditions. -/
import Derived.Test.YtkiljnggphlomaaDoorPcc
namespace Go.Proofs.YtkiljnggphlomaaDoor
open Go.RowKit Go.Deep
structure RInv (B n : Nat) (rv : Value) (bs : List Nat) (ll : List (List Int)) (w : World) : Prop where
  own : w.ownsRow B 23 1 rv ll.length (rowVs n bs)
  at_ : RowsAt B w.heap.size n w bs ll
  ne : ∀ b ∈ bs, rv.ownBlock ≠ some b
section
variable {B n : Nat} {rv rv' : Value} {bs : List Nat} {ll : List (List Int)} {w w1 w2 : World}
theorem RInv.below (h : RInv B n rv bs ll w) (hb : Below w.heap.size w w1) : RInv B n rv bs ll w1 :=
  ⟨own_below h.own hb, (h.at_.below hb (Nat.le_refl _)).raise hb.size, h.ne⟩
theorem RowsAt.keepBs {hi hi' : Nat} (h : RowsAt B hi n w bs ll) (hh : hi ≤ hi') (hs : ∀ b ∈ bs, w1.heap[b]? = w.heap[b]?) : RowsAt B hi' n w1 bs ll :=
  ⟨h.len, h.nd, fun b hb => by have := h.lo b hb; omega, fun i b row hb hr => (hs b (List.mem_of_getElem? hb)).trans (h.at_ i b row hb hr), h.ok⟩
theorem RInv.next {r : Nat} {row : List Int} {o : Obj} (h : RInv B n rv bs ll w) (hb : Below w.heap.size w w1) (hB : B ≤ w.heap.size) (hr : w.heap.size ≤ r) (hrow : RowAt w1 r row) (hl : row.length = n) (hok : rowOk row)
    (hown : w2.ownsRow B 23 1 rv' (ll.length + 1) (rowVs n bs ++ [.slice (some ⟨r, 0, none⟩) n n])) (hg : (w1.alloc o).grownBy w2 rv.ownBlock) (hat : rv'.ownBlock = rv.ownBlock ∨ rv'.ownBlock = some (w1.alloc o).heap.size) : RInv B n rv' (bs ++ [r]) (ll ++ [row]) w2 := by
  have h1 := h.at_.below hb (Nat.le_refl _)
  have h2 := h1.snoc hr hB hrow hl hok
  have s1 := hb.size
  have sg := hg.size
  have lr := hrow.lt
  have ol := own_lt h.own
  have nr : rv.ownBlock ≠ some r := fun e => by have := ol r e; omega
  simp only [World.size_alloc] at sg
  refine ⟨by simpa [rowVs] using hown, h2.keepBs (by omega) fun b hb' => ?_, fun b hb' => ?_⟩
  · rw [List.mem_append] at hb'
    have hlt : b < w1.heap.size ∧ rv.ownBlock ≠ some b := by
      rcases hb' with hb' | hb'
      · exact ⟨by have := h.at_.lo b hb'; omega, h.ne b hb'⟩
      · simp at hb'; subst hb'; exact ⟨lr, nr⟩
    exact (hg.block b (by simp; omega) (fun e => hlt.2 e.symm)).trans (Below.heap_alloc w1 o b hlt.1)
  · rw [List.mem_append] at hb'
    have hlt : b < w1.heap.size ∧ rv.ownBlock ≠ some b := by
      rcases hb' with hb' | hb'
      · exact ⟨by have := h.at_.lo b hb'; omega, h.ne b hb'⟩
      · simp at hb'; subst hb'; exact ⟨lr, nr⟩
    rcases hat with e | e
    · rw [e]; exact hlt.2
    · rw [e, World.size_alloc]; intro e2; injection e2 with e2; omega
theorem RInv.del {i : Nat} (h : RInv B n rv bs ll w) (hi : i < ll.length) (hb : Below w.heap.size w w1) (hB : B ≤ w.heap.size)
    (hown : w1.ownsRow w.heap.size 23 1 rv' (i + (ll.length - (i + 1))) ((rowVs n bs).take i ++ (rowVs n bs).drop (i + 1))) : RInv B n rv' (bs.take i ++ bs.drop (i + 1)) (ll.take i ++ ll.drop (i + 1)) w1 := by
  refine ⟨?_, ((h.at_.below hb (Nat.le_refl _)).raise hb.size).del i, fun b hb' e => ?_⟩
  · have e1 : (ll.take i ++ ll.drop (i + 1)).length = i + (ll.length - (i + 1)) := by simp; omega
    have e2 : rowVs n (bs.take i ++ bs.drop (i + 1)) = (rowVs n bs).take i ++ (rowVs n bs).drop (i + 1) := by simp [rowVs, List.map_take, List.map_drop]
    rw [e1, e2]
    exact own_lo hown hB
  · have h1 := own_ge hown b e
    have h2 : b ∈ bs := by
      rw [List.mem_append] at hb'
      rcases hb' with h | h
      · exact List.mem_of_mem_take h
      · exact List.mem_of_mem_drop h
    have := h.at_.lo b h2
    omega
theorem RInv.rows (h : RInv B n rv bs ll w) (hn : n ≤ maxLen) : RowsIn (fun b => b < w.heap.size) w rv ll := h.at_.rows hn h.own (fun _ _ h => h) (fun _ _ h => h)
/-- its two parts around a place, as slices of it -/
theorem RInv.part {i : Nat} {g c : Nat} (h : RInv B n (.slice (some ⟨g, 0, none⟩) ll.length c) bs ll w) (hi : i < ll.length) :
    CellsIn (fun b => b = g) w 1 (.slice (some ⟨g, 0, none⟩) i c) i ((rowVs n bs).take i) ∧
    (c ≠ i + 1 → CellsIn (fun b => b = g) w 1 (.slice (some ⟨g, i + 1, none⟩) (ll.length - (i + 1)) (c - (i + 1))) (ll.length - (i + 1)) ((rowVs n bs).drop (i + 1))) ∧
    (c = i + 1 → CellsIn (fun b => b = g) w 1 (.slice (some ⟨g, 0, none⟩) 0 0) 0 ((rowVs n bs).drop (i + 1)) ∧ ll.length = i + 1) := by
  obtain ⟨g', cap, e, _, _, hc1, _, hc⟩ := own_open h.own (by omega)
  injection e with e1 _ e2
  injection e1 with e1
  injection e1 with e1
  subst e1 e2
  have hl : (rowVs n bs).length = ll.length := by rw [rowVs_len, h.at_.len]
  refine ⟨⟨_, _, rfl, by simp; omega, fun _ => ⟨g, 0, rfl, rfl, fun j u hj => ?_⟩⟩, fun _ => ⟨_, _, rfl, by simp; omega, fun _ => ⟨g, i + 1, rfl, rfl, fun j u hj => ?_⟩⟩, fun hci => ⟨⟨_, _, rfl, by simp; omega, fun h => by omega⟩, by omega⟩⟩
  · rw [List.getElem?_take] at hj
    split at hj
    · rw [Nat.zero_add, hc j (by omega)]; exact hj
    · cases hj
  · rw [List.getElem?_drop] at hj
    have hlt : i + 1 + j < ll.length := by
      rcases Nat.lt_or_ge (i + 1 + j) ll.length with h | h
      · exact h
      · rw [List.getElem?_eq_none (by omega)] at hj; cases hj
    rw [hc (i + 1 + j) (by omega)]; exact hj
end
theorem nextP_ok {l : List Int} (h : LevOk l) {o : List Four} (ho : 0 < o.length) (hq : ∀ p ∈ o, p ∈ allP l) : rowOk (nextP l o) := by
  unfold nextP
  refine fillP_ok h o _ (seedP_ok h (hq _ ?_))
  rw [List.getD_eq_getElem?_getD, List.getElem?_eq_getElem ho]; exact List.getElem_mem _
def lenV : Value → Nat | .slice _ n _ => n | _ => 0
def oneUp : Value → Nat | .int _ z => (z + 1).toNat | _ => 0
theorem pruneP_step (l : List Int) (i : Nat) (ll : List (List Int)) : pruneP l (i + 1) ll = pruneP l i (if (missP l (ll.take i ++ ll.drop (i + 1))).length = 0 then ll.take i ++ ll.drop (i + 1) else ll) := rfl
end Go.Proofs.YtkiljnggphlomaaDoor
