/- A list of rows of the call's own, each in a block of its own. No conditions. -/
import Derived.Test.YtkiljnggphlomaaDoorPnx
import Derived.Test.YtkiljnggphlomaaDoorCon
namespace Go.Proofs.YtkiljnggphlomaaDoor
open Go.RowKit Go.Deep
theorem infoRow : (Tryd.prog.info? 23).map (fun i => (i.zero, i.size, i.bytes)) = some (some (.slice none 0 0), 1, 24) := by kernel_rfl
/-- row slices whose blocks are told -/
def rowVs (n : Nat) (bs : List Nat) : List Value := bs.map fun b => .slice (some ⟨b, 0, none⟩) n n
theorem rowVs_len (n : Nat) (bs : List Nat) : (rowVs n bs).length = bs.length := by simp [rowVs]
theorem rowVs_one (n : Nat) (bs : List Nat) : ∀ u ∈ rowVs n bs, u.oneCell' = true := by
  intro u hu; simp only [rowVs, List.mem_map] at hu; obtain ⟨b, _, rfl⟩ := hu; rfl
/-- rows of length n in blocks bs, each below hi and from base on, no two in one -/
structure RowsAt (base hi n : Nat) (w : World) (bs : List Nat) (ll : List (List Int)) : Prop where
  len : bs.length = ll.length
  nd : bs.Nodup
  lo : ∀ b ∈ bs, base ≤ b ∧ b < hi
  at_ : ∀ (i : Nat) b row, bs[i]? = some b → ll[i]? = some row → RowAt w b row
  ok : ∀ row ∈ ll, row.length = n ∧ rowOk row
section
variable {base hi n : Nat} {w w' : World} {bs : List Nat} {ll : List (List Int)}
theorem RowsAt.nil_ : RowsAt base hi n w [] [] := ⟨rfl, List.nodup_nil, by simp, by simp, by simp⟩
theorem RowsAt.keep (h : RowsAt base hi n w bs ll) (hs : ∀ b, base ≤ b → b < hi → w'.heap[b]? = w.heap[b]?) : RowsAt base hi n w' bs ll :=
  ⟨h.len, h.nd, h.lo, fun i b row hb hr => by
    have hl := h.lo b (List.mem_of_getElem? hb)
    exact (hs b hl.1 hl.2).trans (h.at_ i b row hb hr), h.ok⟩
theorem RowsAt.below (h : RowsAt base hi n w bs ll) {B : Nat} (hb : Below B w w') (hB : hi ≤ B) : RowsAt base hi n w' bs ll := h.keep fun b _ h2 => hb.block b (by omega)
theorem RowsAt.raise (h : RowsAt base hi n w bs ll) {hi' : Nat} (hh : hi ≤ hi') : RowsAt base hi' n w bs ll := ⟨h.len, h.nd, fun b hb => by have := h.lo b hb; omega, h.at_, h.ok⟩
theorem RowsAt.snoc (h : RowsAt base hi n w bs ll) {r : Nat} {row : List Int} (hr : hi ≤ r) (hb : base ≤ hi) (hrow : RowAt w r row) (hl : row.length = n) (hok : rowOk row) : RowsAt base (r + 1) n w (bs ++ [r]) (ll ++ [row]) := by
  refine ⟨by simp [h.len], ?_, fun b hb' => ?_, fun i b rw_ hb' hr' => ?_, fun x hx => ?_⟩
  · rw [List.nodup_append]
    refine ⟨h.nd, by simp, fun a ha b hb' => ?_⟩
    simp at hb'
    have := h.lo a ha
    omega
  · rw [List.mem_append] at hb'
    rcases hb' with hb' | hb'
    · have := h.lo b hb'; omega
    · simp at hb'; omega
  · by_cases hi' : i < bs.length
    · rw [List.getElem?_append_left hi'] at hb'
      rw [List.getElem?_append_left (by rw [← h.len]; exact hi')] at hr'
      exact h.at_ i b rw_ hb' hr'
    · rw [List.getElem?_append_right (by omega)] at hb'
      rw [List.getElem?_append_right (by rw [← h.len]; omega), ← h.len] at hr'
      have e : i - bs.length = 0 := by
        rcases Nat.eq_zero_or_pos (i - bs.length) with e | e
        · exact e
        · rw [List.getElem?_eq_none (by simp; omega)] at hb'; cases hb'
      rw [e] at hb' hr'
      simp at hb' hr'
      subst hb' hr'
      exact hrow
  · rw [List.mem_append] at hx
    rcases hx with hx | hx
    · exact h.ok x hx
    · simp at hx; subst hx; exact ⟨hl, hok⟩
theorem RowsAt.del (h : RowsAt base hi n w bs ll) (i : Nat) : RowsAt base hi n w (bs.take i ++ bs.drop (i + 1)) (ll.take i ++ ll.drop (i + 1)) := by
  have e1 : bs.take i ++ bs.drop (i + 1) = bs.eraseIdx i := by rw [List.eraseIdx_eq_take_drop_succ]
  have e2 : ll.take i ++ ll.drop (i + 1) = ll.eraseIdx i := by rw [List.eraseIdx_eq_take_drop_succ]
  rw [e1, e2]
  refine ⟨?_, h.nd.sublist (List.eraseIdx_sublist _ _), fun b hb => h.lo b (List.mem_of_mem_eraseIdx hb), fun k b row hb hr => ?_, fun x hx => h.ok x (List.mem_of_mem_eraseIdx hx)⟩
  · rw [List.length_eraseIdx, List.length_eraseIdx, h.len]
  · rw [List.getElem?_eraseIdx] at hb hr
    split at hb
    · rename_i hk; rw [if_pos hk] at hr; exact h.at_ k b row hb hr
    · rename_i hk; rw [if_neg hk] at hr; exact h.at_ (k + 1) b row hb hr
theorem RowsAt.cellAt (h : RowsAt base hi n w bs ll) (hn : n ≤ maxLen) {i : Nat} (hi' : i < ll.length) : ∃ r, (rowVs n bs)[i]? = some r ∧ IntsIn .i64 (fun b => base ≤ b ∧ b < hi) w r (rowAt ll i) := by
  have hb : i < bs.length := by rw [h.len]; exact hi'
  have hR := h.at_ i bs[i] ll[i] (List.getElem?_eq_getElem hb) (List.getElem?_eq_getElem hi')
  have ho := h.ok ll[i] (List.getElem_mem _)
  refine ⟨_, by simp [rowVs, hb]; rfl, ?_⟩
  rw [rowAt_get hi']
  have := hR.ints ho.2.wf (by rw [ho.1]; exact hn)
  rw [ho.1] at this
  exact this.more fun b hb' => by rw [hb']; exact h.lo _ (List.getElem_mem _)
theorem RowsAt.lens (h : RowsAt base hi n w bs ll) : ∀ k, k < ll.length → (rowAt ll k).length = n := fun k hk => by
  rw [rowAt_get hk]; exact (h.ok _ (List.getElem_mem _)).1
/-- an own list of rows that lie so -/
theorem RowsAt.rows (h : RowsAt base hi n w bs ll) (hn : n ≤ maxLen) {B : Nat} {v : Value} (ho : w.ownsRow B 23 1 v ll.length (rowVs n bs)) {F : Nat → Prop} (hF : ∀ b, base ≤ b → b < hi → F b) (hF2 : ∀ b, B ≤ b → b < w.heap.size → F b) : RowsIn F w v ll :=
  rows_of_own ho rfl (fun i hi' => by
    obtain ⟨r, h1, h2⟩ := h.cellAt hn hi'
    exact ⟨r, h1, h2.more fun b hb => hF b hb.1 hb.2⟩) hF2
end
end Go.Proofs.YtkiljnggphlomaaDoor
