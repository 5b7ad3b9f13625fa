/- More of pairs as mathematics: what all pairs are, that the next row has the first that is missing, so that each row leaves fewer. No program in sight. No conditions. -/
import Derived.Test.YtkiljnggphlomaaDoorPrm
namespace Go.Proofs.YtkiljnggphlomaaDoor
def pairsC (levels : List Int) : Int := if 12 < levels.length then 4 else if levels.any (fun n => decide (n < 1) || decide (5 < n)) then 1 else 0
structure LevOk (levels : List Int) : Prop where
  len : levels.length ≤ 12
  lo : ∀ i, i < levels.length → 1 ≤ at0 levels i ∧ at0 levels i ≤ 5
theorem pairsC_ok {levels : List Int} (h : pairsC levels = 0) : LevOk levels := by
  unfold pairsC at h
  split at h
  · simp at h
  · split at h
    · simp at h
    · rename_i h1 h2
      refine ⟨by omega, fun i hi => ?_⟩
      rw [Bool.not_eq_true, List.any_eq_false] at h2
      have hm : at0 levels i ∈ levels := by unfold at0; rw [List.getD_eq_getElem?_getD, List.getElem?_eq_getElem hi]; exact List.getElem_mem _
      have := h2 _ hm
      simp at this; omega
theorem at0_setP (l : List Int) (i j : Nat) (x : Int) : at0 (l.set i x) j = if i = j ∧ j < l.length then x else at0 l j := by
  unfold at0
  rw [List.getD_eq_getElem?_getD, List.getD_eq_getElem?_getD, List.getElem?_set]
  by_cases h : i = j
  · subst h
    by_cases h2 : i < l.length
    · simp [h2]
    · simp [h2, List.getElem?_eq_none (by omega : l.length ≤ i)]
  · simp [h]
theorem mem_allP {levels : List Int} {p : Four} : p ∈ allP levels ↔ ∃ a x b y : Nat, p = ((a : Int), (x : Int), (b : Int), (y : Int)) ∧ a < b ∧ b < levels.length ∧ x < lvl levels a ∧ y < lvl levels b := by
  simp only [allP, allA, allX, allB, List.mem_flatMap, List.mem_map, List.mem_range]
  constructor
  · rintro ⟨a, ha, x, hx, k, hk, y, hy, rfl⟩
    exact ⟨a, x, a + 1 + k, y, rfl, by omega, by omega, hx, hy⟩
  · rintro ⟨a, x, b, y, rfl, hab, hb, hx, hy⟩
    exact ⟨a, by omega, x, hx, b - (a + 1), by omega, y, by rw [show a + 1 + (b - (a + 1)) = b by omega]; exact hy, by rw [show a + 1 + (b - (a + 1)) = b by omega]⟩
theorem flatMap_le {α β : Type} (f : α → List β) (m : Nat) : ∀ (l : List α), (∀ x ∈ l, (f x).length ≤ m) → (l.flatMap f).length ≤ l.length * m
  | [], _ => by simp
  | x :: l, h => by
    have h1 := h x (by simp)
    have h2 := flatMap_le f m l (fun y hy => h y (by simp [hy]))
    rw [List.flatMap_cons, List.length_append, List.length_cons, Nat.add_mul]
    omega
theorem lvl_le {levels : List Int} (h : LevOk levels) (a : Nat) : lvl levels a ≤ 5 := by
  unfold lvl
  by_cases ha : a < levels.length
  · have := h.lo a ha; omega
  · have : at0 levels a = 0 := by unfold at0; rw [List.getD_eq_getElem?_getD, List.getElem?_eq_none (by omega)]; rfl
    rw [this]; decide
theorem allP_le {levels : List Int} (h : LevOk levels) : (allP levels).length ≤ 3600 := by
  have hl := h.len
  have h1 : ∀ a x b, (allB levels a x b).length ≤ 5 := fun a x b => by simp [allB]; exact lvl_le h b
  have h2 : ∀ a x, (allX levels a x).length ≤ 60 := fun a x => by
    have := flatMap_le (fun k => allB levels a x (a + 1 + k)) 5 (List.range (levels.length - (a + 1))) (fun k _ => h1 _ _ _)
    unfold allX
    rw [List.length_range] at this
    have h3 : (levels.length - (a + 1)) * 5 ≤ 12 * 5 := Nat.mul_le_mul_right 5 (by omega)
    omega
  have h3 : ∀ a, (allA levels a).length ≤ 300 := fun a => by
    have := flatMap_le (fun x => allX levels a x) 60 (List.range (lvl levels a)) (fun k _ => h2 _ _)
    unfold allA
    rw [List.length_range] at this
    have h4 : lvl levels a * 60 ≤ 5 * 60 := Nat.mul_le_mul_right 60 (lvl_le h a)
    omega
  have := flatMap_le (fun a => allA levels a) 300 (List.range levels.length) (fun k _ => h3 _)
  unfold allP
  rw [List.length_range] at this
  have h4 : levels.length * 300 ≤ 12 * 300 := Nat.mul_le_mul_right 300 hl
  omega
theorem missP_le {levels : List Int} (h : LevOk levels) (rows : List (List Int)) : (missP levels rows).length ≤ 3600 := Nat.le_trans (List.length_filter_le _ _) (allP_le h)
theorem fillP_length (levels : List Int) (o : List Four) : ∀ (a : Nat) (row : List Int), (fillP levels o a row).length = row.length
  | 0, _ => rfl
  | a + 1, row => by
    simp only [fillP]
    split
    · exact fillP_length levels o a row
    · rw [List.length_set]; exact fillP_length levels o a row
theorem fillP_keep (levels : List Int) (o : List Four) : ∀ (a : Nat) (row : List Int) (i : Nat), 0 ≤ at0 row i → at0 (fillP levels o a row) i = at0 row i
  | 0, _, _, _ => rfl
  | a + 1, row, i, h => by
    have ih := fillP_keep levels o a row i h
    simp only [fillP]
    split
    · exact ih
    · rename_i hn
      rw [at0_setP, if_neg, ih]
      rintro ⟨rfl, _⟩
      rw [ih] at hn; exact hn h
theorem seedP_length (levels : List Int) (p : Four) : (seedP levels p).length = levels.length := by simp [seedP]
theorem nextP_length (levels : List Int) (o : List Four) : (nextP levels o).length = levels.length := by unfold nextP; rw [fillP_length, seedP_length]
theorem seedP_has {levels : List Int} {p : Four} (h : p ∈ allP levels) : at0 (seedP levels p) p.1.toNat = p.2.1 ∧ at0 (seedP levels p) p.2.2.1.toNat = p.2.2.2 := by
  obtain ⟨a, x, b, y, rfl, hab, hb, hx, hy⟩ := mem_allP.1 h
  simp only [seedP, Int.toNat_natCast]
  constructor
  · rw [at0_setP, if_neg (by omega), at0_setP, if_pos ⟨rfl, by simp; omega⟩]
  · rw [at0_setP, if_pos ⟨rfl, by simp; omega⟩]
theorem next_has {levels : List Int} {o : List Four} (ho : 0 < o.length) (h : ∀ p ∈ o, p ∈ allP levels) : hasP (nextP levels o) (o.getD 0 (0, 0, 0, 0)) = true := by
  have hm : o.getD 0 (0, 0, 0, 0) ∈ o := by rw [List.getD_eq_getElem?_getD, List.getElem?_eq_getElem ho]; exact List.getElem_mem _
  have hp := h _ hm
  unfold nextP
  generalize o.getD 0 (0, 0, 0, 0) = p at hp ⊢
  obtain ⟨h1, h2⟩ := seedP_has hp
  obtain ⟨a, x, b, y, rfl, hab, hb, hx, hy⟩ := mem_allP.1 hp
  unfold hasP
  simp only at h1 h2 ⊢
  rw [fillP_keep _ _ _ _ _ (by rw [h1]; omega), fillP_keep _ _ _ _ _ (by rw [h2]; omega), h1, h2]
  simp
theorem miss_mem {levels : List Int} {rows : List (List Int)} : ∀ p ∈ missP levels rows, p ∈ allP levels := fun _ h => (List.mem_filter.1 h).1
theorem missP_snoc (levels : List Int) (rows : List (List Int)) (r : List Int) : missP levels (rows ++ [r]) = (missP levels rows).filter fun p => !hasP r p := by
  unfold missP
  rw [List.filter_filter]
  congr 1
  funext p
  rw [List.any_append]
  simp only [List.any_cons, List.any_nil, Bool.or_false]
  cases (rows.any fun r => hasP r p) <;> cases hasP r p <;> rfl
theorem missP_lt {levels : List Int} {rows : List (List Int)} (h : 0 < (missP levels rows).length) : (missP levels (rows ++ [nextP levels (missP levels rows)])).length < (missP levels rows).length := by
  have hh := next_has h (miss_mem (levels := levels) (rows := rows))
  rw [missP_snoc]
  generalize missP levels rows = o at *
  have hm : o.getD 0 (0, 0, 0, 0) ∈ o := by rw [List.getD_eq_getElem?_getD, List.getElem?_eq_getElem h]; exact List.getElem_mem _
  exact List.length_filter_lt_length_iff_exists.2 ⟨_, hm, by simpa using hh⟩
theorem growP_more (levels : List Int) : ∀ (f g : Nat) (rows : List (List Int)), (missP levels rows).length < f → (missP levels rows).length < g → growP levels f rows = growP levels g rows
  | 0, _, _, h, _ => by omega
  | f + 1, 0, _, _, h => by omega
  | f + 1, g + 1, rows, hf, hg => by
    simp only [growP]
    by_cases h0 : (missP levels rows).length = 0
    · rw [if_pos h0, if_pos h0]
    · rw [if_neg h0, if_neg h0]
      have := missP_lt (levels := levels) (rows := rows) (by omega)
      exact growP_more levels f g _ (by omega) (by omega)
/-- the rows that come of some rows -/
def grown (levels : List Int) (rows : List (List Int)) : List (List Int) := growP levels ((missP levels rows).length + 1) rows
theorem grown_done {levels : List Int} {rows : List (List Int)} (h : (missP levels rows).length = 0) : grown levels rows = rows := by
  unfold grown; simp only [growP]; rw [if_pos h]
theorem grown_next {levels : List Int} {rows : List (List Int)} (h : 0 < (missP levels rows).length) : grown levels rows = grown levels (rows ++ [nextP levels (missP levels rows)]) := by
  have := missP_lt h
  unfold grown
  rw [show growP levels ((missP levels rows).length + 1) rows = growP levels (missP levels rows).length (rows ++ [nextP levels (missP levels rows)]) by simp only [growP]; rw [if_neg (by omega)]]
  exact growP_more levels _ _ _ (by omega) (by omega)
theorem missP_nil (levels : List Int) : missP levels [] = allP levels := by
  unfold missP; rw [List.filter_eq_self]; simp
theorem rowsP_grown (levels : List Int) : rowsP levels = pruneP levels (grown levels []).length (grown levels []) := by
  unfold rowsP grown; rw [missP_nil]
end Go.Proofs.YtkiljnggphlomaaDoor
