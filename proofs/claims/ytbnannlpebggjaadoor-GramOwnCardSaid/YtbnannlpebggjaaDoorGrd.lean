/- A grammar that came in (slices of slices of slices of integers): it reads as a plain list, and the form's own reach bounds each of its lengths. No conditions. -/
import Derived.Test.YtbnannlpebggjaaDoorGra
import Derived.Test.YtbnannlpebggjaaDoorRrw
import Derived.ChangeArms
namespace Go.Proofs.YtbnannlpebggjaaDoor
open Go.RowKit Go.ChangeShapes Go.Deep
section
variable {P : Program} {H : Type} {enc : TypeId × Value → H} {W : World}
theorem sl_open {t e : TypeId} {fuel : Nat} {v : Value} {x : DataW H × List MemPlace} (ht : P.underlying t = some (.slice e)) (ce : P.cellsOf e = 1) (h : DataW.trod enc P W 0 (fun _ => true) true fuel t [v] = some x) (hw : ∀ n ∈ x.1.weights P t, n ≤ 140737488351232) :
    ∃ A len cap, v = .slice A len cap ∧ len ≤ cap ∧ cap ≤ maxLen ∧ len * P.bytesOf e ≤ 140737488351232 ∧ (0 < len → ∃ b off, A = some ⟨b, off, none⟩ ∧ b < W.heap.size) ∧
      ∀ i, i < len → ∃ b off r m y, A = some ⟨b, off, none⟩ ∧ W.cell? ⟨b, off + i, none⟩ = some r ∧ DataW.trod enc P W 0 (fun _ => true) true m e [r] = some y ∧ ∀ n ∈ y.1.weights P e, n ≤ 140737488351232 := by
  rcases DataW.trod_slice ht h with ⟨hcs, _⟩ | ⟨a, len, cap, elems, rest, m, _, hcs, hx, _, h1, h2, hel, hat, _, _⟩
  · injection hcs with hcs _
    subst hcs
    exact ⟨none, 0, 0, rfl, Nat.le_refl _, by unfold maxLen; omega, by omega, fun h => absurd h (by omega), fun i hi => absurd hi (by omega)⟩
  · injection hcs with hcs _
    subst hcs
    have hd : x.1 = .slice (elems.map (·.1)) (rest.map (·.1)) := by rw [hx]
    rw [hd] at hw
    have hw0 : (elems.length + rest.length) * P.bytesOf e ≤ 140737488351232 := by
      have := hw _ (by simp only [DataW.weights, ht]; exact List.mem_cons_self)
      simpa using this
    have hb : len * P.bytesOf e ≤ 140737488351232 := Nat.le_trans (Nat.mul_le_mul_right _ (by omega)) hw0
    have each : ∀ i, i < len → ∃ r y, W.cell? (a.add i) = some r ∧ DataW.trod enc P W 0 (fun _ => true) true m e [r] = some y ∧ ∀ n ∈ y.1.weights P e, n ≤ 140737488351232 := fun i hi => by
      have e1 := hat i hi
      rw [ce, Nat.mul_one] at e1
      have e2 : elems[i]? = some (elems[i]'(by rw [hel]; exact hi)) := List.getElem?_eq_getElem _
      rw [e2] at e1
      obtain ⟨ci, c1, c2⟩ := Option.bind_eq_some_iff.1 e1
      obtain ⟨l1, l2⟩ := (World.cells?_some c1).2
      match ci, l1 with
      | [r], _ =>
        have c3 := l2 0 (by omega)
        have e0 : (a.add i).add 0 = a.add i := by simp [Addr.add]
        rw [e0] at c3
        refine ⟨r, _, by simpa using c3, c2, fun n hn => hw n ?_⟩
        simp only [DataW.weights, ht]
        refine List.mem_cons_of_mem _ (List.mem_append.2 (.inl (weights_part (d := (elems[i]'(by rw [hel]; exact hi)).1) ?_ n hn)))
        exact List.mem_map_of_mem (List.getElem_mem _)
    obtain ⟨b, off, spot⟩ := a
    rcases Nat.eq_zero_or_pos len with h0 | h0
    · exact ⟨_, len, cap, rfl, h1, h2, hb, fun h => absurd h (by omega), fun i hi => absurd hi (by omega)⟩
    · have hs : spot = none := by
        obtain ⟨r, y, c, _⟩ := each 0 h0
        simpa [Addr.add] using World.cell?_spot c
      subst hs
      have key : ∀ i, i < len → ∃ r y, W.cell? ⟨b, off + i, none⟩ = some r ∧ DataW.trod enc P W 0 (fun _ => true) true m e [r] = some y ∧ ∀ n ∈ y.1.weights P e, n ≤ 140737488351232 := fun i hi => by
        obtain ⟨r, y, c, c2⟩ := each i hi
        refine ⟨r, y, ?_, c2⟩
        by_cases h0 : i = 0
        · subst h0; simpa [Addr.add] using c
        · simpa [Addr.add, h0] using c
      refine ⟨_, len, cap, rfl, h1, h2, hb, fun _ => ⟨b, off, rfl, ?_⟩, fun i hi => ?_⟩
      · obtain ⟨r, y, c, _⟩ := key 0 h0
        have : (⟨b, off + 0, none⟩ : Addr).block < W.heap.size := cell_lt c
        exact this
      · obtain ⟨r, y, c, c2, c3⟩ := key i hi
        exact ⟨b, off, r, m, y, rfl, c, c2, c3⟩
variable {q1 q2 q3 q0 : TypeId}
theorem ints_open {fuel : Nat} {v : Value} {x : DataW H × List MemPlace} (h1 : P.underlying q1 = some (.slice q0)) (h0 : P.underlying q0 = some (.int .i64)) (c0 : P.cellsOf q0 = 1) (b0 : P.bytesOf q0 = 8) (h : DataW.trod enc P W 0 (fun _ => true) true fuel q1 [v] = some x) (hw : ∀ n ∈ x.1.weights P q1, n ≤ 140737488351232) :
    ∃ zs, IntsIn .i64 (fun b => b < W.heap.size) W v zs ∧ zs.length * 8 ≤ 140737488351232 := by
  obtain ⟨A, len, cap, rfl, l1, l2, l3, lb, each⟩ := sl_open h1 c0 h hw
  rw [b0] at l3
  have ch : ∀ i, ∃ z : Int, i < len → ∃ b off, A = some ⟨b, off, none⟩ ∧ W.cell? ⟨b, off + i, none⟩ = some (.int .i64 z) ∧ (Lit.int .i64 z).wf = true := fun i => by
    by_cases hi : i < len
    · obtain ⟨b, off, r, m, y, e1, c1, c2, _⟩ := each i hi
      obtain ⟨k, ea, _, wk⟩ := DataW.trod_int h0 c2
      injection ea with ea _
      subst ea
      exact ⟨k, fun _ => ⟨b, off, e1, c1, wk⟩⟩
    · exact ⟨0, fun h => absurd h hi⟩
  let Z : Nat → Int := fun i => (ch i).choose
  have hZ : ∀ i, i < len → ∃ b off, A = some ⟨b, off, none⟩ ∧ W.cell? ⟨b, off + i, none⟩ = some (.int .i64 (Z i)) ∧ (Lit.int .i64 (Z i)).wf = true := fun i => (ch i).choose_spec
  have ll : ((List.range len).map Z).length = len := by simp
  refine ⟨(List.range len).map Z, ⟨A, cap, by rw [ll], by rw [ll]; exact ⟨l1, l2⟩, fun z hz => ?_, fun hn => ?_⟩, by rw [ll]; exact l3⟩
  · obtain ⟨i, hi, rfl⟩ := List.mem_map.1 hz
    obtain ⟨_, _, _, _, h⟩ := hZ i (List.mem_range.1 hi)
    exact h
  · rw [ll] at hn
    obtain ⟨b, off, rfl, hb⟩ := lb hn
    refine ⟨b, off, rfl, hb, fun i hi => ?_⟩
    rw [ll] at hi
    obtain ⟨b', off', e, c, _⟩ := hZ i hi
    injection e with e
    injection e with e1 e2
    subst e1 e2
    rw [c]
    simp [List.getD_eq_getElem?_getD, hi]
theorem rows_open {fuel : Nat} {v : Value} {x : DataW H × List MemPlace} (h2 : P.underlying q2 = some (.slice q1)) (h1 : P.underlying q1 = some (.slice q0)) (h0 : P.underlying q0 = some (.int .i64)) (c1 : P.cellsOf q1 = 1) (c0 : P.cellsOf q0 = 1) (b1 : P.bytesOf q1 = 24) (b0 : P.bytesOf q0 = 8) (h : DataW.trod enc P W 0 (fun _ => true) true fuel q2 [v] = some x) (hw : ∀ n ∈ x.1.weights P q2, n ≤ 140737488351232) :
    ∃ ll, RowsIn (fun b => b < W.heap.size) W v ll ∧ ll.length * 24 ≤ 140737488351232 ∧ ∀ r ∈ ll, r.length * 8 ≤ 140737488351232 := by
  obtain ⟨A, len, cap, rfl, l1, l2, l3, lb, each⟩ := sl_open h2 c1 h hw
  rw [b1] at l3
  have ch : ∀ i, ∃ z : List Int, i < len → ∃ b off r, A = some ⟨b, off, none⟩ ∧ W.cell? ⟨b, off + i, none⟩ = some r ∧ IntsIn .i64 (fun b => b < W.heap.size) W r z ∧ z.length * 8 ≤ 140737488351232 := fun i => by
    by_cases hi : i < len
    · obtain ⟨b, off, r, m, y, e1, k1, k2, k3⟩ := each i hi
      obtain ⟨zs, k4, k5⟩ := ints_open h1 h0 c0 b0 k2 k3
      exact ⟨zs, fun _ => ⟨b, off, r, e1, k1, k4, k5⟩⟩
    · exact ⟨[], fun h => absurd h hi⟩
  let Z : Nat → List Int := fun i => (ch i).choose
  have hZ : ∀ i, i < len → ∃ b off r, A = some ⟨b, off, none⟩ ∧ W.cell? ⟨b, off + i, none⟩ = some r ∧ IntsIn .i64 (fun b => b < W.heap.size) W r (Z i) ∧ (Z i).length * 8 ≤ 140737488351232 := fun i => (ch i).choose_spec
  have ll : ((List.range len).map Z).length = len := by simp
  refine ⟨(List.range len).map Z, ⟨A, cap, by rw [ll], by rw [ll]; exact ⟨l1, l2⟩, fun hn => ?_⟩, by rw [ll]; exact l3, fun r hr => ?_⟩
  · rw [ll] at hn
    obtain ⟨b, off, rfl, hb⟩ := lb hn
    refine ⟨b, off, rfl, hb, fun i hi => ?_⟩
    rw [ll] at hi
    obtain ⟨b', off', r, e, k1, k2, _⟩ := hZ i hi
    injection e with e
    injection e with e1 e2
    subst e1 e2
    have e3 : rowAt ((List.range len).map Z) i = Z i := by unfold rowAt; rw [List.getD_eq_getElem?_getD]; simp [hi]
    rw [e3]
    exact ⟨r, k1, k2⟩
  · obtain ⟨i, hi, rfl⟩ := List.mem_map.1 hr
    obtain ⟨_, _, _, _, _, _, h⟩ := hZ i (List.mem_range.1 hi)
    exact h
theorem gram_open {fuel : Nat} {v : Value} {x : DataW H × List MemPlace} (h3 : P.underlying q3 = some (.slice q2)) (h2 : P.underlying q2 = some (.slice q1)) (h1 : P.underlying q1 = some (.slice q0)) (h0 : P.underlying q0 = some (.int .i64)) (c2 : P.cellsOf q2 = 1) (c1 : P.cellsOf q1 = 1) (c0 : P.cellsOf q0 = 1) (b2 : P.bytesOf q2 = 24) (b1 : P.bytesOf q1 = 24) (b0 : P.bytesOf q0 = 8) (h : DataW.trod enc P W 0 (fun _ => true) true fuel q3 [v] = some x) (hw : ∀ n ∈ x.1.weights P q3, n ≤ 140737488351232) :
    ∃ g : Gr, GramIn (fun b => b < W.heap.size) W v g ∧ g.length * 24 ≤ 140737488351232 ∧ (∀ rows ∈ g, rows.length * 24 ≤ 140737488351232) ∧ ∀ rows ∈ g, ∀ r ∈ rows, r.length * 8 ≤ 140737488351232 := by
  obtain ⟨A, len, cap, rfl, l1, l2, l3, lb, each⟩ := sl_open h3 c2 h hw
  rw [b2] at l3
  have ch : ∀ i, ∃ z : List (List Int), i < len → ∃ b off r, A = some ⟨b, off, none⟩ ∧ W.cell? ⟨b, off + i, none⟩ = some r ∧ RowsIn (fun b => b < W.heap.size) W r z ∧ z.length * 24 ≤ 140737488351232 ∧ ∀ r ∈ z, r.length * 8 ≤ 140737488351232 := fun i => by
    by_cases hi : i < len
    · obtain ⟨b, off, r, m, y, e1, k1, k2, k3⟩ := each i hi
      obtain ⟨zs, k4, k5, k6⟩ := rows_open h2 h1 h0 c1 c0 b1 b0 k2 k3
      exact ⟨zs, fun _ => ⟨b, off, r, e1, k1, k4, k5, k6⟩⟩
    · exact ⟨[], fun h => absurd h hi⟩
  let Z : Nat → List (List Int) := fun i => (ch i).choose
  have hZ : ∀ i, i < len → ∃ b off r, A = some ⟨b, off, none⟩ ∧ W.cell? ⟨b, off + i, none⟩ = some r ∧ RowsIn (fun b => b < W.heap.size) W r (Z i) ∧ (Z i).length * 24 ≤ 140737488351232 ∧ ∀ r ∈ Z i, r.length * 8 ≤ 140737488351232 := fun i => (ch i).choose_spec
  have ll : ((List.range len).map Z).length = len := by simp
  refine ⟨(List.range len).map Z, ⟨A, cap, by rw [ll], by rw [ll]; exact ⟨l1, l2⟩, fun hn => ?_⟩, by rw [ll]; exact l3, fun r hr => ?_, fun r hr => ?_⟩
  · rw [ll] at hn
    obtain ⟨b, off, rfl, hb⟩ := lb hn
    refine ⟨b, off, rfl, hb, fun i hi => ?_⟩
    rw [ll] at hi
    obtain ⟨b', off', r, e, k1, k2, _⟩ := hZ i hi
    injection e with e
    injection e with e1 e2
    subst e1 e2
    have e3 : gAt ((List.range len).map Z) i = Z i := by unfold gAt; rw [List.getD_eq_getElem?_getD]; simp [hi]
    rw [e3]
    exact ⟨r, k1, k2⟩
  · obtain ⟨i, hi, rfl⟩ := List.mem_map.1 hr
    obtain ⟨_, _, _, _, _, _, h, _⟩ := hZ i (List.mem_range.1 hi)
    exact h
  · obtain ⟨i, hi, rfl⟩ := List.mem_map.1 hr
    obtain ⟨_, _, _, _, _, _, _, h⟩ := hZ i (List.mem_range.1 hi)
    exact h
theorem gram_of_Trod {ts : List TypeId} {ds : List (DataW H)} {j : Nat} {v : Value} {d : DataW H} {p : List MemPlace} (hsz : (DataW.weightsEach P ts ds).all (· ≤ reachBytes) = true) (hj : ts[j]? = some q3) (hd : ds[j]? = some d)
    (h3 : P.underlying q3 = some (.slice q2)) (h2 : P.underlying q2 = some (.slice q1)) (h1 : P.underlying q1 = some (.slice q0)) (h0 : P.underlying q0 = some (.int .i64)) (c2 : P.cellsOf q2 = 1) (c1 : P.cellsOf q1 = 1) (c0 : P.cellsOf q0 = 1) (b2 : P.bytesOf q2 = 24) (b1 : P.bytesOf q1 = 24) (b0 : P.bytesOf q0 = 8)
    (hv : ∃ A n c, v = .slice A n c) (h : DataW.Trod enc P W 0 (fun _ => true) true q3 v d p) :
    ∃ g : Gr, GramIn (fun b => b < W.heap.size) W v g ∧ g.length * 24 ≤ 140737488351232 ∧ (∀ rows ∈ g, rows.length * 24 ≤ 140737488351232) ∧ ∀ rows ∈ g, ∀ r ∈ rows, r.length * 8 ≤ 140737488351232 := by
  obtain ⟨A, n, c, rfl⟩ := hv
  obtain ⟨fuel, hf⟩ := h
  simp only [Value.cells] at hf
  refine gram_open h3 h2 h1 h0 c2 c1 c0 b2 b1 b0 hf fun m hm => ?_
  have := List.all_eq_true.1 hsz _ (DataW.weights_mem_each hj hd m hm)
  have h4 : reachBytes = 140737488351232 := rfl
  rw [h4] at this
  simpa using this
end
end Go.Proofs.YtbnannlpebggjaaDoor
