/- What the form's own reach gives of a slice of slices of integers that came in: the length of each row. No conditions. -/
import Derived.Test.YtbnannlpebggjaaDoorRch
import Derived.Test.YtbnannlpebggjaaDoorMrow
namespace Go.Proofs.YtbnannlpebggjaaDoor
open Go.RowKit Go.ChangeShapes Go.Deep
theorem weights_part {P : Program} {H : Type} {e : TypeId} {d : DataW H} : ∀ {l : List (DataW H)}, d ∈ l → ∀ n ∈ d.weights P e, n ∈ DataW.weightsAll P e l
  | [], h => by cases h
  | x :: r, h => by
    intro n hn
    simp only [DataW.weightsAll, List.mem_append]
    rcases List.mem_cons.1 h with rfl | h
    · exact Or.inl hn
    · exact Or.inr (weights_part h n hn)
theorem rows_reach {P : Program} {H : Type} {enc : TypeId × Value → H} {W : World} {ts : List TypeId} {ds : List (DataW H)} {t e q : TypeId} {A : Option Addr} {n c j : Nat} {d : DataW H} {p : List MemPlace} {ll : List (List Int)}
    (hsz : (DataW.weightsEach P ts ds).all (· ≤ reachBytes) = true) (hj : ts[j]? = some t) (hd : ds[j]? = some d) (ht : P.underlying t = some (.slice e)) (he : P.underlying e = some (.slice q)) (hq : P.underlying q = some (.int .i64)) (ce : P.cellsOf e = 1) (cq : P.cellsOf q = 1) (bq : P.bytesOf q = 8)
    (h : DataW.Trod enc P W 0 (fun _ => true) true t (.slice A n c) d p) (hr : RowsIn (fun b => b < W.heap.size) W (.slice A n c) ll) : ∀ x ∈ ll, x.length * 8 ≤ 140737488351232 := by
  obtain ⟨A', c', e1, hl, hrr⟩ := hr
  injection e1 with e1 e2 e3
  subst e1 e2
  obtain ⟨fuel, hf⟩ := h
  simp only [Value.cells] at hf
  rcases open_int_rows ht he hq ce cq hf with ⟨hcs, _⟩ | ⟨a, len, cap, A2, L, C, Z, hcs, _, hl2, hm, hx, hcell⟩
  · simp at hcs
    obtain ⟨rfl, h0, rfl⟩ := hcs
    subst h0
    simp
  · simp at hcs
    obtain ⟨rfl, h1, rfl⟩ := hcs
    subst h1
    have hd2 := congrArg Prod.fst hx
    simp only at hd2
    subst hd2
    intro x hx2
    obtain ⟨i, hi, rfl⟩ := List.getElem_of_mem hx2
    obtain ⟨b, off, ea, _, hci⟩ := hrr (by omega)
    obtain ⟨r, hr1, A3, c3, hr3, _⟩ := hci i hi
    have hc1 := (hcell i (by omega)).1
    have hc2 := (hcell i (by omega)).2.1
    have hc4 := (hcell i (by omega)).2.2.2.1
    have ea' : a = ⟨b, off, none⟩ := by injection ea
    subst ea'
    have e5 : W.cell? ((⟨b, off, none⟩ : Addr).add i) = W.cell? ⟨b, off + i, none⟩ := by
      by_cases h0 : i = 0
      · subst h0; simp [Addr.add]
      · simp [Addr.add, h0]
    rw [e5, hr1, hr3] at hc1
    injection hc1 with hc1
    injection hc1 with _ hL _
    have hrow : rowAt ll i = ll[i] := by unfold rowAt; rw [List.getD_eq_getElem?_getD, List.getElem?_eq_getElem hi]; rfl
    rw [hrow] at hL
    have hmem : intRow (H := H) .i64 (A2 i) (L i) (Z i) ∈ (List.range ll.length).map fun r => intRow .i64 (A2 r) (L r) (Z r) := List.mem_map.2 ⟨i, by simp [hi], rfl⟩
    have h4 : reachBytes = 140737488351232 := rfl
    have all := List.all_eq_true.1 hsz
    by_cases hn : A2 i = none
    · have := (hcell i (by omega)).2.2.2.2.2.1 hn
      omega
    · have hw : (L i + (lits (H := H) .i64 ((Z i).drop (L i))).length) * P.bytesOf q ∈ (intRow (H := H) .i64 (A2 i) (L i) (Z i)).weights P e := by
        have hlen : (lits (H := H) .i64 ((Z i).take (L i))).length = L i := by simp [lits]; omega
        unfold intRow
        split
        · rename_i h0; exact absurd h0 hn
        · simp [DataW.weights, he, hlen]
      have hin := weights_part hmem _ hw
      have hmem2 := DataW.weights_mem_each (P := P) hj hd ((L i + (lits (H := H) .i64 ((Z i).drop (L i))).length) * P.bytesOf q) (by simp only [DataW.weights, ht]; exact List.mem_cons_of_mem _ (List.mem_append.2 (Or.inl hin)))
      have := all _ hmem2
      simp only [decide_eq_true_eq, bq] at this
      have h5 : L i * 8 ≤ (L i + (lits (H := H) .i64 ((Z i).drop (L i))).length) * 8 := Nat.mul_le_mul_right _ (by omega)
      omega
end Go.Proofs.YtbnannlpebggjaaDoor
