/- How long a slice of edges can be that came in, by the form's own reach. No conditions. -/
import Derived.Test.YtkiljnggphlomaaDoorEdg
import Derived.Test.YtkiljnggphlomaaDoorRch
namespace Go.Proofs.YtkiljnggphlomaaDoor
open Go.RowKit Go.Deep Go.ChangeShapes
theorem edges_reach {P : Program} {H : Type} {enc : TypeId × Value → H} {W : World} {ts : List TypeId} {ds : List (DataW H)} {t e q : TypeId} {f0 f1 : Field} {A : Option Addr} {n c j : Nat} {d : DataW H} {p : List MemPlace}
    (hsz : (DataW.weightsEach P ts ds).all (· ≤ reachBytes) = true) (hj : ts[j]? = some t) (hd : ds[j]? = some d) (ht : P.underlying t = some (.slice e)) (he : P.underlying e = some (.struct #[f0, f1])) (ce : P.cellsOf e = 2) (o0 : f0.offset = 0) (o1 : f1.offset = 1)
    (t0 : f0.type = q) (t1 : f1.type = q) (cq : P.cellsOf q = 1)
    (h : DataW.Trod enc P W 0 (fun _ => true) true t (.slice A n c) d p) : n * P.bytesOf e ≤ 140737488351232 := by
  obtain ⟨fuel, hf⟩ := h
  simp only [Value.cells] at hf
  rcases open_slice_pairs ht he ce o0 o1 (by rw [t0]; exact cq) (by rw [t1]; exact cq) hf with ⟨hcs, _⟩ | ⟨a, len, cap, m, k, V0, V1, D0, D1, P0, P1, hcs, _, hl, hm, hmm, hx, _⟩
  · simp at hcs
    obtain ⟨rfl, rfl, rfl⟩ := hcs
    simp
  · simp at hcs
    obtain ⟨rfl, rfl, rfl⟩ := hcs
    have hd' := (Prod.mk.inj hx).1
    subst hd'
    have h1 := sized_slice hsz hj hd ht
    have h2 : ((List.range n).map fun i => (DataW.agg [D0 i, D1 i] : DataW H)).length = n := by simp
    rw [h2] at h1
    have h3 := Nat.mul_le_mul_right (P.bytesOf e) (Nat.le_add_right n ((List.range (m - n)).map fun j => (DataW.agg [D0 (n + j), D1 (n + j)] : DataW H)).length)
    have h4 : reachBytes = 140737488351232 := rfl
    omega
end Go.Proofs.YtkiljnggphlomaaDoor
