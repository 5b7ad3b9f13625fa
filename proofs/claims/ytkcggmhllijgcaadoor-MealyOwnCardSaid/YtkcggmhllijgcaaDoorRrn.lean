/- What the form's own reach gives of a slice of slices of integers that came in: how many rows it can have. No conditions. -/
import Derived.Test.YtkcggmhllijgcaaDoorRrw
namespace Go.Proofs.YtkcggmhllijgcaaDoor
open Go.RowKit Go.ChangeShapes Go.Deep
theorem rows_reach_n {P : Program} {H : Type} {enc : TypeId × Value → H} {W : World} {ts : List TypeId} {ds : List (DataW H)} {t e q : TypeId} {A : Option Addr} {n c j : Nat} {d : DataW H} {p : List MemPlace}
    (hsz : (DataW.weightsEach P ts ds).all (· ≤ reachBytes) = true) (hj : ts[j]? = some t) (hd : ds[j]? = some d) (ht : P.underlying t = some (.slice e)) (he : P.underlying e = some (.slice q)) (hq : P.underlying q = some (.int .i64)) (ce : P.cellsOf e = 1) (cq : P.cellsOf q = 1)
    (h : DataW.Trod enc P W 0 (fun _ => true) true t (.slice A n c) d p) : n * P.bytesOf e ≤ 140737488351232 := by
  obtain ⟨fuel, hf⟩ := h
  simp only [Value.cells] at hf
  rcases open_int_rows ht he hq ce cq hf with ⟨hcs, _⟩ | ⟨a, len, cap, A2, L, C, Z, hcs, _, hl2, hm, hx, hcell⟩
  · simp at hcs
    obtain ⟨rfl, h0, rfl⟩ := hcs
    subst h0
    simp
  · simp at hcs
    obtain ⟨rfl, h1, rfl⟩ := hcs
    subst h1
    have hd2 := congrArg Prod.fst hx
    simp only at hd2
    subst hd2
    have h1 := sized_slice hsz hj hd ht
    have h4 : reachBytes = 140737488351232 := rfl
    rw [h4] at h1
    refine Nat.le_trans (Nat.mul_le_mul_right _ ?_) h1
    simp
end Go.Proofs.YtkcggmhllijgcaaDoor
