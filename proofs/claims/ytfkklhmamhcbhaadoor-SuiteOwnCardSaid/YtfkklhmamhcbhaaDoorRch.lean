/- What the form's own reach gives of a slice of integers that came in: its length. No conditions. -/
import Derived.Test.YtfkklhmamhcbhaaDoorLib
import Derived.SizedLaws
namespace Go.Proofs.YtfkklhmamhcbhaaDoor
open Go.RowKit Go.ChangeShapes
theorem ints_reach {P : Program} {H : Type} {enc : TypeId × Value → H} {W : World} {ts : List TypeId} {ds : List (DataW H)} {t e : TypeId} {k : IntKind} {A : Option Addr} {n c j : Nat} {d : DataW H} {p : List MemPlace}
    (hsz : (DataW.weightsEach P ts ds).all (· ≤ reachBytes) = true) (hj : ts[j]? = some t) (hd : ds[j]? = some d) (ht : P.underlying t = some (.slice e)) (he : P.underlying e = some (.int k)) (hc : P.cellsOf e = 1)
    (h : DataW.Trod enc P W 0 (fun _ => true) true t (.slice A n c) d p) : n * P.bytesOf e ≤ 140737488351232 := by
  obtain ⟨fuel, hf⟩ := h
  rcases open_ints ht he hc hf with ⟨hcs, _⟩ | ⟨x, l, cp, zs, hcs, _, hl, _, hz, hx, _, _⟩
  · simp [Value.cells] at hcs
    obtain ⟨rfl, rfl, rfl⟩ := hcs
    simp
  · simp [Value.cells] at hcs
    obtain ⟨rfl, rfl, rfl⟩ := hcs
    simp at hz hx
    have hd' : d = .slice (lits k (zs.take n)) (lits k (zs.drop n)) := hx.1
    subst hd'
    have h1 := sized_slice hsz hj hd ht
    have h2 : (lits (H := H) k (zs.take n)).length = n := by simp [lits]; omega
    rw [h2] at h1
    have h3 : n * P.bytesOf e ≤ (n + (lits (H := H) k (zs.drop n)).length) * P.bytesOf e := Nat.mul_le_mul_right _ (by omega)
    have h4 : reachBytes = 140737488351232 := rfl
    omega
end Go.Proofs.YtfkklhmamhcbhaaDoor
