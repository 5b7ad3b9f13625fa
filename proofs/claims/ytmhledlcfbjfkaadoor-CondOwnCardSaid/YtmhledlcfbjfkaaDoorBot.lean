/- A slice of bools that came in reads as a row of bools. No conditions. -/
import Derived.Test.YtmhledlcfbjfkaaDoorCdk
import Derived.Deep.Grids
import Derived.Test.YtmhledlcfbjfkaaDoorRch
namespace Go.Proofs.YtmhledlcfbjfkaaDoor
open Go.RowKit Go.ChangeShapes Go.Deep
theorem bools_of_trod {P : Program} {H : Type} {enc : TypeId × Value → H} {W : World} {t e : TypeId} {A : Option Addr} {n c : Nat} {d : DataW H} {p : List MemPlace} (ht : P.underlying t = some (.slice e)) (he : P.underlying e = some .bool) (hc : P.cellsOf e = 1)
    (h : DataW.Trod enc P W 0 (fun _ => true) true t (.slice A n c) d p) : ∃ zs, BoolsIn (fun b => b < W.heap.size) W (.slice A n c) zs := by
  obtain ⟨fuel, hf⟩ := h
  rcases open_bools ht he hc hf with ⟨hcs, _⟩ | ⟨x, l, cp, B, hcs, _, hl, hm, _, hcell⟩
  · simp [Value.cells] at hcs
    obtain ⟨rfl, rfl, rfl⟩ := hcs
    exact ⟨[], none, 0, rfl, by simp, by simp, fun h => by simp at h⟩
  · simp [Value.cells] at hcs
    obtain ⟨rfl, rfl, rfl⟩ := hcs
    have hlen : ((List.range n).map B).length = n := by simp
    refine ⟨(List.range n).map B, some x, c, by rw [hlen], by rw [hlen]; exact hl, hm, fun hn => ?_⟩
    rw [hlen] at hn
    obtain ⟨b, off, spot⟩ := x
    have h0 := hcell 0 (by omega)
    have hspot : spot = none := by simpa [Addr.add] using World.cell?_spot h0
    subst hspot
    refine ⟨b, off, rfl, by simpa [Addr.add] using cell_lt h0, fun i hi => ?_⟩
    rw [hlen] at hi
    have h1 := hcell i (by omega)
    have e : bat ((List.range n).map B) i = B i := by unfold bat; rw [List.getD_eq_getElem?_getD]; simp [hi]
    rw [e]
    by_cases hi0 : i = 0
    · subst hi0; simpa [Addr.add] using h1
    · simpa [Addr.add, hi0] using h1
theorem bools_reach {P : Program} {H : Type} {enc : TypeId × Value → H} {W : World} {ts : List TypeId} {ds : List (DataW H)} {t e : TypeId} {A : Option Addr} {n c j : Nat} {d : DataW H} {p : List MemPlace}
    (hsz : (DataW.weightsEach P ts ds).all (· ≤ reachBytes) = true) (hj : ts[j]? = some t) (hd : ds[j]? = some d) (ht : P.underlying t = some (.slice e)) (he : P.underlying e = some .bool) (hc : P.cellsOf e = 1)
    (h : DataW.Trod enc P W 0 (fun _ => true) true t (.slice A n c) d p) : n * P.bytesOf e ≤ 140737488351232 := by
  obtain ⟨fuel, hf⟩ := h
  rcases open_bools ht he hc hf with ⟨hcs, _⟩ | ⟨x, l, cp, B, hcs, _, hl, hm, hx, _⟩
  · simp [Value.cells] at hcs
    obtain ⟨rfl, rfl, rfl⟩ := hcs
    simp
  · simp [Value.cells] at hcs
    obtain ⟨rfl, rfl, rfl⟩ := hcs
    have hd' := congrArg Prod.fst hx
    simp only [boolRow] at hd'
    subst hd'
    have h1 := sized_slice hsz hj hd ht
    have h4 : reachBytes = 140737488351232 := rfl
    have h3 : n * P.bytesOf e ≤ c * P.bytesOf e := Nat.mul_le_mul_right _ hl
    simp at h1
    first
      | omega
      | (have h5 : n + (c - n) = c := by omega
         rw [h5] at h1; omega)
end Go.Proofs.YtmhledlcfbjfkaaDoor
