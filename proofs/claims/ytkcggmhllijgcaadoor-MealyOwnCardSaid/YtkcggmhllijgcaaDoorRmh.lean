/- What the form's own reach gives of a machine that came in: how many rows, how long. No conditions. -/
import Derived.Test.YtkcggmhllijgcaaDoorRrn
namespace Go.Proofs.YtkcggmhllijgcaaDoor
open Go.RowKit Go.ChangeShapes Go.Deep Go.Joins
def MachSmall (m : MachD) : Prop := m.out.length * 24 ≤ 140737488351232 ∧ m.next.length * 24 ≤ 140737488351232 ∧ (∀ x ∈ m.out, x.length * 8 ≤ 140737488351232) ∧ ∀ x ∈ m.next, x.length * 8 ≤ 140737488351232
theorem mach_reach {P : Program} {H : Type} {enc : TypeId × Value → H} {W : World} {r : Reach} {b0 : Nat} {ts : List TypeId} {ds : List (DataW H)} {t e q z : TypeId} {f0 f1 : Field} {v : Value} {d : DataW H} {p : List MemPlace} {j : Nat}
    (hsz : (DataW.weightsEach P ts ds).all (· ≤ reachBytes) = true) (hj : ts[j]? = some z) (hd : ds[j]? = some d) (hs : P.underlying z = some (.struct #[f0, f1])) (hone : oneCellFields P #[f0, f1] = true) (hC : P.cellsOf z = 2) (hf0 : f0.type = t) (hf1 : f1.type = t)
    (ht : P.underlying t = some (.slice e)) (he : P.underlying e = some (.slice q)) (hq : P.underlying q = some (.int .i64)) (ce : P.cellsOf e = 1) (cq : P.cellsOf q = 1) (bq : P.bytesOf q = 8) (be : P.bytesOf e = 24)
    (hv : Value.okWide P W r b0 z v) (h : DataW.Trod enc P W 0 (fun _ => true) true z v d p) {m : MachD} (hm : MachIn (fun b => b < W.heap.size) W v m) : MachSmall m := by
  obtain ⟨v0, v1, y0, y1, n, rfl, rfl, _, h0, h1⟩ := open_agg2 hs hone hC hv h
  have hsz2 : (DataW.weightsEach P [t, t] [y0.1, y1.1]).all (· ≤ reachBytes) = true := List.all_eq_true.2 fun k hk => List.all_eq_true.1 hsz k (DataW.weights_mem_each hj hd k (by simp only [DataW.weights, hs]; simpa [hf0, hf1] using hk))
  obtain ⟨o1, n1, e1, r0, r1⟩ := hm
  injection e1 with e1
  have e2 := congrArg Array.toList e1
  simp at e2
  obtain ⟨rfl, rfl⟩ := e2
  rw [hf0] at h0
  rw [hf1] at h1
  have R0 := r0
  have R1 := r1
  obtain ⟨A0, c0, rfl, _, _⟩ := r0
  obtain ⟨A1, c1, rfl, _, _⟩ := r1
  have T0 : DataW.Trod enc P W 0 (fun _ => true) true t (.slice A0 m.out.length c0) y0.1 y0.2 := ⟨n, by simpa [Value.cells] using h0⟩
  have T1 : DataW.Trod enc P W 0 (fun _ => true) true t (.slice A1 m.next.length c1) y1.1 y1.2 := ⟨n, by simpa [Value.cells] using h1⟩
  have k0 := rows_reach_n (j := 0) hsz2 rfl rfl ht he hq ce cq T0
  have k1 := rows_reach_n (j := 1) hsz2 rfl rfl ht he hq ce cq T1
  rw [be] at k0 k1
  exact ⟨k0, k1, rows_reach (j := 0) hsz2 rfl rfl ht he hq ce cq bq T0 R0, rows_reach (j := 1) hsz2 rfl rfl ht he hq ce cq bq T1 R1⟩
end Go.Proofs.YtkcggmhllijgcaaDoor
