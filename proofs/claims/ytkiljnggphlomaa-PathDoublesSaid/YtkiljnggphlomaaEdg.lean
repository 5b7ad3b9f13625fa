/- A slice of edges (pairs of numbers, two cells each) that reads as a list. No conditions. -/
import Derived.Test.YtkiljnggphlomaaGen
import Derived.Test.YtkiljnggphlomaaFlm
import Derived.Deep.SlicePairs
namespace Go.Proofs.Ytkiljnggphlomaa
open Go.RowKit Go.Deep
def eAt (l : EdgeL) (i : Nat) : Int × Int := l.getD i (0, 0)
def wf64 (x : Int) : Prop := (Lit.int .i64 x).wf = true
def EdgesIn (F : Nat → Prop) (w : World) (v : Value) (l : EdgeL) : Prop :=
  ∃ A c, v = .slice A l.length c ∧ (l.length ≤ c ∧ c ≤ maxLen) ∧ (∀ e ∈ l, wf64 e.1 ∧ wf64 e.2) ∧
    (0 < l.length → ∃ b off, A = some ⟨b, off, none⟩ ∧ F b ∧ ∀ i, i < l.length → w.cell? ⟨b, off + i * 2, none⟩ = some (.int .i64 (eAt l i).1) ∧ w.cell? ⟨b, off + i * 2 + 1, none⟩ = some (.int .i64 (eAt l i).2))
section
variable {F F' : Nat → Prop} {w w' : World} {v : Value} {l : EdgeL}
theorem EdgesIn.nil_ : EdgesIn F w (.slice none 0 0) [] := ⟨none, 0, rfl, by simp, by simp, by simp⟩
theorem EdgesIn.keep (h : EdgesIn F w v l) (hs : Same F w w') : EdgesIn F w' v l := by
  obtain ⟨A, c, rfl, h1, h2, h3⟩ := h
  refine ⟨A, c, rfl, h1, h2, fun hn => ?_⟩
  obtain ⟨b, off, rfl, hF, hc⟩ := h3 hn
  exact ⟨b, off, rfl, hF, fun i hi => ⟨(hs.cell (p := ⟨b, off + i * 2, none⟩) hF).trans (hc i hi).1, (hs.cell (p := ⟨b, off + i * 2 + 1, none⟩) hF).trans (hc i hi).2⟩⟩
theorem EdgesIn.more (h : EdgesIn F w v l) (hF : ∀ b, F b → F' b) : EdgesIn F' w v l := by
  obtain ⟨A, c, rfl, h1, h2, h3⟩ := h
  refine ⟨A, c, rfl, h1, h2, fun hn => ?_⟩
  obtain ⟨b, off, rfl, hFb, hc⟩ := h3 hn
  exact ⟨b, off, rfl, hF _ hFb, hc⟩
end
theorem eAt_mem {l : EdgeL} {i : Nat} (hi : i < l.length) : eAt l i ∈ l := by
  unfold eAt; rw [List.getD_eq_getElem?_getD, List.getElem?_eq_getElem hi]; exact List.getElem_mem _
theorem take_eAt {l : EdgeL} {i : Nat} (hi : i < l.length) : l.take (i + 1) = l.take i ++ [eAt l i] := by
  rw [List.take_succ_eq_append_getElem hi]; unfold eAt; rw [List.getD_eq_getElem?_getD, List.getElem?_eq_getElem hi]; rfl
theorem getD_take {l : EdgeL} {n i : Nat} (h : i < n) : (l.take n).getD i (0, 0) = l.getD i (0, 0) := by
  rw [List.getD_eq_getElem?_getD, List.getD_eq_getElem?_getD, List.getElem?_take_of_lt h]
theorem edges_of_trod {P : Program} {H : Type} {enc : TypeId × Value → H} {W : World} {t e q : TypeId} {f0 f1 : Field} {A : Option Addr} {n c : Nat} {d : DataW H} {p : List MemPlace} (ht : P.underlying t = some (.slice e)) (he : P.underlying e = some (.struct #[f0, f1])) (ce : P.cellsOf e = 2) (o0 : f0.offset = 0) (o1 : f1.offset = 1)
    (t0 : f0.type = q) (t1 : f1.type = q) (hq : P.underlying q = some (.int .i64)) (cq : P.cellsOf q = 1)
    (h : DataW.Trod enc P W 0 (fun _ => true) true t (.slice A n c) d p) : ∃ l, EdgesIn (fun b => b < W.heap.size) W (.slice A n c) l := by
  obtain ⟨fuel, hf⟩ := h
  simp only [Value.cells] at hf
  rcases open_slice_pairs ht he ce o0 o1 (by rw [t0]; exact cq) (by rw [t1]; exact cq) hf with ⟨hcs, _⟩ | ⟨a, len, cap, m, k, V0, V1, D0, D1, P0, P1, hcs, _, hl, hm, hmm, _, hx⟩
  · simp at hcs
    obtain ⟨rfl, rfl, rfl⟩ := hcs
    exact ⟨[], EdgesIn.nil_⟩
  · simp at hcs
    obtain ⟨rfl, rfl, rfl⟩ := hcs
    simp at hmm
    subst hmm
    have key : ∀ i, i < m → ∃ x : Int × Int, W.cell? (a.add (i * 2)) = some (.int .i64 x.1) ∧ W.cell? (a.add (i * 2 + 1)) = some (.int .i64 x.2) ∧ wf64 x.1 ∧ wf64 x.2 := by
      intro i hi
      obtain ⟨h1, h2, h3, h4⟩ := hx i hi
      rw [t0] at h3
      rw [t1] at h4
      obtain ⟨x, e1, _, w1⟩ := DataW.trod_int hq h3
      obtain ⟨y, e2, _, w2⟩ := DataW.trod_int hq h4
      simp at e1 e2
      rw [e1] at h1
      rw [e2] at h2
      exact ⟨(x, y), h1, h2, w1, w2⟩
    obtain ⟨X, hX⟩ := choose_lt (n := m) (α := Int × Int) (p := fun i x => W.cell? (a.add (i * 2)) = some (.int .i64 x.1) ∧ W.cell? (a.add (i * 2 + 1)) = some (.int .i64 x.2) ∧ wf64 x.1 ∧ wf64 x.2) key
    have hlen : ((List.range n).map X).length = n := by simp
    have hg : ∀ i, i < n → eAt ((List.range n).map X) i = X i := fun i hi => by
      unfold eAt; rw [List.getD_eq_getElem?_getD]; simp [hi]
    refine ⟨(List.range n).map X, some a, m, by rw [hlen], by rw [hlen]; omega, fun z hz => ?_, fun hn => ?_⟩
    · simp only [List.mem_map, List.mem_range] at hz
      obtain ⟨i, hi, rfl⟩ := hz
      exact (hX i (by omega)).2.2
    rw [hlen] at hn
    obtain ⟨b, off, spot⟩ := a
    have h0 := (hX 0 (by omega)).1
    have hspot : spot = none := by simpa [Addr.add] using World.cell?_spot h0
    subst hspot
    refine ⟨b, off, rfl, by simpa [Addr.add] using cell_lt h0, fun i hi => ?_⟩
    rw [hlen] at hi
    rw [hg i hi]
    obtain ⟨h1, h2, _, _⟩ := hX i (by omega)
    refine ⟨?_, ?_⟩
    · by_cases hi0 : i = 0
      · subst hi0; simpa [Addr.add] using h1
      · have h20 : i * 2 ≠ 0 := by omega
        simpa [Addr.add, h20] using h1
    · simpa [Addr.add, Nat.add_assoc] using h2
end Go.Proofs.Ytkiljnggphlomaa
