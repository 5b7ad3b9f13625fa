/- Slices of slices of integers, and machines, that read as plain lists. No conditions. -/
import Derived.Test.YtpljcpeofnobbaaDoorMach
import Derived.Deep.Matrix
import Derived.Lib.SmallJoins
namespace Go.Proofs.YtpljcpeofnobbaaDoor
open Go.RowKit Go.ChangeShapes Go.Deep Go.Joins
def RowsIn (F : Nat → Prop) (w : World) (v : Value) (ll : List (List Int)) : Prop :=
  ∃ A c, v = .slice A ll.length c ∧ (ll.length ≤ c ∧ c ≤ maxLen) ∧
    (0 < ll.length → ∃ b off, A = some ⟨b, off, none⟩ ∧ F b ∧ ∀ i, i < ll.length → ∃ r, w.cell? ⟨b, off + i, none⟩ = some r ∧ IntsIn .i64 F w r (rowAt ll i))
def MachIn (F : Nat → Prop) (w : World) (v : Value) (m : MachD) : Prop := ∃ o n, v = .agg #[o, n] ∧ RowsIn F w o m.out ∧ RowsIn F w n m.next
section
variable {F F' : Nat → Prop} {w w' : World} {v : Value} {ll : List (List Int)}
theorem RowsIn.nil_ : RowsIn F w (.slice none 0 0) [] := ⟨none, 0, rfl, by simp, by simp⟩
theorem RowsIn.keep (h : RowsIn F w v ll) (hs : Same F w w') : RowsIn F w' v ll := by
  obtain ⟨A, c, rfl, h1, h3⟩ := h
  refine ⟨A, c, rfl, h1, fun hn => ?_⟩
  obtain ⟨b, off, rfl, hF, hc⟩ := h3 hn
  refine ⟨b, off, rfl, hF, fun i hi => ?_⟩
  obtain ⟨r, hr, hi⟩ := hc i hi
  exact ⟨r, (hs.cell (p := ⟨b, off + i, none⟩) hF).trans hr, hi.keep hs⟩
theorem RowsIn.more (h : RowsIn F w v ll) (hF : ∀ b, F b → F' b) : RowsIn F' w v ll := by
  obtain ⟨A, c, rfl, h1, h3⟩ := h
  refine ⟨A, c, rfl, h1, fun hn => ?_⟩
  obtain ⟨b, off, rfl, hFb, hc⟩ := h3 hn
  refine ⟨b, off, rfl, hF _ hFb, fun i hi => ?_⟩
  obtain ⟨r, hr, hi⟩ := hc i hi
  exact ⟨r, hr, hi.more hF⟩
theorem MachIn.keep {m : MachD} (h : MachIn F w v m) (hs : Same F w w') : MachIn F w' v m := by
  obtain ⟨o, n, rfl, h1, h2⟩ := h
  exact ⟨o, n, rfl, h1.keep hs, h2.keep hs⟩
theorem MachIn.more {m : MachD} (h : MachIn F w v m) (hF : ∀ b, F b → F' b) : MachIn F' w v m := by
  obtain ⟨o, n, rfl, h1, h2⟩ := h
  exact ⟨o, n, rfl, h1.more hF, h2.more hF⟩
end
theorem ints_of_row {w : World} {k : IntKind} {Z : List Int} {A : Option Addr} {L C : Nat} (hL : L ≤ C) (hC : C ≤ maxLen) (hZ : Z.length = C) (hw : ∀ n ∈ Z, (Lit.int k n).wf = true) (hn : A = none → C = 0)
    (hc : ∀ a', A = some a' → ∀ c, c < C → w.cell? (a'.add c) = some (.int k (Z.getD c 0))) : IntsIn k (fun b => b < w.heap.size) w (.slice A L C) (Z.take L) := by
  have hlen : (Z.take L).length = L := by rw [List.length_take]; omega
  refine ⟨A, C, by rw [hlen], by rw [hlen]; omega, fun z hzm => hw z (List.mem_of_mem_take hzm), fun hn' => ?_⟩
  rw [hlen] at hn'
  cases A with
  | none => have := hn rfl; omega
  | some x =>
    obtain ⟨b, off, spot⟩ := x
    have h0 := hc _ rfl 0 (by omega)
    have hspot : spot = none := by simpa [Addr.add] using World.cell?_spot h0
    subst hspot
    refine ⟨b, off, rfl, by simpa [Addr.add] using cell_lt h0, fun i hi => ?_⟩
    rw [hlen] at hi
    have := hc _ rfl i (by omega)
    rw [List.getD_eq_getElem?_getD, List.getElem?_take_of_lt hi, ← List.getD_eq_getElem?_getD]
    by_cases hi0 : i = 0
    · subst hi0; simpa [Addr.add] using this
    · simpa [Addr.add, hi0] using this
theorem rows_of_trod {P : Program} {H : Type} {enc : TypeId × Value → H} {W : World} {t e q : TypeId} {fuel : Nat} {v : Value} {x : DataW H × List MemPlace} (ht : P.underlying t = some (.slice e)) (he : P.underlying e = some (.slice q)) (hq : P.underlying q = some (.int .i64)) (ce : P.cellsOf e = 1) (cq : P.cellsOf q = 1)
    (h : DataW.trod enc P W 0 (fun _ => true) true fuel t [v] = some x) : ∃ ll, RowsIn (fun b => b < W.heap.size) W v ll := by
  rcases open_int_rows ht he hq ce cq h with ⟨hcs, _⟩ | ⟨a, len, cap, A, L, C, Z, hcs, _, hl, hm, _, hx⟩
  · simp at hcs; subst hcs; exact ⟨[], RowsIn.nil_⟩
  · simp at hcs; subst hcs
    have hlen : ((List.range len).map fun r => (Z r).take (L r)).length = len := by simp
    refine ⟨(List.range len).map fun r => (Z r).take (L r), some a, cap, by rw [hlen], by rw [hlen]; omega, fun hn => ?_⟩
    rw [hlen] at hn
    obtain ⟨b, off, spot⟩ := a
    have h0 := (hx 0 (by omega)).1
    have hspot : spot = none := by simpa [Addr.add] using World.cell?_spot h0
    subst hspot
    refine ⟨b, off, rfl, by simpa [Addr.add] using cell_lt h0, fun i hi => ?_⟩
    rw [hlen] at hi
    obtain ⟨h1, h2, h3, h4, h5, h6, h7⟩ := hx i (by omega)
    refine ⟨.slice (A i) (L i) (C i), ?_, ?_⟩
    rotate_left
    · have e1 : rowAt ((List.range len).map fun r => (Z r).take (L r)) i = (Z i).take (L i) := by
        unfold rowAt; rw [List.getD_eq_getElem?_getD]; simp [hi]
      rw [e1]
      exact ints_of_row h2 h3 h4 h5 h6 (fun a' ha' c hc => (h7 a' ha').2 c hc)
    · by_cases hi0 : i = 0
      · subst hi0; simpa [Addr.add] using h1
      · simpa [Addr.add, hi0] using h1
theorem rows_of_Trod {P : Program} {H : Type} {enc : TypeId × Value → H} {W : World} {t e q : TypeId} {v : Value} {d : DataW H} {p : List MemPlace} (ht : P.underlying t = some (.slice e)) (he : P.underlying e = some (.slice q)) (hq : P.underlying q = some (.int .i64)) (ce : P.cellsOf e = 1) (cq : P.cellsOf q = 1)
    (hv : ∃ A n c, v = .slice A n c) (h : DataW.Trod enc P W 0 (fun _ => true) true t v d p) : ∃ ll, RowsIn (fun b => b < W.heap.size) W v ll := by
  obtain ⟨A, n, c, rfl⟩ := hv
  obtain ⟨fuel, hf⟩ := h
  simp only [Value.cells] at hf
  exact rows_of_trod ht he hq ce cq hf
theorem mach_of_Trod {P : Program} {H : Type} {enc : TypeId × Value → H} {W : World} {r : Reach} {b0 : Nat} {t e q z : TypeId} {f0 f1 : Field} {v : Value} {d : DataW H} {p : List MemPlace} (hs : P.underlying z = some (.struct #[f0, f1])) (hone : oneCellFields P #[f0, f1] = true) (hC : P.cellsOf z = 2) (hf0 : f0.type = t) (hf1 : f1.type = t)
    (ht : P.underlying t = some (.slice e)) (he : P.underlying e = some (.slice q)) (hq : P.underlying q = some (.int .i64)) (ce : P.cellsOf e = 1) (cq : P.cellsOf q = 1)
    (hv : Value.okWide P W r b0 z v) (h : DataW.Trod enc P W 0 (fun _ => true) true z v d p) : ∃ m, MachIn (fun b => b < W.heap.size) W v m := by
  obtain ⟨v0, v1, y0, y1, n, rfl, _, _, h0, h1⟩ := open_agg2 hs hone hC hv h
  rw [hf0] at h0
  rw [hf1] at h1
  obtain ⟨l0, r0⟩ := rows_of_trod ht he hq ce cq h0
  obtain ⟨l1, r1⟩ := rows_of_trod ht he hq ce cq h1
  exact ⟨⟨l0, l1⟩, v0, v1, rfl, r0, r1⟩
end Go.Proofs.YtpljcpeofnobbaaDoor
