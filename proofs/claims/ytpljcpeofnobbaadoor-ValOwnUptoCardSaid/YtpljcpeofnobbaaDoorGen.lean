/- Plain words for the walks of a seat without machines: lists that read as slices, what reads only. No conditions. -/
import Derived.Test.YtpljcpeofnobbaaDoorRows
import Derived.Test.YtpljcpeofnobbaaDoorRap
import Derived.WalkLawsBesides
import Derived.Deep.QuietTactic
import Derived.BigQuiet
import Derived.Deep.CutRange
import Derived.Deep.DeepCutAuto
import Derived.LoopTactic
namespace Go.Proofs.YtpljcpeofnobbaaDoor
open Go.RowKit
theorem infoInt : (Tryd.prog.info? 3).map (fun i => (i.zero, i.size, i.bytes)) = some (some (.int .i64 0), 1, 8) := by kernel_rfl
theorem mem_at {l : List Int} {i : Nat} (hi : i < l.length) : at0 l i ∈ l := by
  unfold at0; rw [List.getD_eq_getElem?_getD, List.getElem?_eq_getElem hi]; exact List.getElem_mem _
theorem list_ext_at {a b : List Int} (hl : a.length = b.length) (h : ∀ i, i < a.length → at0 a i = at0 b i) : a = b := by
  apply List.ext_getElem hl
  intro i h1 h2
  have := h i h1
  unfold at0 at this
  rw [List.getD_eq_getElem?_getD, List.getD_eq_getElem?_getD, List.getElem?_eq_getElem h1, List.getElem?_eq_getElem h2] at this
  simpa using this
def Quiet (w : World) (v : Value) (e : Ending) (w' : World) : Prop := e = .returned v ∧ ∃ q, w' = w.drewN q
theorem Quiet.mk_ {w : World} {v v' : Value} {q : Nat} (h : v = v') : Quiet w v' (.returned v) (w.drewN q) := ⟨by rw [h], q, rfl⟩
theorem ints1 {F : Nat → Prop} {w : World} {b c : Nat} {x : Int} (hF : F b) (h0 : w.cell? ⟨b, 0, none⟩ = some (.int .i64 x)) (hx : (Lit.int .i64 x).wf = true) (hc : 1 ≤ c ∧ c ≤ maxLen := by simp [maxLen]) : IntsIn .i64 F w (.slice (some ⟨b, 0, none⟩) 1 c) [x] :=
  ⟨_, c, rfl, hc, by simpa using hx, fun _ => ⟨b, 0, rfl, hF, fun i hi => by
    match i, hi with
    | 0, _ => simpa using h0⟩⟩
theorem ints3 {F : Nat → Prop} {w : World} {b c : Nat} {x y z : Int} (hF : F b) (h0 : w.cell? ⟨b, 0, none⟩ = some (.int .i64 x)) (h1 : w.cell? ⟨b, 1, none⟩ = some (.int .i64 y)) (h2 : w.cell? ⟨b, 2, none⟩ = some (.int .i64 z)) (hx : ∀ n ∈ [x, y, z], (Lit.int .i64 n).wf = true) (hc : 3 ≤ c ∧ c ≤ maxLen := by simp [maxLen]) : IntsIn .i64 F w (.slice (some ⟨b, 0, none⟩) 3 c) [x, y, z] :=
  ⟨_, c, rfl, hc, hx, fun _ => ⟨b, 0, rfl, hF, fun i hi => by
    match i, hi with
    | 0, _ => simpa using h0
    | 1, _ => simpa using h1
    | 2, _ => simpa using h2⟩⟩
theorem rows2 {F : Nat → Prop} {w : World} {b c : Nat} {r0 r1 : Value} {x y : List Int} (hF : F b) (h0 : w.cell? ⟨b, 0, none⟩ = some r0) (h1 : w.cell? ⟨b, 1, none⟩ = some r1) (i0 : IntsIn .i64 F w r0 x) (i1 : IntsIn .i64 F w r1 y) (hc : 2 ≤ c ∧ c ≤ maxLen := by simp [maxLen]) : RowsIn F w (.slice (some ⟨b, 0, none⟩) 2 c) [x, y] :=
  ⟨_, c, rfl, hc, fun _ => ⟨b, 0, rfl, hF, fun i hi => by
    match i, hi with
    | 0, _ => exact ⟨r0, by simpa using h0, i0⟩
    | 1, _ => exact ⟨r1, by simpa using h1, i1⟩⟩⟩
def Fresh (w w' : World) : Nat → Prop := fun b => w.heap.size ≤ b ∧ b < w'.heap.size
theorem box_below {w w1 : World} {o : Obj} (hb : Below (w.alloc o).heap.size (w.alloc o) w1) : Below w.heap.size w w1 ∧ w1.heap[w.heap.size]? = some o ∧ w.heap.size < w1.heap.size := by
  have hs := hb.size
  simp only [World.size_alloc] at hs
  exact ⟨((Below.refl _ _).alloc (Nat.le_refl _) _).trans (hb.mono (by simp)), Has.below (Has.new w o) hb (by simp), by omega⟩
end Go.Proofs.YtpljcpeofnobbaaDoor
