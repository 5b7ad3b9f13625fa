/- What rose.Less makes of a tape: with one place set (Less$2) and with one place cut (slices.Delete of an own row). Conditions: the place is in it. -/
import Derived.Test.YtopehfmppfibhaaDoorBas
import Derived.Test.YtopehfmppfibhaaDoorGmd
import Derived.Laws.OwnMore
namespace Go.Proofs.YtopehfmppfibhaaDoor
open Go.RowKit
theorem below_setCells {B b : Nat} (hB : B ≤ b) : ∀ (vs : List Value) (o : Nat) {w w' : World}, Below B w w' → Below B w (w'.setCells b o vs)
  | [], _, _, _, h => h
  | v :: r, o, _, _, h => below_setCells hB r (o + 1) (h.setCell (p := ⟨b, o, none⟩) hB v)
theorem own_setIR {w : World} {B : Nat} {e : TypeId} {g c n j : Nat} {ys : List Int} (h : w.ownsRow B e 1 (.slice (some ⟨g, 0, none⟩) n c) n (ys.map (Value.int .i64))) (u : Int) :
    (w.setCell ⟨g, j, none⟩ (.int .i64 u)).ownsRow B e 1 (.slice (some ⟨g, 0, none⟩) n c) n ((ys.set j u).map (Value.int .i64)) := by
  have := (h.stored j (.int .i64 u)).1
  rwa [← List.map_set] at this
theorem own_froz {w : World} {B g n c size : Nat} {e : TypeId} {xs : List Value} (h : w.ownsRow B e size (.slice (some ⟨g, 0, none⟩) n c) n xs) (j : Nat) : w.frozen? ⟨g, j, none⟩ = false := by
  rcases h.2 with ⟨h0, _⟩ | ⟨g2, cap2, cur, h0, _, hh, _⟩
  · cases h0
  · simp only [Value.slice.injEq, Option.some.injEq, Addr.mk.injEq, and_true, true_and] at h0
    obtain ⟨rfl, rfl⟩ := h0
    exact Has.froz hh _
def DelPost (g B : Nat) (l : List Int) (i : Nat) (w : World) (e : Ending) (w' : World) : Prop := ∃ v, e = .returned v ∧ IntsIn .i64 (fun b => b = g) w' v (l.take i ++ l.drop (i + 1)) ∧ Below B w w'
theorem del_any {w : World} {B g c i : Nat} {l : List Int} (h : w.ownsRow B 3 1 (.slice (some ⟨g, 0, none⟩) l.length c) l.length (l.map (Value.int .i64))) (hi : i < l.length) (hw : ∀ z ∈ l, (Lit.int .i64 z).wf = true) :
    Calls Tryd.prog 30 #[.slice (some ⟨g, 0, none⟩) l.length c, .int .i64 i, .int .i64 ((i : Int) + 1)] w (DelPost g B l i w) := by
  obtain ⟨g', cap, e, hb, hg, hc1, hc2, hcell⟩ := own_open h (by omega)
  simp only [Value.slice.injEq, Option.some.injEq, Addr.mk.injEq, and_true, true_and] at e
  obtain ⟨rfl, rfl⟩ := e
  have hc : ∀ j, j < l.length → w.cell? ⟨g, 0 + j, none⟩ = some (.int .i64 (l.getD j 0)) := fun j hj => by
    rw [Nat.zero_add, hcell j (by omega), List.getElem?_map, List.getElem?_eq_getElem hj, List.getD_eq_getElem?_getD, List.getElem?_eq_getElem hj]; rfl
  have hf : ∀ j, j < l.length → w.frozen? ⟨g, 0 + j, none⟩ = false := fun j _ => own_froz h _
  have hd := delete_int g 0 l.length c i (i + 1) l w (Nat.le_refl _) hc1 (by unfold maxLen at hc2; omega) (by omega) (by omega) hc hf
  have e1 : (((i + 1 : Nat) : Int)) = (i : Int) + 1 := by omega
  rw [e1] at hd
  refine hd.mono ?_
  rintro e w' ⟨rfl, q, rfl⟩
  have e2 : i + 1 - i = 1 := by omega
  rw [e2, List.take_length]
  have ll : (l.take i ++ l.drop (i + 1)).length = l.length - 1 := by simp; omega
  refine ⟨_, rfl, ⟨_, c, by rw [ll], by rw [ll]; omega, fun z hz => ?_, fun _ => ⟨g, 0, rfl, rfl, fun j hj => ?_⟩⟩, below_setCells hb _ _ (below_drewN (Below.refl _ _) _)⟩
  · rcases List.mem_append.1 hz with h | h
    · exact hw z (List.mem_of_mem_take h)
    · exact hw z (List.mem_of_mem_drop h)
  · have h1 := World.cell?_setCells_in g ((l.take i ++ l.drop (i + 1) ++ List.replicate 1 0).map (Value.int .i64)) 0 (w.drewN q) (fun k hk => by
      have hk' : k < l.length := by simp at hk; omega
      have := hc k hk'
      show (w.cell? _).isSome = true
      rw [this]; rfl) j (by rw [List.length_map, List.length_append]; omega)
    rw [h1]
    congr 1
    rw [List.getElem_map, List.getElem_append_left hj, List.getD_eq_getElem?_getD, List.getElem?_eq_getElem hj]
    rfl
set_option maxRecDepth 100000 in
set_option maxHeartbeats 400000 in
theorem with_any (l : List Int) (F : Nat → Prop) (v : Value) (p i : Nat) (x : Int) (w : World) (hF : ∀ b, F b → b < w.heap.size) (hv : IntsIn .i64 F w v l) (hp : w.cell? ⟨p, 0, none⟩ = some v) (hi : i < l.length) (hz : l.length ≤ 1000000000) :
    Calls Tryd.prog 28 #[.int .i64 i, .int .i64 x, .pointer (some ⟨p, 0, none⟩)] w fun e w' => ∃ r, e = .returned r ∧ w'.ownsRow w.heap.size 3 1 r l.length ((l.set i x).map (Value.int .i64)) ∧ Below w.heap.size w w' := by
  have H := hid hv
  have HF := hid hF
  obtain ⟨A, c, rfl, _, _, _⟩ := hv
  clear hF
  go_enter Tryd.func28, Tryd.ntmps28
  go_wp2_with fail
  refine (clone_any l F _ w HF.out H.out (by omega)).mono ?_
  rintro e w1 ⟨r, rfl, o1, _, b1⟩
  obtain ⟨g, cg, rfl, hb, hg, hc1, hc2, hcell⟩ := own_open o1 (by omega)
  have B1 := hid b1
  have O1 := hid o1
  have q0 := hcell i (by omega)
  have q1 := own_froz o1 i
  rw [List.getElem?_map, List.getElem?_eq_getElem hi] at q0
  have i1 : (i : Int) < (l.length : Int) := by omega
  have HB := hid hb
  clear b1 o1 hcell hc2
  go_wp2_with fail
  go_ret
  exact ⟨_, rfl, own_setIR O1.out x, B1.out.setCell (p := ⟨g, i, none⟩) HB.out _⟩
end Go.Proofs.YtopehfmppfibhaaDoor
