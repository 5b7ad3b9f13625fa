/- What the statements' own Ints, lamp and lit return. No conditions. -/
import Derived.Test.YtkcggmhllijgcaaDoorRun
import Derived.Deep.QuietTactic
import Derived.BigQuiet
import Derived.Deep.CutRange
namespace Go.Proofs.YtkcggmhllijgcaaDoor
open Go.RowKit
theorem list_ext_at {a b : List Int} (hl : a.length = b.length) (h : ∀ i, i < a.length → at0 a i = at0 b i) : a = b := by
  apply List.ext_getElem hl
  intro i h1 h2
  have := h i h1
  unfold at0 at this
  rw [List.getD_eq_getElem?_getD, List.getD_eq_getElem?_getD, List.getElem?_eq_getElem h1, List.getElem?_eq_getElem h2] at this
  simpa using this
def Quiet (w : World) (v : Value) (e : Ending) (w' : World) : Prop := e = .returned v ∧ ∃ q, w' = w.drewN q
theorem Quiet.mk_ {w : World} {v v' : Value} {q : Nat} (h : v = v') : Quiet w v' (.returned v) (w.drewN q) := ⟨by rw [h], q, rfl⟩
set_option maxHeartbeats 400000 in
theorem ints_any (a b : List Int) (F : Nat → Prop) (u v : Value) (w : World) (hu : IntsIn .i64 F w u a) (hv : IntsIn .i64 F w v b) :
    Calls Tryd.prog 35 #[u, v] w (Quiet w (.bool (decide (a = b)))) := by
  obtain ⟨A, ca, rfl, ha1, _, ha⟩ := hu
  obtain ⟨B, cb, rfl, hb1, _, hb⟩ := hv
  have HA := hid ha
  have HB := hid hb
  clear ha hb
  unfold maxLen at ha1 hb1
  by_cases hl : a.length = b.length
  · have HL := hid hl
    rw [← hl]
    have e1 : ((a.length : Int) != (a.length : Int)) = false := by simp
    clear hl
    go_enter Tryd.func35, Tryd.ntmps35
    go_wp2_with fail
    go_loopw [5] (fun i wr => ∃ j q : Nat, j ≤ a.length ∧ i = .int .i64 j ∧ wr = w.drewN q ∧ Hid (∀ k, k < j → at0 a k = at0 b k)) (fun i _ => a.length - (intOf i).toNat)
    case atStart => exact ⟨0, 0, Nat.zero_le _, rfl, rfl, fun k hk => by omega⟩
    case round =>
      obtain ⟨j, q, hj, rfl, rfl, hold⟩ := hrel
      by_cases hlt : j < a.length
      · obtain ⟨b1, o1, rfl, _, hc1⟩ := HA.out (by omega)
        obtain ⟨b2, o2, rfl, _, hc2⟩ := HB.out (by have := HL.out; omega)
        have c1 : w.cell? ⟨b1, o1 + j, none⟩ = some (.int .i64 (at0 a j)) := hc1 j hlt
        have c2 : w.cell? ⟨b2, o2 + j, none⟩ = some (.int .i64 (at0 b j)) := hc2 j (by rw [← HL.out]; exact hlt)
        clear hc1 hc2
        have i1 : (j : Int) < (a.length : Int) := by omega
        obtain ⟨x, hx⟩ : ∃ x, x = at0 a j := ⟨_, rfl⟩
        obtain ⟨y, hy⟩ : ∃ y, y = at0 b j := ⟨_, rfl⟩
        rw [← hx] at c1
        rw [← hy] at c2
        have HX := hid hx
        have HY := hid hy
        clear hx hy
        by_cases hxy : x = y
        · have HE := hid hxy
          clear hxy
          have z1 : (x != y) = false := by have := HE.out; simp [this]
          go_upto_region 6 with fail
          go_quiet (fail)
          go_wp2_with fail
          go_roundw
          case rel => exact ⟨j + 1, _, by omega, by go_num, rfl, fun k hk => by
            by_cases hkj : k = j
            · subst hkj; rw [← HX.out, ← HY.out]; exact HE.out
            · exact hold.out k (by omega)⟩
          case measure => simp [intOf]; omega
        · have z1 : (x != y) = true := by simp [hxy]
          have D : Hid (decide (a = b) = false) := by
            show decide (a = b) = false
            simp only [decide_eq_false_iff_not]
            intro h; apply hxy; rw [HX.out, HY.out, h]
          clear hxy
          go_upto_region 6 with fail
          go_quiet (fail)
          go_wp2_with fail
          go_ret
          exact ⟨by rw [D.out]; rfl, _, by simp only [World.drewN_drewN]; rfl⟩
      · have D : Hid (decide (a = b) = true) := by
          show decide (a = b) = true
          simp only [decide_eq_true_eq]
          exact list_ext_at HL.out fun i hi => hold.out i (by omega)
        go_wp2_with fail
        go_ret
        exact ⟨by rw [D.out]; rfl, _, rfl⟩
  · have D : Hid (decide (a = b) = false) := by
      show decide (a = b) = false
      simp only [decide_eq_false_iff_not]
      intro h; exact hl (by rw [h])
    have e1 : ((a.length : Int) != (b.length : Int)) = true := by simp; omega
    clear hl
    go_enter Tryd.func35, Tryd.ntmps35
    go_wp2_with fail
    go_ret
    exact ⟨by rw [D.out]; rfl, 0, rfl⟩
theorem ints1 {F : Nat → Prop} {w : World} {b c : Nat} {x : Int} (hF : F b) (h0 : w.cell? ⟨b, 0, none⟩ = some (.int .i64 x)) (hx : (Lit.int .i64 x).wf = true) (hc : 1 ≤ c ∧ c ≤ maxLen := by simp [maxLen]) : IntsIn .i64 F w (.slice (some ⟨b, 0, none⟩) 1 c) [x] :=
  ⟨_, c, rfl, hc, by simpa using hx, fun _ => ⟨b, 0, rfl, hF, fun i hi => by
    match i, hi with
    | 0, _ => simpa using h0⟩⟩
theorem ints3 {F : Nat → Prop} {w : World} {b c : Nat} {x y z : Int} (hF : F b) (h0 : w.cell? ⟨b, 0, none⟩ = some (.int .i64 x)) (h1 : w.cell? ⟨b, 1, none⟩ = some (.int .i64 y)) (h2 : w.cell? ⟨b, 2, none⟩ = some (.int .i64 z)) (hx : ∀ n ∈ [x, y, z], (Lit.int .i64 n).wf = true) (hc : 3 ≤ c ∧ c ≤ maxLen := by simp [maxLen]) : IntsIn .i64 F w (.slice (some ⟨b, 0, none⟩) 3 c) [x, y, z] :=
  ⟨_, c, rfl, hc, hx, fun _ => ⟨b, 0, rfl, hF, fun i hi => by
    match i, hi with
    | 0, _ => simpa using h0
    | 1, _ => simpa using h1
    | 2, _ => simpa using h2⟩⟩
theorem rows2 {F : Nat → Prop} {w : World} {b c : Nat} {r0 r1 : Value} {x y : List Int} (hF : F b) (h0 : w.cell? ⟨b, 0, none⟩ = some r0) (h1 : w.cell? ⟨b, 1, none⟩ = some r1) (i0 : IntsIn .i64 F w r0 x) (i1 : IntsIn .i64 F w r1 y) (hc : 2 ≤ c ∧ c ≤ maxLen := by simp [maxLen]) : RowsIn F w (.slice (some ⟨b, 0, none⟩) 2 c) [x, y] :=
  ⟨_, c, rfl, hc, fun _ => ⟨b, 0, rfl, hF, fun i hi => by
    match i, hi with
    | 0, _ => exact ⟨r0, by simpa using h0, i0⟩
    | 1, _ => exact ⟨r1, by simpa using h1, i1⟩⟩⟩
def lampD : MachD := ⟨[[1], [0]], [[1], [0]]⟩
set_option maxHeartbeats 400000 in
theorem lamp_any (w : World) : Calls Tryd.prog 34 #[] w fun e w' => ∃ v, e = .returned v ∧ MachIn (Fresh w w') w' v lampD ∧ Below w.heap.size w w' := by
  go_enter Tryd.func34, Tryd.ntmps34
  go_wp2_with fail
  refine bodyPost_ret (v := .agg #[.slice (some ⟨w.heap.size + 1 + 1 + 1, 0, none⟩) 2 2, .slice (some ⟨w.heap.size + 1 + 1 + 1 + 1 + 1 + 1, 0, none⟩) 2 2]) (by simp [results, Tryd.results34, go_sem]) rfl ⟨_, rfl, ⟨_, _, rfl, rows2 ?_ (r0 := .slice (some ⟨w.heap.size + 1, 0, none⟩) 1 1) (r1 := .slice (some ⟨w.heap.size + 1 + 1, 0, none⟩) 1 1) ?_ ?_ (ints1 ?_ ?_ (by decide)) (ints1 ?_ ?_ (by decide)), rows2 ?_ (r0 := .slice (some ⟨w.heap.size + 1 + 1 + 1 + 1, 0, none⟩) 1 1) (r1 := .slice (some ⟨w.heap.size + 1 + 1 + 1 + 1 + 1, 0, none⟩) 1 1) ?_ ?_ (ints1 ?_ ?_ (by decide)) (ints1 ?_ ?_ (by decide))⟩, ?_⟩
  all_goals first
    | (simp only [Fresh, World.size_alloc]; omega)
    | ((repeat (refine Below.alloc ?_ (by first | exact Nat.le_refl _ | (simp only [World.size_alloc]; omega)) _)); exact Below.refl _ _)
    | (simp [go_sem]; done)
theorem lamp_good : Good lampD := chk_good (by decide)
set_option maxHeartbeats 400000 in
theorem lit_any (w : World) : Calls Tryd.prog 12 #[] w fun e w' => e = .returned (.bool true) ∧ Below w.heap.size w w' := by
  go_enter Tryd.func12, Tryd.ntmps12
  go_wp2_with fail
  refine (lamp_any _).mono ?_
  rintro e w1 ⟨v, rfl, hm, hb1⟩
  have M := hid hm
  have hs1 := hb1.size
  clear hm
  go_wp2_with fail
  refine (run_any lampD 0 [0, 0, 0] (fun b => b < w1.heap.size + 1) _ _ _ (fun b hb => by simpa using hb) ((M.out.more fun b hb => by have := hb.2; omega).keep (F := fun b => b < w1.heap.size) (fun b hb => Below.heap_alloc _ _ _ hb) |>.more fun b hb => by omega) (ints3 (by simp) (by simp) (by simp) (by simp) (by decide)) (by decide)).mono ?_
  rintro e w2 ⟨_, hr, hb2⟩
  obtain ⟨u, rfl, hi⟩ := hr (by decide)
  have HI := hid hi
  clear hr hi
  have g : goes lampD 0 [0, 0, 0] = 1 := by decide
  have hs2 := hb2.size
  simp only [World.size_alloc] at hs2
  have hbb : Below w.heap.size w w2 := (hb1.alloc hs1 _).trans (hb2.mono (by simp; omega))
  go_wp2_with fail
  refine (ints_any [1, 0, 1] [1, 0, 1] (fun b => b < w2.heap.size + 1) _ _ _ ?_ (ints3 (by simp) (by simp) (by simp) (by simp) (by decide))).mono ?_
  · exact (HI.out.keep (fun b hb => Below.heap_alloc _ _ _ hb.2)).more fun b hb => by have := hb.2; omega
  rintro e w3 ⟨rfl, q, rfl⟩
  go_wp2_with fail
  go_ret
  exact ⟨rfl, below_drewN (hbb.alloc (by omega) _) _⟩
end Go.Proofs.YtkcggmhllijgcaaDoor
