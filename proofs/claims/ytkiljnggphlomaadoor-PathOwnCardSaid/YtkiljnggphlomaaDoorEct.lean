/- What slices.Index and slices.Contains return at edges. No conditions. -/
import Derived.Test.YtkiljnggphlomaaDoorEds
import Derived.Test.YtkiljnggphlomaaDoorEix
namespace Go.Proofs.YtkiljnggphlomaaDoor
open Go.RowKit Go.Deep
set_option maxRecDepth 100000 in
set_option maxHeartbeats 1000000 in
theorem eindex_any (e0 : Int × Int) (l : EdgeL) (F : Nat → Prop) (v : Value) (w : World) (hF : ∀ b, F b → b < w.heap.size) (hv : EdgesIn F w v l) :
    Calls Tryd.prog 69 #[v, .agg #[.int .i64 e0.1, .int .i64 e0.2]] w fun e w' => e = .returned (.int .i64 (eIx (fun x => decide (x = e0)) l)) ∧ Below w.heap.size w w' := by
  have HF := hid hF
  obtain ⟨A, c, rfl, h1, _, h3⟩ := hv
  have H3 := hid h3
  obtain ⟨a, b⟩ := e0
  unfold maxLen at h1
  clear hF h3
  have BX : Hid (Below w.heap.size w (w.alloc (.cells #[.int .i64 a, .int .i64 b] 32))) := (Below.refl _ _).alloc (Nat.le_refl _) _
  have X := Has.new w (.cells #[.int .i64 a, .int .i64 b] 32)
  have x0 := (Has.cell X 0).trans rfl
  have x1 := (Has.cell X 1).trans rfl
  go_enter Tryd.func69, Tryd.ntmps69
  go_wp2_with fail
  obtain ⟨w1, hw1⟩ : ∃ w1, w1 = w.alloc (.cells #[.int .i64 a, .int .i64 b] 32) := ⟨_, rfl⟩
  have S1 : w.heap.size < w1.heap.size := by rw [hw1]; simp
  rw [← hw1] at BX x0 x1 ⊢
  clear hw1 X
  go_loopw [5, 8] (fun _ iv wr => ∃ j q : Nat, j ≤ l.length ∧ iv = .int .i64 j ∧ wr = w1.drewN q ∧ Hid (∀ k, k < j → decide (eAt l k = (a, b)) = false)) (fun _ iv _ => l.length - (intOf iv).toNat)
  case atStart => exact ⟨0, 0, Nat.zero_le _, rfl, rfl, fun k hk => by omega⟩
  case round =>
    obtain ⟨j, q, hj, rfl, rfl, hold⟩ := hrel
    by_cases hlt : j < l.length
    · obtain ⟨g, o, rfl, hb, hc⟩ := H3.out (by omega)
      have lb := HF.out g hb
      have c1 := (BX.out.cell (p := ⟨g, o + j * 2, none⟩) lb).trans (hc j hlt).1
      have c2 := (BX.out.cell (p := ⟨g, o + j * 2 + 1, none⟩) lb).trans (hc j hlt).2
      have i1 : (j : Int) < (l.length : Int) := by omega
      clear hc
      generalize hx : eAt l j = ee at c1 c2
      obtain ⟨x, y⟩ := ee
      have HX := hid hx
      have hq := edge_eql a b x y
      have hg := fun (op : BinOp) (s t : Operand) (w : World) => run_eqGuard_agg (P := Tryd.prog) w op 32 s t #[.int .i64 a, .int .i64 b] #[.int .i64 x, .int .i64 y] (by kernel_rfl)
      clear hx
      by_cases hp : (x, y) = (a, b)
      · have E : Hid (eIx (fun x => decide (x = (a, b))) l = j) := eIx_hit hlt hold.out (by rw [HX.out]; simpa using hp)
        have z1 : (a == x && b == y) = true := by simp at hp; simp [hp]
        clear hp
        go_upto_region 4 with fail
        go_quiet (fail)
        go_wp2_with fail
        go_ret
        exact ⟨by rw [E.out]; rfl, by first | exact below_drewN BX.out _ | (simp only [World.drewN_drewN]; exact below_drewN BX.out _)⟩
      · have N : Hid (∀ k, k < j + 1 → decide (eAt l k = (a, b)) = false) := fun k hk => by
          by_cases hkj : k = j
          · subst hkj; rw [HX.out]; simpa using hp
          · exact hold.out k (by omega)
        have z1 : (a == x && b == y) = false := by
          simp at hp ⊢
          intro h1 h2
          exact hp h1.symm h2.symm
        clear hp
        go_upto_region 4 with fail
        go_quiet (fail)
        go_wp2_with fail
        go_roundw
        case rel => exact ⟨j + 1, _, by omega, by go_num, rfl, N⟩
        case measure => simp [intOf]; omega
    · have E : Hid (eIx (fun x => decide (x = (a, b))) l = -1) := eIx_none fun k hk => hold.out k (by omega)
      clear x0 x1
      go_wp2_with fail
      go_ret
      exact ⟨by rw [E.out]; rfl, below_drewN BX.out _⟩
theorem eIx_mem (e0 : Int × Int) (l : EdgeL) : decide (0 ≤ eIx (fun x => decide (x = e0)) l) = decide (e0 ∈ l) := by
  unfold eIx
  cases h : l.findIdx? (fun x => decide (x = e0)) with
  | none =>
    rw [List.findIdx?_eq_none_iff] at h
    have : e0 ∉ l := fun hm => by have := h e0 hm; simp at this
    simp [this]
  | some i =>
    obtain ⟨h1, h2, _⟩ := List.findIdx?_eq_some_iff_getElem.1 h
    have : e0 ∈ l := by have h3 : l[i] = e0 := by simpa using h2
                        rw [← h3]; exact List.getElem_mem _
    simp [this]
set_option maxRecDepth 100000 in
set_option maxHeartbeats 1000000 in
theorem econt_any (e0 : Int × Int) (l : EdgeL) (F : Nat → Prop) (v : Value) (w : World) (hF : ∀ b, F b → b < w.heap.size) (hv : EdgesIn F w v l) :
    Calls Tryd.prog 38 #[v, .agg #[.int .i64 e0.1, .int .i64 e0.2]] w fun e w' => e = .returned (.bool (decide (e0 ∈ l))) ∧ Below w.heap.size w w' := by
  have H := hid hv
  have HF := hid hF
  obtain ⟨A, c, rfl, h1, _, h3⟩ := hv
  unfold maxLen at h1
  obtain ⟨a, b⟩ := e0
  have X := Has.new w (.cells #[.int .i64 a, .int .i64 b] 32)
  have x0 := (Has.cell X 0).trans rfl
  have x1 := (Has.cell X 1).trans rfl
  have BX : Hid (Below w.heap.size w (w.alloc (.cells #[.int .i64 a, .int .i64 b] 32))) := (Below.refl _ _).alloc (Nat.le_refl _) _
  clear h3 hF X
  go_enter Tryd.func38, Tryd.ntmps38
  go_wp2_with fail
  refine (eindex_any (a, b) l F _ _ (fun b hb => by have := HF.out b hb; simp; omega) (H.out.keep (Same.of_below BX.out HF.out))).mono ?_
  rintro e w2 ⟨rfl, hb2⟩
  have B2 := hid (BX.out.trans (hb2.mono BX.out.size))
  have M := hid (eIx_mem (a, b) l)
  clear hb2 x0 x1
  go_wp2_with fail
  go_ret
  exact ⟨by rw [← M.out]; rfl, B2.out⟩
end Go.Proofs.YtkiljnggphlomaaDoor
