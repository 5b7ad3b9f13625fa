/- What flow.Check returns. No conditions. -/
import Derived.Test.YtkiljnggphlomaaEdg
import Derived.Test.YtkiljnggphlomaaErv
import Derived.Lib.MinMax
namespace Go.Proofs.Ytkiljnggphlomaa
open Go.RowKit
def eBad (n : Int) (e : Int × Int) : Bool := decide (min e.1 e.2 < 0) || decide (n ≤ max e.1 e.2)
theorem edgesC_hit {n : Int} {l : EdgeL} {j : Nat} (hj : j < l.length) (h : eBad n (eAt l j) = true) : edgesC n l = 1 := by
  unfold edgesC
  rw [if_pos]
  rw [List.any_eq_true]
  exact ⟨eAt l j, eAt_mem hj, h⟩
theorem edgesC_none {n : Int} {l : EdgeL} (h : ∀ k, k < l.length → eBad n (eAt l k) = false) : edgesC n l = 0 := by
  unfold edgesC
  rw [if_neg]
  rw [Bool.not_eq_true, List.any_eq_false]
  intro e he
  obtain ⟨k, hk, rfl⟩ := List.getElem_of_mem he
  have := h k hk
  unfold eAt at this
  rw [List.getD_eq_getElem?_getD, List.getElem?_eq_getElem hk] at this
  simpa [eBad] using this
set_option maxHeartbeats 1000000 in
theorem fcheck_any (n : Int) (l : EdgeL) (F : Nat → Prop) (v : Value) (w : World) (hF : ∀ b, F b → b < w.heap.size) (hv : EdgesIn F w v l) :
    Calls Try.prog 13 #[.int .i64 n, v] w fun e w' => e = .returned (errV (flowC n l)) ∧ Below w.heap.size w w' := by
  have H := hid hv
  have HF := hid hF
  obtain ⟨A, c, rfl, h1, _, h3⟩ := hv
  have H3 := hid h3
  unfold maxLen at h1
  clear h3 hF
  by_cases h0 : n < 1 ∨ 12 < n
  · have E : flowC n l = 1 := by unfold flowC; rw [if_pos h0]
    rw [E]
    have HE := hid E
    clear E
    go_enter Try.func13, Try.ntmps13
    go_wp2_with fail
    all_goals first | (exfalso; omega) | skip
    all_goals go_ret
    all_goals exact ⟨rfl, Below.refl _ _⟩
  · by_cases h4 : 30 < l.length
    · have E : flowC n l = 4 := by unfold flowC; rw [if_neg h0, if_pos h4]
      rw [E]
      clear E
      have h5 : 1 ≤ n ∧ n ≤ 12 := by omega
      have d2 : decide (30 < l.length) = true := by simp; omega
      have d1 : decide ((30 : Int) < (l.length : Int)) = true := by simp; omega
      clear h4
      go_enter Try.func13, Try.ntmps13
      go_wp2_with fail
      all_goals first | (exfalso; omega) | skip
      all_goals go_ret
      all_goals exact ⟨rfl, Below.refl _ _⟩
    · have E : flowC n l = edgesC n l := by unfold flowC; rw [if_neg h0, if_neg h4]
      rw [E]
      clear E
      have h5 : 1 ≤ n ∧ n ≤ 12 := by omega
      have d2 : decide (30 < l.length) = false := by simp; omega
      have d1 : decide ((30 : Int) < (l.length : Int)) = false := by simp; omega
      clear h0 h4
      go_enter Try.func13, Try.ntmps13
      go_wp2_with fail
      all_goals first | (exfalso; omega) | skip
      go_loopw [20] (fun i wr => ∃ j : Nat, j ≤ l.length ∧ i = .int .i64 j ∧ Hid (∀ k, k < j → eBad n (eAt l k) = false) ∧ Hid (Below w.heap.size w wr)) (fun i _ => l.length - (intOf i).toNat)
      case atStart => exact ⟨0, Nat.zero_le _, rfl, fun k hk => by omega, Below.refl _ _⟩
      case round =>
        obtain ⟨j, hj, rfl, hold, hB⟩ := hrel
        by_cases hlt : j < l.length
        · obtain ⟨b, o, rfl, hb, hc⟩ := H3.out (by omega)
          have lb := HF.out b hb
          have c1 := (hB.out.cell (p := ⟨b, o + j * 2, none⟩) lb).trans (hc j hlt).1
          have c2 := (hB.out.cell (p := ⟨b, o + j * 2 + 1, none⟩) lb).trans (hc j hlt).2
          have i1 : (j : Int) < (l.length : Int) := by omega
          clear hc
          generalize hx : eAt l j = ee at c1 c2
          obtain ⟨x, y⟩ := ee
          have HX := hid hx
          have B2 := hid (hB.out.alloc hB.out.size (.cells #[.int .i64 x, .int .i64 y] 44))
          clear hx
          by_cases hbad : eBad n (x, y) = true
          · have R : Hid (edgesC n l = 1) := edgesC_hit hlt (by rw [HX.out]; exact hbad)
            have hb2 : min x y < 0 ∨ n ≤ max x y := by simpa [eBad] using hbad
            clear hbad
            go_wp2_with fail
            all_goals first | (exfalso; omega) | skip
            all_goals go_ret
            all_goals exact ⟨by rw [R.out]; rfl, B2.out⟩
          · have N : Hid (∀ k, k < j + 1 → eBad n (eAt l k) = false) := fun k hk => by
              by_cases hkj : k = j
              · subst hkj; rw [HX.out]; simpa using hbad
              · exact hold.out k (by omega)
            have hb2 : 0 ≤ min x y ∧ max x y < n := by
              have : eBad n (x, y) = false := by simpa using hbad
              simp [eBad] at this; omega
            clear hbad
            go_wp2_with fail
            all_goals first | (exfalso; omega) | skip
            go_roundw
            case rel => exact ⟨j + 1, by omega, by go_num, N, B2⟩
            case measure => simp [intOf]; omega
        · have R : Hid (edgesC n l = 0) := edgesC_none fun k hk => hold.out k (by omega)
          go_wp2_with fail
          go_ret
          exact ⟨by rw [R.out]; rfl, hB.out⟩
end Go.Proofs.Ytkiljnggphlomaa
