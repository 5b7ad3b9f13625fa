/- What the statements' own Rows returns of two lists of lists. No conditions. -/
import Derived.Test.YtbnannlpebggjaaDoorRap
import Derived.Test.YtbnannlpebggjaaDoorIna
namespace Go.Proofs.YtbnannlpebggjaaDoor
open Go.RowKit
theorem rows_ext_at {a b : List (List Int)} (hl : a.length = b.length) (h : ∀ i, i < a.length → rowAt a i = rowAt b i) : a = b := by
  apply List.ext_getElem hl
  intro i h1 h2
  have := h i h1
  unfold rowAt at this
  rw [List.getD_eq_getElem?_getD, List.getD_eq_getElem?_getD, List.getElem?_eq_getElem h1, List.getElem?_eq_getElem h2] at this
  simpa using this
set_option maxHeartbeats 400000 in
theorem rows_any (a b : List (List Int)) (F : Nat → Prop) (u v : Value) (w : World) (hu : RowsIn F w u a) (hv : RowsIn F w v b) :
    Calls Tryd.prog 11 #[u, v] w (Quiet w (.bool (decide (a = b)))) := by
  obtain ⟨A, ca, rfl, ha1, ha⟩ := hu
  obtain ⟨B, cb, rfl, hb1, hb⟩ := hv
  have HA := hid ha
  have HB := hid hb
  clear ha hb
  unfold maxLen at ha1 hb1
  by_cases hl : a.length = b.length
  · have HL := hid hl
    rw [← hl]
    have e1 : ((a.length : Int) != (a.length : Int)) = false := by simp
    clear hl
    go_enter Tryd.func11, Tryd.ntmps11
    go_wp2_with fail
    go_loopw [5] (fun i wr => ∃ j q : Nat, j ≤ a.length ∧ i = .int .i64 j ∧ wr = w.drewN q ∧ Hid (∀ k, k < j → rowAt a k = rowAt b k)) (fun i _ => a.length - (intOf i).toNat)
    case atStart => exact ⟨0, 0, Nat.zero_le _, rfl, rfl, fun k hk => by omega⟩
    case round =>
      obtain ⟨j, q, hj, rfl, hq, hold⟩ := hrel
      have HQ := hid hq
      by_cases hlt : j < a.length
      · obtain ⟨b1, o1, rfl, _, hc1⟩ := HA.out (by omega)
        obtain ⟨b2, o2, rfl, _, hc2⟩ := HB.out (by have := HL.out; omega)
        obtain ⟨r1, c1, i1'⟩ := hc1 j hlt
        obtain ⟨r2, c2, i2'⟩ := hc2 j (by rw [← HL.out]; exact hlt)
        have I1 : Hid (IntsIn .i64 F wr r1 (rowAt a j)) := by have := i1'.keep (w' := w.drewN q) (fun _ _ => rfl); rw [← hq] at this; exact this
        have I2 : Hid (IntsIn .i64 F wr r2 (rowAt b j)) := by have := i2'.keep (w' := w.drewN q) (fun _ _ => rfl); rw [← hq] at this; exact this
        have c1' : wr.cell? ⟨b1, o1 + j, none⟩ = some r1 := by rw [hq]; exact c1
        have c2' : wr.cell? ⟨b2, o2 + j, none⟩ = some r2 := by rw [hq]; exact c2
        clear hc1 hc2 i1' i2' c1 c2 hq
        have i1 : (j : Int) < (a.length : Int) := by omega
        go_upto_region 6 with fail
        go_quiet ((go_at_call 10; exact Calls.quiet_of (ints_any (rowAt a j) (rowAt b j) F _ _ _ (I1.out.keep fun _ _ => rfl) (I2.out.keep fun _ _ => rfl))))
        by_cases hxy : rowAt a j = rowAt b j
        · have HE := hid hxy
          have z1 : decide (rowAt a j = rowAt b j) = true := by simp [hxy]
          rw [z1]
          clear hxy z1
          go_wp2_with fail
          go_roundw
          case rel => exact ⟨j + 1, q + nq, by omega, by go_num, by rw [HQ.out]; simp only [World.drewN_drewN], fun k hk => by
            by_cases hkj : k = j
            · subst hkj; exact HE.out
            · exact hold.out k (by omega)⟩
          case measure => simp [intOf]; omega
        · have z1 : decide (rowAt a j = rowAt b j) = false := by simp [hxy]
          have D : Hid (decide (a = b) = false) := by
            show decide (a = b) = false
            simp only [decide_eq_false_iff_not]
            intro h; apply hxy; rw [h]
          rw [z1]
          clear hxy z1
          go_wp2_with fail
          go_ret
          exact ⟨by rw [D.out]; rfl, q + nq, by rw [HQ.out]; simp only [World.drewN_drewN]⟩
      · have D : Hid (decide (a = b) = true) := by
          show decide (a = b) = true
          simp only [decide_eq_true_eq]
          exact rows_ext_at HL.out fun i hi => hold.out i (by omega)
        clear hq
        go_wp2_with fail
        go_ret
        exact ⟨by rw [D.out]; rfl, q, HQ.out⟩
  · have D : Hid (decide (a = b) = false) := by
      show decide (a = b) = false
      simp only [decide_eq_false_iff_not]
      intro h; exact hl (by rw [h])
    have e1 : ((a.length : Int) != (b.length : Int)) = true := by simp; omega
    clear hl
    go_enter Tryd.func11, Tryd.ntmps11
    go_wp2_with fail
    go_ret
    exact ⟨by rw [D.out]; rfl, 0, rfl⟩
end Go.Proofs.YtbnannlpebggjaaDoor
