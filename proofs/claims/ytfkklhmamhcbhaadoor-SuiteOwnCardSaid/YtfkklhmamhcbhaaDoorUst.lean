/- What the statements' own Sets returns of two lists. No conditions. -/
import Derived.Test.YtfkklhmamhcbhaaDoorGen
namespace Go.Proofs.YtfkklhmamhcbhaaDoor
open Go.RowKit
set_option maxHeartbeats 400000 in
theorem sets_any (a b : List Int) (F : Nat → Prop) (u v : Value) (w : World) (hu : IntsIn .u32 F w u a) (hv : IntsIn .u32 F w v b) :
    Calls Tryd.prog 10 #[u, v] w (Quiet w (.bool (decide (a = b)))) := by
  obtain ⟨A, ca, rfl, ha1, _, ha⟩ := hu
  obtain ⟨B, cb, rfl, hb1, _, hb⟩ := hv
  have HA := hid ha
  have HB := hid hb
  clear ha hb
  unfold maxLen at ha1 hb1
  by_cases hl : a.length = b.length
  · have HL := hid hl
    rw [← hl]
    have e1 : ((a.length : Int) != (a.length : Int)) = false := by simp
    clear hl
    go_enter Tryd.func10, Tryd.ntmps10
    go_wp2_with fail
    go_loopw [5] (fun i wr => ∃ j q : Nat, j ≤ a.length ∧ i = .int .i64 j ∧ wr = w.drewN q ∧ Hid (∀ k, k < j → at0 a k = at0 b k)) (fun i _ => a.length - (intOf i).toNat)
    case atStart => exact ⟨0, 0, Nat.zero_le _, rfl, rfl, fun k hk => by omega⟩
    case round =>
      obtain ⟨j, q, hj, rfl, rfl, hold⟩ := hrel
      by_cases hlt : j < a.length
      · obtain ⟨b1, o1, rfl, _, hc1⟩ := HA.out (by omega)
        obtain ⟨b2, o2, rfl, _, hc2⟩ := HB.out (by have := HL.out; omega)
        have c1 : w.cell? ⟨b1, o1 + j, none⟩ = some (.int .u32 (at0 a j)) := hc1 j hlt
        have c2 : w.cell? ⟨b2, o2 + j, none⟩ = some (.int .u32 (at0 b j)) := hc2 j (by rw [← HL.out]; exact hlt)
        clear hc1 hc2
        have i1 : (j : Int) < (a.length : Int) := by omega
        obtain ⟨x, hx⟩ : ∃ x, x = at0 a j := ⟨_, rfl⟩
        obtain ⟨y, hy⟩ : ∃ y, y = at0 b j := ⟨_, rfl⟩
        rw [← hx] at c1
        rw [← hy] at c2
        have HX := hid hx
        have HY := hid hy
        clear hx hy
        by_cases hxy : x = y
        · have HE := hid hxy
          clear hxy
          have z1 : (x != y) = false := by have := HE.out; simp [this]
          go_upto_region 6 with fail
          go_quiet (fail)
          go_wp2_with fail
          go_roundw
          case rel => exact ⟨j + 1, _, by omega, by go_num, rfl, fun k hk => by
            by_cases hkj : k = j
            · subst hkj; rw [← HX.out, ← HY.out]; exact HE.out
            · exact hold.out k (by omega)⟩
          case measure => simp [intOf]; omega
        · have z1 : (x != y) = true := by simp [hxy]
          have D : Hid (decide (a = b) = false) := by
            show decide (a = b) = false
            simp only [decide_eq_false_iff_not]
            intro h; apply hxy; rw [HX.out, HY.out, h]
          clear hxy
          go_upto_region 6 with fail
          go_quiet (fail)
          go_wp2_with fail
          go_ret
          exact ⟨by rw [D.out]; rfl, _, by simp only [World.drewN_drewN]; rfl⟩
      · have D : Hid (decide (a = b) = true) := by
          show decide (a = b) = true
          simp only [decide_eq_true_eq]
          exact list_ext_at HL.out fun i hi => hold.out i (by omega)
        go_wp2_with fail
        go_ret
        exact ⟨by rw [D.out]; rfl, _, rfl⟩
  · have D : Hid (decide (a = b) = false) := by
      show decide (a = b) = false
      simp only [decide_eq_false_iff_not]
      intro h; exact hl (by rw [h])
    have e1 : ((a.length : Int) != (b.length : Int)) = true := by simp; omega
    clear hl
    go_enter Tryd.func10, Tryd.ntmps10
    go_wp2_with fail
    go_ret
    exact ⟨by rw [D.out]; rfl, 0, rfl⟩
end Go.Proofs.YtfkklhmamhcbhaaDoor
