/- What the reference's In returns. No conditions. -/
import Derived.Test.YtmhledlcfbjfkaaGen
import Derived.Test.YtmhledlcfbjfkaaIxm
namespace Go.Proofs.Ytmhledlcfbjfkaa
open Go.RowKit
set_option maxHeartbeats 400000 in
theorem rin_any (zs : List Int) (x : Int) (F : Nat → Prop) (v : Value) (w : World) (hv : IntsIn .i64 F w v zs) :
    Calls Try.prog 7 #[v, .int .i64 x] w fun e w' => e = .returned (.bool (decide (x ∈ zs))) ∧ w = w' := by
  obtain ⟨A, c, rfl, h1, _, h3⟩ := hv
  have H := hid h3
  unfold maxLen at h1
  clear h3
  go_enter Try.func7, Try.ntmps7
  go_wp2_with fail
  go_loop [5] (fun i => ∃ j : Nat, j ≤ zs.length ∧ i = .int .i64 j ∧ Hid (∀ k, k < j → at0 zs k ≠ x)) (fun i => zs.length - (intOf i).toNat)
  case atStart => exact ⟨0, Nat.zero_le _, rfl, fun k hk => by omega⟩
  case round =>
    obtain ⟨j, hj, rfl, hold⟩ := hrel
    by_cases hlt : j < zs.length
    · obtain ⟨b, o, rfl, _, hc⟩ := H.out (by omega)
      have c1 : w.cell? ⟨b, o + j, none⟩ = some (.int .i64 (at0 zs j)) := hc j hlt
      have i1 : (j : Int) < (zs.length : Int) := by omega
      clear hc
      obtain ⟨y, hy⟩ : ∃ y, y = at0 zs j := ⟨_, rfl⟩
      rw [← hy] at c1
      have HY := hid hy
      clear hy
      by_cases hxy : y = x
      · have R : Hid (decide (x ∈ zs) = true) := by show _ = _; simp only [decide_eq_true_eq]; rw [← hxy, HY.out]; exact mem_at hlt
        have e1 : (y == x) = true := by simp [hxy]
        clear hxy
        go_wp2_with fail
        go_ret
        exact ⟨by rw [R.out]; rfl, rfl⟩
      · have e1 : (y == x) = false := by simp [hxy]
        have N : Hid (∀ k, k < j + 1 → at0 zs k ≠ x) := fun k hk => by
          by_cases hkj : k = j
          · subst hkj; rw [← HY.out]; exact hxy
          · exact hold.out k (by omega)
        clear hxy
        go_wp2_with fail
        go_round
        case rel => exact ⟨j + 1, by omega, by go_num, N⟩
        case measure => simp [intOf]; omega
    · have R : Hid (decide (x ∈ zs) = false) := by
        show _ = _
        have hi := ix_none (zs := zs) (x := x) fun k hk => hold.out k (by omega)
        simp only [decide_eq_false_iff_not]
        intro hm
        have := ix_ge.2 hm
        omega
      go_wp2_with fail
      go_ret
      exact ⟨by rw [R.out]; rfl, rfl⟩
end Go.Proofs.Ytmhledlcfbjfkaa
