/- What slices.Index and Contains return at integers. No conditions. -/
import Derived.Test.YtbnannlpebggjaaDoorIxm
namespace Go.Proofs.YtbnannlpebggjaaDoor
open Go.RowKit
set_option maxHeartbeats 400000 in
theorem index_any (zs : List Int) (x : Int) (F : Nat → Prop) (v : Value) (w : World) (hv : IntsIn .i64 F w v zs) :
    Calls Tryd.prog 26 #[v, .int .i64 x] w fun e w' => e = .returned (.int .i64 (ixOf zs x)) ∧ w = w' := by
  obtain ⟨A, c, rfl, h1, _, h3⟩ := hv
  have H := hid h3
  unfold maxLen at h1
  clear h3
  go_enter Tryd.func26, Tryd.ntmps26
  go_wp2_with fail
  go_loop [8] (fun i => ∃ j : Nat, j ≤ zs.length ∧ i = .int .i64 j ∧ Hid (∀ k, k < j → at0 zs k ≠ x)) (fun i => zs.length - (intOf i).toNat)
  case atStart => exact ⟨0, Nat.zero_le _, rfl, fun k hk => by omega⟩
  case round =>
    obtain ⟨j, hj, rfl, hold⟩ := hrel
    by_cases hlt : j < zs.length
    · obtain ⟨b, o, rfl, _, hc⟩ := H.out (by omega)
      have c1 : w.cell? ⟨b, o + j, none⟩ = some (.int .i64 (at0 zs j)) := hc j hlt
      have i1 : (j : Int) < (zs.length : Int) := by omega
      clear hc
      obtain ⟨y, hy⟩ : ∃ y, y = at0 zs j := ⟨_, rfl⟩
      rw [← hy] at c1
      have HY := hid hy
      clear hy
      by_cases hxy : x = y
      · have R : Hid (ixOf zs x = j) := ix_at hlt (by rw [← HY.out, hxy]) hold.out
        have e1 : (x == y) = true := by simp [hxy]
        clear hxy
        go_wp2_with fail
        go_ret
        exact ⟨by rw [R.out]; rfl, rfl⟩
      · have e1 : (x == y) = false := by simp [hxy]
        have N : Hid (∀ k, k < j + 1 → at0 zs k ≠ x) := fun k hk => by
          by_cases hkj : k = j
          · subst hkj; rw [← HY.out]; exact fun h => hxy h.symm
          · exact hold.out k (by omega)
        clear hxy
        go_wp2_with fail
        go_round
        case rel => exact ⟨j + 1, by omega, by go_num, N⟩
        case measure => simp [intOf]; omega
    · have R : Hid (ixOf zs x = -1) := ix_none fun k hk => hold.out k (by omega)
      go_wp2_with fail
      go_ret
      exact ⟨by rw [R.out]; rfl, rfl⟩
set_option maxHeartbeats 400000 in
theorem contains_any (zs : List Int) (x : Int) (F : Nat → Prop) (v : Value) (w : World) (hv : IntsIn .i64 F w v zs) :
    Calls Tryd.prog 23 #[v, .int .i64 x] w fun e w' => e = .returned (.bool (decide (x ∈ zs))) ∧ w = w' := by
  have H := hid hv
  obtain ⟨A, c, rfl, h1, _, _⟩ := hv
  have R : Hid (decide (0 ≤ ixOf zs x) = decide (x ∈ zs)) := by show _ = _; rw [decide_eq_decide]; exact ix_ge
  go_enter Tryd.func23, Tryd.ntmps23
  go_wp2_with (go_at_call 26; refine (index_any zs x F _ _ H.out).mono ?_; rintro e w' ⟨rfl, rfl⟩)
  go_ret
  exact ⟨by rw [← R.out]; rfl, rfl⟩
end Go.Proofs.YtbnannlpebggjaaDoor
