/- What hada.sign returns: some number; of 1 and 0 it is 1, of 1 and 1 it is -1. No conditions. -/
import Derived.Test.YtcnhccpoakldnaaDoorGen
namespace Go.Proofs.YtcnhccpoakldnaaDoor
open Go.RowKit
set_option maxHeartbeats 400000 in
theorem oc64_any (x : Int) (w : World) : Calls Tryd.prog 16 #[.int .u64 x] w fun e w' => (∃ n, e = .returned (.int .i64 n)) ∧ w = w' := by
  go_enter Tryd.func16, Tryd.ntmps16
  go_wp2_with fail
  go_ret
  exact ⟨⟨_, rfl⟩, rfl⟩
set_option maxHeartbeats 400000 in
theorem oc64_0 (w : World) : Calls Tryd.prog 16 #[.int .u64 0] w fun e w' => e = .returned (.int .i64 0) ∧ w = w' := by
  go_enter Tryd.func16, Tryd.ntmps16
  go_wp2_with fail
  go_ret
  exact ⟨by kernel_rfl, rfl⟩
set_option maxHeartbeats 400000 in
theorem oc64_1 (w : World) : Calls Tryd.prog 16 #[.int .u64 1] w fun e w' => e = .returned (.int .i64 1) ∧ w = w' := by
  go_enter Tryd.func16, Tryd.ntmps16
  go_wp2_with fail
  go_ret
  exact ⟨by kernel_rfl, rfl⟩
set_option maxHeartbeats 400000 in
theorem oc_any (x : Int) (w : World) : Calls Tryd.prog 13 #[.int .u64 x] w fun e w' => (∃ n, e = .returned (.int .i64 n)) ∧ w = w' := by
  go_enter Tryd.func13, Tryd.ntmps13
  go_wp2_with fail
  refine (oc64_any _ _).mono ?_
  rintro e w' ⟨⟨n, rfl⟩, rfl⟩
  go_wp2_with fail
  go_ret
  exact ⟨⟨_, rfl⟩, rfl⟩
set_option maxHeartbeats 400000 in
theorem oc_0 (w : World) : Calls Tryd.prog 13 #[.int .u64 0] w fun e w' => e = .returned (.int .i64 0) ∧ w = w' := by
  go_enter Tryd.func13, Tryd.ntmps13
  go_wp2_with fail
  refine (oc64_0 _).mono ?_
  rintro e w' ⟨rfl, rfl⟩
  go_wp2_with fail
  go_ret
  exact ⟨rfl, rfl⟩
set_option maxHeartbeats 400000 in
theorem oc_1 (w : World) : Calls Tryd.prog 13 #[.int .u64 1] w fun e w' => e = .returned (.int .i64 1) ∧ w = w' := by
  go_enter Tryd.func13, Tryd.ntmps13
  go_wp2_with fail
  refine (oc64_1 _).mono ?_
  rintro e w' ⟨rfl, rfl⟩
  go_wp2_with fail
  go_ret
  exact ⟨rfl, rfl⟩
set_option maxHeartbeats 400000 in
theorem sign_any (i j : Int) (w : World) : Calls Tryd.prog 11 #[.int .i64 i, .int .i64 j] w fun e w' => (∃ n, e = .returned (.int .i64 n)) ∧ w = w' := by
  go_enter Tryd.func11, Tryd.ntmps11
  go_wp2_with fail
  refine (oc_any _ _).mono ?_
  rintro e w' ⟨⟨n, rfl⟩, rfl⟩
  go_wp2_with fail
  go_ret
  exact ⟨⟨_, rfl⟩, rfl⟩
set_option maxHeartbeats 400000 in
theorem sign_10 (w : World) : Calls Tryd.prog 11 #[.int .i64 1, .int .i64 0] w fun e w' => e = .returned (.int .i64 1) ∧ w = w' := by
  go_enter Tryd.func11, Tryd.ntmps11
  go_wp2_with fail
  refine (oc_0 _).mono ?_
  rintro e w' ⟨rfl, rfl⟩
  go_wp2_with fail
  go_ret
  exact ⟨by kernel_rfl, rfl⟩
set_option maxHeartbeats 400000 in
theorem sign_11 (w : World) : Calls Tryd.prog 11 #[.int .i64 1, .int .i64 1] w fun e w' => e = .returned (.int .i64 (-1)) ∧ w = w' := by
  go_enter Tryd.func11, Tryd.ntmps11
  go_wp2_with fail
  refine (oc_1 _).mono ?_
  rintro e w' ⟨rfl, rfl⟩
  go_wp2_with fail
  go_ret
  exact ⟨by kernel_rfl, rfl⟩
def SignPost (i j : Nat) (w : World) (e : Ending) (w' : World) : Prop := (∃ n : Int, e = .returned (.int .i64 n) ∧ (i = 1 → j = 0 → n = 1) ∧ (i = 1 → j = 1 → n = -1)) ∧ w = w'
theorem sign_spec (i j : Nat) (w : World) : Calls Tryd.prog 11 #[.int .i64 (i : Int), .int .i64 (j : Int)] w (SignPost i j w) := by
  by_cases h : i = 1 ∧ j = 0
  · obtain ⟨rfl, rfl⟩ := h
    exact (sign_10 w).mono fun e w' ⟨h1, h2⟩ => ⟨⟨1, h1, fun _ _ => rfl, fun _ h => by omega⟩, h2⟩
  · by_cases h' : i = 1 ∧ j = 1
    · obtain ⟨rfl, rfl⟩ := h'
      exact (sign_11 w).mono fun e w' ⟨h1, h2⟩ => ⟨⟨-1, h1, fun _ h => by omega, fun _ _ => rfl⟩, h2⟩
    · exact (sign_any i j w).mono fun e w' ⟨⟨n, h1⟩, h2⟩ => ⟨⟨n, h1, fun a b => absurd ⟨a, b⟩ h, fun a b => absurd ⟨a, b⟩ h'⟩, h2⟩
end Go.Proofs.YtcnhccpoakldnaaDoor
