/- What bound.check and bound.Parts return, whatever the numbers. No conditions beyond the range of an int. -/
import Derived.Test.YtcnhccpoakldnaaRows
import Derived.WalkKit
import Derived.WalkSpells
import Derived.WalkLawsBesides
import Derived.Below
namespace Go.Proofs.Ytcnhccpoakldnaa
open Go.RowKit
theorem hid {p : Prop} (h : p) : Hid p := h
theorem two_at (w : World) (x y : Value) (t : TypeId) : ∀ (j : Nat) (u : Value), [x, y][j]? = some u → (w.alloc (.cells #[x, y] t)).cell? (({ block := w.heap.size, off := 0 } : Addr).add j) = some u := by
  intro j u hj
  match j, hj with
  | 0, hj => simp at hj; subst hj; simp [Addr.add]
  | 1, hj => simp at hj; subst hj; simp [Addr.add]
theorem two_one (x y : Int) : ∀ u ∈ [Value.int .i64 x, Value.int .i64 y], u.oneCell' = true := by
  intro u hu; simp at hu; rcases hu with rfl | rfl <;> rfl
theorem own_ge {w : World} {base : Nat} {e : TypeId} {size n : Nat} {v : Value} {xs : List Value} (h : w.ownsRow base e size v n xs) : ∀ k, v.ownBlock = some k → base ≤ k := by
  intro k hk
  rcases h.2 with ⟨rfl, _⟩ | ⟨g, cap, cur, rfl, hb, _⟩
  · simp [Value.ownBlock] at hk
  · simp [Value.ownBlock] at hk; omega
def lowAt (low : Int) (N n i : Nat) : Int := low + (i * (N / n) + min i (N % n) : Nat)
def cellsTo (low : Int) (N n : Nat) : Nat → List Value
  | 0 => []
  | i + 1 => cellsTo low N n i ++ [.int .i64 (lowAt low N n i), .int .i64 (lowAt low N n (i + 1) - 1)]
theorem info38 : (Try.prog.info? 38).map (fun i => (i.zero, i.size, i.bytes)) = some (some (.agg #[.int .i64 0, .int .i64 0]), 2, 16) := by kernel_rfl
theorem lowAt_le (low : Int) (N n i : Nat) (hn : 0 < n) (hi : i ≤ n) : low ≤ lowAt low N n i ∧ lowAt low N n i ≤ low + N := by
  have h := Nat.div_add_mod N n
  have h2 : i * (N / n) ≤ n * (N / n) := Nat.mul_le_mul_right _ hi
  unfold lowAt
  omega
theorem lowAt_succ (low : Int) (N n i : Nat) : lowAt low N n (i + 1) = lowAt low N n i + (N / n : Nat) + (if i < N % n then 1 else 0) := by
  unfold lowAt
  have : (i + 1) * (N / n) = i * (N / n) + N / n := by rw [Nat.add_mul]; omega
  split <;> omega
def bad (low high : Int) : Bool := decide (high < low) || decide (low < -1073741824) || decide (1073741824 < high)
set_option maxHeartbeats 400000 in
theorem check_bad (low high : Int) (w : World) (h : bad low high = true) :
    Calls Try.prog 11 #[.int .i64 low, .int .i64 high] w fun e w' => e = .returned (.iface 41 (.int .i64 1)) ∧ w = w' := by
  by_cases h1 : high < low
  · clear h; go_enter Try.func11, Try.ntmps11
    go_wp2
    go_ret
    exact ⟨rfl, rfl⟩
  · by_cases h2 : low < -1073741824
    · clear h; go_enter Try.func11, Try.ntmps11
      go_wp2
      go_ret
      exact ⟨rfl, rfl⟩
    · have h3 : 1073741824 < high := by simp [bad] at h; omega
      clear h; go_enter Try.func11, Try.ntmps11
      go_wp2
      go_ret
      exact ⟨rfl, rfl⟩
set_option maxHeartbeats 400000 in
theorem check_good (low high : Int) (w : World) (h : bad low high = false) :
    Calls Try.prog 11 #[.int .i64 low, .int .i64 high] w fun e w' => e = .returned .nilIface ∧ w = w' := by
  have h1 : ¬ high < low := by simp [bad] at h; omega
  have h2 : ¬ low < -1073741824 := by simp [bad] at h; omega
  have h3 : ¬ 1073741824 < high := by simp [bad] at h; omega
  clear h; go_enter Try.func11, Try.ntmps11
  go_wp2
  go_ret
  exact ⟨rfl, rfl⟩
theorem bad_false {low high : Int} (h : bad low high = false) : low ≤ high ∧ -1073741824 ≤ low ∧ high ≤ 1073741824 := by
  simp [bad] at h; omega
set_option maxHeartbeats 400000 in
theorem parts_bad (low high n : Int) (w : World) (h : bad low high = true) :
    Calls Try.prog 9 #[.int .i64 low, .int .i64 high, .int .i64 n] w fun e w' => e = .returned (.tuple #[.slice none 0 0, .iface 41 (.int .i64 1)]) ∧ w = w' := by
  go_enter Try.func9, Try.ntmps9
  go_wp2_with (go_at_call 11; refine (check_bad _ _ _ h).mono ?_; rintro e w' ⟨rfl, rfl⟩)
  go_ret2
  exact ⟨rfl, rfl⟩
set_option maxHeartbeats 400000 in
theorem parts_range (low high n : Int) (w : World) (h : bad low high = false) (hn : n < 1 ∨ high - low + 1 < n ∨ 1000 < n) :
    Calls Try.prog 9 #[.int .i64 low, .int .i64 high, .int .i64 n] w fun e w' => e = .returned (.tuple #[.slice none 0 0, .iface 41 (.int .i64 1)]) ∧ w = w' := by
  obtain ⟨b1, b2, b3⟩ := bad_false h
  by_cases h1 : n < 1
  · go_enter Try.func9, Try.ntmps9
    go_wp2_with (go_at_call 11; refine (check_good _ _ _ h).mono ?_; rintro e w' ⟨rfl, rfl⟩)
    go_ret2
    exact ⟨rfl, rfl⟩
  · by_cases h2 : high - low + 1 < n
    · go_enter Try.func9, Try.ntmps9
      go_wp2_with (go_at_call 11; refine (check_good _ _ _ h).mono ?_; rintro e w' ⟨rfl, rfl⟩)
      go_ret2
      exact ⟨rfl, rfl⟩
    · have h3 : 1000 < n := by omega
      go_enter Try.func9, Try.ntmps9
      go_wp2_with (go_at_call 11; refine (check_good _ _ _ h).mono ?_; rintro e w' ⟨rfl, rfl⟩)
      go_ret2
      exact ⟨rfl, rfl⟩
set_option maxHeartbeats 400000 in
theorem parts_ok (low high : Int) (N n : Nat) (w : World) (h : bad low high = false) (hN : high - low + 1 = N) (hn1 : 1 ≤ n) (hn2 : n ≤ N) (hn3 : n ≤ 1000) :
    Calls Try.prog 9 #[.int .i64 low, .int .i64 high, .int .i64 n] w fun e w' => ∃ v, e = .returned (.tuple #[v, .nilIface]) ∧ w'.ownsRow w.heap.size 38 2 v n (cellsTo low N n n) ∧ Below w.heap.size w w' := by
  obtain ⟨b1, b2, b3⟩ := bad_false h
  obtain ⟨i0, hi, hz0, hz1, hz2⟩ := info_parts info38
  have hd : N / n ≤ N := Nat.div_le_self _ _
  have hN' : (N : Int) ≤ 2147483649 := by omega
  have d1 : decide (N < n) = false := by simp; omega
  have d2 : decide ((n : Int) < 1) = false := by simp; omega
  have d3 : decide (1000 < (n : Int)) = false := by simp; omega
  go_enter Try.func9, Try.ntmps9
  go_wp2_with (go_at_call 11; refine (check_good _ _ _ h).mono ?_; rintro e w' ⟨rfl, rfl⟩)
  have HN := hid hN
  clear hN h
  go_loopw [0, 10, 36] (fun lo out i wr => ∃ k : Nat, k ≤ n ∧ i = .int .i64 k ∧ lo = .int .i64 (lowAt low N n k) ∧ wr.ownsRow w.heap.size 38 2 out k (cellsTo low N n k) ∧ Below w.heap.size w wr) (fun _ _ i _ => n - (intOf i).toNat)
  case atStart => exact ⟨0, Nat.zero_le _, rfl, by simp [lowAt], World.ownsRow_nil _ _ _ _, Below.refl _ _⟩
  case round =>
    obtain ⟨k, hk, rfl, rfl, hown, hbel⟩ := hrel
    have hs := lowAt_succ low N n k
    have hl := lowAt_le low N n k (by omega) hk
    have q0 : 0 ≤ (N : Int) / (n : Int) := Int.ediv_nonneg (by omega) (by omega)
    have q1 : (N : Int) / (n : Int) ≤ N := by rw [← Int.natCast_ediv]; omega
    by_cases hlt : k < n
    · have hl2 := lowAt_le low N n (k+1) (by omega) (by omega)
      by_cases hr : k < N % n
      · have e1 : lowAt low N n k + ((N : Int) / (n : Int) + 1) = lowAt low N n (k + 1) := by rw [hs, if_pos hr, ← Int.natCast_ediv]; omega
        clear hs
        go_wp2_with (at_builtin; refine wpList_append_own _ rfl _ _ 35 rfl w.heap.size 38 i0 (.agg #[.int .i64 0, .int .i64 0]) 2 16 Try.underlying35 hi hz0 hz1 hz2 rfl (by decide) _ _ _ rfl (hown.alloc _) ⟨wr.heap.size, 0, none⟩ 1 1 [.int .i64 (lowAt low N n k), .int .i64 (lowAt low N n (k + 1) - 1)] rfl rfl (two_at _ _ _ _) (two_one _ _) (by unfold maxLen; omega) (by omega) (by have := hbel.size; simp; omega) ?_; intro v' w1 hown' hgrow _)
        go_roundw
        case rel => exact ⟨k + 1, by omega, by go_num, rfl, hown', (hbel.alloc hbel.size _).grown hgrow (by have := hbel.size; simp; omega) (own_ge hown)⟩
        case measure => simp [intOf]; omega
      · have e1 : lowAt low N n k + (N : Int) / (n : Int) = lowAt low N n (k + 1) := by rw [hs, if_neg hr, ← Int.natCast_ediv]; omega
        clear hs
        go_wp2_with (at_builtin; refine wpList_append_own _ rfl _ _ 35 rfl w.heap.size 38 i0 (.agg #[.int .i64 0, .int .i64 0]) 2 16 Try.underlying35 hi hz0 hz1 hz2 rfl (by decide) _ _ _ rfl (hown.alloc _) ⟨wr.heap.size, 0, none⟩ 1 1 [.int .i64 (lowAt low N n k), .int .i64 (lowAt low N n (k + 1) - 1)] rfl rfl (two_at _ _ _ _) (two_one _ _) (by unfold maxLen; omega) (by omega) (by have := hbel.size; simp; omega) ?_; intro v' w1 hown' hgrow _)
        go_roundw
        case rel => exact ⟨k + 1, by omega, by go_num, rfl, hown', (hbel.alloc hbel.size _).grown hgrow (by have := hbel.size; simp; omega) (own_ge hown)⟩
        case measure => simp [intOf]; omega
    · clear hs
      go_wp2
      go_ret2
      exact ⟨_, rfl, by obtain rfl : k = n := by omega
                        exact hown, hbel⟩
end Go.Proofs.Ytcnhccpoakldnaa
