/- HadaParseval returns true, whatever the number and the list, and writes nothing that was there. No conditions beyond the range of an int. -/
import Derived.Test.YtcnhccpoakldnaaHadM
namespace Go.Proofs.Ytcnhccpoakldnaa
open Go.RowKit
theorem fact_row : stages (2 ^ 1) (fun j => [5, 3].getD j 0) 1 0 = 8 := by decide +kernel
theorem two_at (w : World) (x y : Value) (t : TypeId) : ∀ i, i < 2 → (w.alloc (.cells #[x, y] t)).cell? ⟨w.heap.size, 0 + i, none⟩ = some ([x, y].getD i x) := by
  intro i hi
  match i, hi with
  | 0, _ => simp
  | 1, _ => simp
theorem lit_two (w : World) : IntsIn .i64 (fun b => b = w.heap.size) (w.alloc (.cells #[.int .i64 5, .int .i64 3] 3)) (.slice (some ⟨w.heap.size, 0, none⟩) 2 2) [5, 3] := by
  refine ⟨_, 2, rfl, by decide, by decide, fun _ => ⟨_, 0, rfl, rfl, fun i hi => ?_⟩⟩
  match i, hi with
  | 0, _ => simp
  | 1, _ => simp
theorem effects_fact (w : World) : Calls Try.prog 8 #[.int .i64 1, .slice (some ⟨w.heap.size, 0, none⟩) 2 2] (w.alloc (.cells #[.int .i64 5, .int .i64 3] 3)) fun e w' => ∃ g cap, e = .returned (.tuple #[.slice (some ⟨g, 0, none⟩) 2 cap, .nilIface]) ∧ w'.cell? ⟨g, 0, none⟩ = some (.int .i64 8) ∧ g < w'.heap.size ∧ Below w.heap.size w w' := by
  refine (effects_ok 1 [5, 3] _ _ _ (by decide) (fun b hb => by subst hb; simp) (lit_two w) rfl).mono ?_
  rintro e w' ⟨g, cap, rfl, hg, hown, hb⟩
  have hc := hown.cellAt 0 (by decide)
  rw [row_get _ _ _ (by decide), fact_row] at hc
  exact ⟨g, cap, rfl, hc, cell_lt hc, ((Below.refl _ _).alloc (Nat.le_refl _) _).trans (hb.mono (by simp))⟩
set_option maxRecDepth 100000 in
set_option maxHeartbeats 400000 in
theorem law_bad (k : Int) (zs : List Int) (v : Value) (w : World) (h : IntsIn .i64 (fun b => b < w.heap.size) w v zs) (hk : (k < 0 ∨ 6 < k) ∨ zs.length ≠ 2 ^ k.toNat) :
    Calls Try.prog 4 #[.int .i64 k, v] w fun e w' => e = .returned (.bool true) ∧ Below w.heap.size w w' := by
  have H := hid h
  have HK := hid hk
  obtain ⟨A, c, rfl, hm, hwf, hA⟩ := h
  clear hA hwf hk
  go_enter Try.func4, Try.ntmps4
  go_wp2_with fail
  refine (effects_fact _).mono ?_
  rintro e w1 ⟨g, cap, rfl, hc, hg, hb1⟩
  have H1 := hid (H.out.keep (Same.of_below hb1 fun _ h => h))
  go_wp2_with fail
  by_cases h6 : k < 0 ∨ 6 < k
  · refine (effects_bad k zs _ _ _ H1.out h6).mono ?_
    rintro e w2 ⟨rfl, rfl⟩
    clear h6
    go_wp2_with fail
    go_ret
    exact ⟨rfl, hb1⟩
  · obtain ⟨K, rfl⟩ : ∃ K : Nat, k = K := ⟨k.toNat, by omega⟩
    refine (effects_len K zs _ _ _ H1.out (by omega) (by have := HK.out; simp at this; omega)).mono ?_
    rintro e w2 ⟨rfl, rfl⟩
    clear h6
    go_wp2_with fail
    go_ret
    exact ⟨rfl, hb1⟩
set_option maxRecDepth 100000 in
set_option maxHeartbeats 400000 in
theorem law_good (K : Nat) (zs : List Int) (v : Value) (w : World) (h : IntsIn .i64 (fun b => b < w.heap.size) w v zs) (hk : K ≤ 6) (hl : zs.length = 2 ^ K) :
    Calls Try.prog 4 #[.int .i64 K, v] w fun e w' => e = .returned (.bool true) ∧ Below w.heap.size w w' := by
  have H := hid h
  obtain ⟨A, c, rfl, hm, hwf, hA⟩ := h
  obtain ⟨b, off, rfl, hbw, hcell⟩ := hA (by rw [hl]; exact Nat.two_pow_pos K)
  have hn : 1 ≤ 2 ^ K ∧ 2 ^ K ≤ 64 := ⟨Nat.two_pow_pos K, Nat.le_trans (Nat.pow_le_pow_right (by omega) hk) (by decide)⟩
  have HC := hid hcell
  have HL := hid hl
  have P := hid (parseval K hk (fun j => zs.getD j 0))
  clear hA hwf hcell hm hl
  go_enter Try.func4, Try.ntmps4
  go_wp2_with fail
  refine (effects_fact _).mono ?_
  rintro e w1 ⟨g, cap, rfl, hc, hg, hb1⟩
  have H1 := hid (H.out.keep (Same.of_below hb1 fun _ h => h))
  have hs1 := hb1.size
  go_wp2_with fail
  refine (effects_ok K zs _ _ _ hk (fun b hb => by omega) H1.out HL.out).mono ?_
  rintro e w2 ⟨g2, cap2, rfl, hg2, hown, hb2⟩
  have hs2 := hb2.size
  have hc2 : w2.cell? ⟨g, 0, none⟩ = some (.int .i64 8) := (hb2.cell (p := ⟨g, 0, none⟩) hg).trans hc
  have hbb : Below w.heap.size w w2 := hb1.trans (hb2.mono hs1)
  have HO := hid hown
  have HC2 : Hid (∀ i, i < 2 ^ K → w2.cell? ⟨b, off + i, none⟩ = some (.int .i64 (zs.getD i 0))) := fun i hi => (hbb.cell (p := ⟨b, off + i, none⟩) hbw).trans (HC.out i (by rw [HL.out]; exact hi))
  have e0 := HL.out
  rw [e0]
  generalize hN : 2 ^ K = n at *
  generalize hX : (fun j => zs.getD j 0) = x at *
  have HD : Hid (∀ i, i < n → w2.cell? ⟨b, off + i, none⟩ = some (.int .i64 (x i))) := by subst hX; exact HC2
  generalize hY : stages n x K = y at *
  clear hc hown hN hX HC2 HC H1 e0 hY
  obtain ⟨n1, n2⟩ := hn
  have n3 : (n : Int) ≤ 64 := by omega
  go_wp2_with fail
  go_loopw [9, 10, 11] (fun xs ys i wr => ∃ j q : Nat, j ≤ n ∧ i = .int .i64 j ∧ xs = .int .i64 (acc y j) ∧ ys = .int .i64 (acc x j) ∧ wr = w2.drewN q) (fun _ _ i _ => n - (intOf i).toNat)
  case atStart => exact ⟨0, 0, Nat.zero_le _, rfl, rfl, rfl, rfl⟩
  case round =>
    obtain ⟨j, q0, hj, rfl, rfl, rfl, rfl⟩ := hrel
    by_cases hlt : j < n
    · have c1 := (HO.out.cellAt j (by omega)).trans (row_get n _ j hlt)
      have c2 := HD.out j hlt
      have i1 : (j : Int) < (n : Int) := by omega
      go_upto_region 12 with fail
      go_cut [9] from 47 to 57 (fun c wx => c = .int .i64 (acc y (j + 1)) ∧ ∃ q, wx = w2.drewN q)
      case first =>
        go_quiet (fail)
        go_wp2_with fail
        go_meet
        exact ⟨rfl, _, World.drewN_drewN ..⟩
      case rest =>
        obtain ⟨rfl, q, rfl⟩ := hcut
        go_upto_region 13 with fail
        go_quiet (fail)
        go_wp2_with fail
        go_roundw
        case rel => exact ⟨j + 1, _, by omega, by go_num, rfl, rfl, rfl⟩
        case measure => simp [intOf]; omega
    · obtain rfl : j = n := by omega
      have p1 := P.out
      go_wp2_with fail
      go_ret
      exact ⟨rfl, below_drewN hbb _⟩
theorem law_any (k : Int) (zs : List Int) (v : Value) (w : World) (h : IntsIn .i64 (fun b => b < w.heap.size) w v zs) :
    Calls Try.prog 4 #[.int .i64 k, v] w fun e w' => e = .returned (.bool true) ∧ Below w.heap.size w w' := by
  by_cases hk : (k < 0 ∨ 6 < k) ∨ zs.length ≠ 2 ^ k.toNat
  · exact law_bad k zs v w h hk
  · obtain ⟨K, rfl⟩ : ∃ K : Nat, k = K := ⟨k.toNat, by omega⟩
    have h2 : zs.length = 2 ^ K := by simp at hk; exact hk.2
    exact law_good K zs v w h (by omega) h2
end Go.Proofs.Ytcnhccpoakldnaa
