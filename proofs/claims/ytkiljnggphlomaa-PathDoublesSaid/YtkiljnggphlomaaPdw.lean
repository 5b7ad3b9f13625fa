/- The law PathDoubles: it returns true, and all that the call was given reads as before. No conditions. -/
import Derived.Test.YtkiljnggphlomaaPdd
namespace Go.Proofs.Ytkiljnggphlomaa
open Go.RowKit Go.Deep
def LawPost (W : World) (e : Ending) (w' : World) : Prop := e = .returned (.bool true) ∧ Below W.heap.size W w'
theorem ecells4 (i : Nat) : ecells (dblE (i + 1)) = ecells (dblE i) ++ [.int .i64 (3 * (i : Int)), .int .i64 (3 * (i : Int) + 1), .int .i64 (3 * (i : Int)), .int .i64 (3 * (i : Int) + 2), .int .i64 (3 * (i : Int) + 1), .int .i64 (3 * (i : Int) + 3), .int .i64 (3 * (i : Int) + 2), .int .i64 (3 * (i : Int) + 3)] := by
  rw [dblE, ecells_append]; rfl
set_option maxRecDepth 100000 in
set_option maxHeartbeats 4000000 in
theorem pathDoubles_walk (k : Int) (W : World) :
    Calls Try.prog 6 #[.int .i64 k] W (LawPost W) := by
  obtain ⟨i0, hi, hz0, hz1, hz2⟩ := info_parts infoEdge
  by_cases hk : 0 ≤ k ∧ k ≤ 3
  · obtain ⟨K, rfl⟩ : ∃ K : Nat, k = K := ⟨k.toNat, by omega⟩
    have K3 : K ≤ 3 := by omega
    have HK := hid K3
    go_enter Try.func6, Try.ntmps6
    go_wp2_with fail
    go_loopw [5, 6] (fun lv ji wr => ∃ j : Nat, j ≤ K ∧ ji = .int .i64 j ∧ Hid (wr.ownsRow W.heap.size 44 2 lv (4 * j) (ecells (dblE j))) ∧ Hid (Below W.heap.size W wr)) (fun _ ji _ => K - (intOf ji).toNat)
    case atStart => exact ⟨0, Nat.zero_le _, rfl, World.ownsRow_nil _ _ _ _, Below.refl _ _⟩
    case round =>
      obtain ⟨j, hj, rfl, hO, hB⟩ := hrel
      have sB := hB.out.size
      obtain ⟨A2, cp2, rfl, _, _⟩ := own_sl hO.out
      by_cases hlt : j < K
      · have i1 : (j : Int) < (K : Int) := by omega
        have j3 : j ≤ 2 := by omega
        have e1 : IntKind.i64.wrap (3 * (j : Int)) = 3 * (j : Int) := by rw [IntKind.wrap_i64]; omega
        have e2 : IntKind.i64.wrap (3 * (j : Int) + 1) = 3 * (j : Int) + 1 := by rw [IntKind.wrap_i64]; omega
        have e3 : IntKind.i64.wrap (3 * (j : Int) + 2) = 3 * (j : Int) + 2 := by rw [IntKind.wrap_i64]; omega
        have e4 : IntKind.i64.wrap (3 * (j : Int) + 3) = 3 * (j : Int) + 3 := by rw [IntKind.wrap_i64]; omega
        have C1 : Hid (CellsIn (fun b => b = wr.heap.size) (wr.alloc (.cells #[.int .i64 (3 * (j : Int)), .int .i64 (3 * (j : Int) + 1), .int .i64 (3 * (j : Int)), .int .i64 (3 * (j : Int) + 2), .int .i64 (3 * (j : Int) + 1), .int .i64 (3 * (j : Int) + 3), .int .i64 (3 * (j : Int) + 2), .int .i64 (3 * (j : Int) + 3)] 44)) 2 (.slice (some ⟨wr.heap.size, 0, none⟩) 4 4) 4 [.int .i64 (3 * (j : Int)), .int .i64 (3 * (j : Int) + 1), .int .i64 (3 * (j : Int)), .int .i64 (3 * (j : Int) + 2), .int .i64 (3 * (j : Int) + 1), .int .i64 (3 * (j : Int) + 3), .int .i64 (3 * (j : Int) + 2), .int .i64 (3 * (j : Int) + 3)]) :=
          ⟨_, 4, rfl, rfl, fun _ => ⟨wr.heap.size, 0, rfl, rfl, fun j' u hj' => by
            rw [Has.cell (Has.new wr _) (0 + j')]
            rw [Nat.zero_add]
            simpa using hj'⟩⟩
        have OB := hid (hO.out.alloc (.cells #[.int .i64 (3 * (j : Int)), .int .i64 (3 * (j : Int) + 1), .int .i64 (3 * (j : Int)), .int .i64 (3 * (j : Int) + 2), .int .i64 (3 * (j : Int) + 1), .int .i64 (3 * (j : Int) + 3), .int .i64 (3 * (j : Int) + 2), .int .i64 (3 * (j : Int) + 3)] 44))
        have O1 : ∀ u ∈ [Value.int .i64 (3 * (j : Int)), .int .i64 (3 * (j : Int) + 1), .int .i64 (3 * (j : Int)), .int .i64 (3 * (j : Int) + 2), .int .i64 (3 * (j : Int) + 1), .int .i64 (3 * (j : Int) + 3), .int .i64 (3 * (j : Int) + 2), .int .i64 (3 * (j : Int) + 3)], u.oneCell' = true := by
          intro u hu; simp only [List.mem_cons, List.not_mem_nil, or_false] at hu; rcases hu with rfl | rfl | rfl | rfl | rfl | rfl | rfl | rfl <;> rfl
        have HO1 := hid O1
        clear O1
        have BA : Hid (Below W.heap.size W (wr.alloc (.cells #[.int .i64 (3 * (j : Int)), .int .i64 (3 * (j : Int) + 1), .int .i64 (3 * (j : Int)), .int .i64 (3 * (j : Int) + 2), .int .i64 (3 * (j : Int) + 1), .int .i64 (3 * (j : Int) + 3), .int .i64 (3 * (j : Int) + 2), .int .i64 (3 * (j : Int) + 3)] 44))) := hB.out.alloc sB _
        go_wp2_with (at_builtin; refine wpList_app _ rfl (.tmp 30) (.tmp 57) 29 rfl W.heap.size 44 i0 (.agg #[.int .i64 0, .int .i64 0]) 2 16 Try.underlying29 hi hz0 hz1 hz2 rfl (by decide) (.slice A2 (4 * j) cp2) (4 * j) (ecells (dblE j)) rfl (by exact OB.out) _ (.slice (some ⟨wr.heap.size, 0, none⟩) 4 4) 4 _ rfl (by exact C1.out) (by exact HO1.out) (by unfold maxLen; omega) (by omega) (by show W.heap.size ≤ (wr.alloc _).heap.size; simp; omega) ?_; intro v2 w2 hown2 hgrow2 hat2; have R2 : Hid (w2.ownsRow W.heap.size 44 2 v2 (4 * (j + 1)) (ecells (dblE (j + 1)))) := (by show World.ownsRow _ _ _ _ _ _ _; rw [ecells4]; exact hown2); have BN : Hid (Below W.heap.size W w2) := BA.out.grown hgrow2 (by show W.heap.size ≤ (wr.alloc _).heap.size; simp; omega) (own_ge OB.out); clear hown2 hgrow2 hat2)
        go_roundw
        case rel => exact ⟨j + 1, by omega, by go_num, R2, BN⟩
        case measure => simp [intOf]; omega
      · obtain rfl : j = K := by omega
        have DL := dblE_len j
        have hOl : wr.ownsRow W.heap.size 44 2 (.slice A2 (4 * j) cp2) (dblE j).length (ecells (dblE j)) := by rw [DL]; exact hO.out
        have ED := hid ((edges_of_own hOl (dblE_wf K3)).more (F' := fun b => b < wr.heap.size) fun b h => h.2)
        have e1 : IntKind.i64.wrap (3 * (j : Int)) = 3 * (j : Int) := by rw [IntKind.wrap_i64]; omega
        have e2 : IntKind.i64.wrap (3 * (j : Int) + 1) = ((3 * j + 1 : Nat) : Int) := by rw [IntKind.wrap_i64]; omega
        clear hOl DL
        obtain ⟨wo, hwo⟩ : ∃ wo, wo = wr := ⟨_, rfl⟩
        subst hwo
        go_wp2_with fail
        refine (pcount_any ((3 * j + 1 : Nat) : Int) (dblE j) _ _ wo (fun b h => h) ED.out).mono ?_
        intro e w3 hr
        obtain ⟨hb, rfl⟩ := dbl_count HK.out hr
        have B3 := hid (hB.out.trans (hb.mono sB))
        clear hr hb e1 e2 hj hlt
        match j, HK.out with
        | 0, _ => 
          go_wp2_with fail
          go_ret
          exact ⟨rfl, B3.out⟩
        | 1, _ => 
          go_wp2_with fail
          go_ret
          exact ⟨rfl, B3.out⟩
        | 2, _ => 
          go_wp2_with fail
          go_ret
          exact ⟨rfl, B3.out⟩
        | 3, _ => 
          go_wp2_with fail
          go_ret
          exact ⟨rfl, B3.out⟩
  · go_enter Try.func6, Try.ntmps6
    go_wp2_with fail
    all_goals first | (exfalso; omega) | skip
    all_goals
      refine (pcount_any ((3 * 0 + 1 : Nat) : Int) (dblE 0) (fun _ => False) _ W (fun b h => h.elim) EdgesIn.nil_).mono ?_
      intro e w3 hr
      obtain ⟨hb, rfl⟩ := dbl_count (Nat.zero_le _) hr
      have B3 := hid hb
      clear hr hb
      go_wp2_with fail
      go_ret
      exact ⟨rfl, B3.out⟩
end Go.Proofs.Ytkiljnggphlomaa
