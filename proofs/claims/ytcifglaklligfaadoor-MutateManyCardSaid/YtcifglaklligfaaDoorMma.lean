/- The law MutateMany: it returns true, and all that the call was given reads as before. Condition: the package's lists. -/
import Derived.Test.YtcifglaklligfaaDoorKee
namespace Go.Proofs.YtcifglaklligfaaDoor
open Go.RowKit Go.Deep
def BothPost (k : Int) (x y : Ex) (w : World) (e : Ending) (w' : World) : Prop := ∃ g, e = .returned (.agg #[.int .i64 k, .int .i64 0, .slice (some ⟨g, 0, none⟩) 2 2]) ∧ ExIn (fun b => b < w'.heap.size) w' (.mk k 0 [x, y]) (.int .i64 k) (.int .i64 0) (.slice (some ⟨g, 0, none⟩) 2 2) ∧ Below w.heap.size w w'
set_option maxRecDepth 100000 in
set_option maxHeartbeats 1000000 in
theorem both_any (k : Int) (x y : Ex) (F : Nat → Prop) (a b c a2 b2 c2 : Value) (w : World) (hF : ∀ g, F g → g < w.heap.size) (hx : ExIn F w x a b c) (hy : ExIn F w y a2 b2 c2) (hk : (Lit.int .i64 k).wf = true) :
    Calls Tryd.prog 16 #[.int .i64 k, .agg #[a, b, c], .agg #[a2, b2, c2]] w (BothPost k x y w) := by
  have HX := hid hx
  have HY := hid hy
  have HF := hid hF
  have HK := hid hk
  obtain ⟨k1, n1, s1⟩ := x
  obtain ⟨k2, n2, s2⟩ := y
  obtain ⟨A, cp, rfl, rfl, rfl, l1, l2, _⟩ := hx.box
  obtain ⟨A2, cp2, rfl, rfl, rfl, l3, l4, _⟩ := hy.box
  clear hF hk
  have B3 : Hid (Below w.heap.size w (((w.alloc (.cells #[.int .i64 k1, .int .i64 n1, .slice A s1.length cp] 24)).alloc (.cells #[.int .i64 k2, .int .i64 n2, .slice A2 s2.length cp2] 24)).alloc (.cells #[.int .i64 k, .int .i64 0, .slice (some ⟨w.heap.size + 1 + 1 + 1, 0, none⟩) 2 2] 24))) := (((Below.refl _ _).alloc (Nat.le_refl _) _).alloc (by simp) _).alloc (by simp; omega) _
  go_enter Tryd.func16, Tryd.ntmps16
  go_wp2_with fail
  refine bodyPost_ret (v := .agg #[.int .i64 k, .int .i64 0, .slice (some ⟨w.heap.size + 1 + 1 + 1, 0, none⟩) 2 2]) (by simp [results, Tryd.results16, go_sem]) rfl ⟨_, rfl, ?_, B3.out.alloc (by simp; omega) _⟩
  have h9 := ex_lit2 (k := k) (n := 0) (ExIn.more (F' := fun b => b < (((w.alloc (.cells #[.int .i64 k1, .int .i64 n1, .slice A s1.length cp] 24)).alloc (.cells #[.int .i64 k2, .int .i64 n2, .slice A2 s2.length cp2] 24)).alloc (.cells #[.int .i64 k, .int .i64 0, .slice (some ⟨w.heap.size + 1 + 1 + 1, 0, none⟩) 2 2] 24)).heap.size) (fun b hb => by have := HF.out b hb; simp; omega) _ (ExIn.keep (Same.of_below B3.out HF.out) _ HX.out)) (ExIn.more (fun b hb => by have := HF.out b hb; simp; omega) _ (ExIn.keep (Same.of_below B3.out HF.out) _ HY.out)) HK.out (by decide)
  simp only [World.size_alloc] at h9 ⊢
  exact h9
set_option maxRecDepth 100000 in
set_option maxHeartbeats 2000000 in
theorem mutateMany_walk (x : Ex) (u : Value) (y : Ex) (v : Value) (W : World) (hL : LaidE W) (hx : ExV (fun b => b < W.heap.size) W u x) (hy : ExV (fun b => b < W.heap.size) W v y) :
    Calls Tryd.prog 4 #[u, v] W (LawPost W) := by
  obtain ⟨k1, n1, s1⟩ := x
  obtain ⟨k2, n2, s2⟩ := y
  obtain ⟨a, b, c, rfl, hx⟩ := hx
  obtain ⟨a2, b2, c2, rfl, hy⟩ := hy
  have K0 := hid (((KeptE.start W hL).add hx fun b h => h).add hy fun b h => h)
  obtain ⟨A, cp, rfl, rfl, rfl, l1, l2, _⟩ := hx.box
  obtain ⟨A2, cp2, rfl, rfl, rfl, l3, l4, _⟩ := hy.box
  clear hL hx hy
  go_enter Tryd.func4, Tryd.ntmps4
  go_wp2_with fail
  have K1 := hid ((K0.out.allocs #[.int .i64 k1, .int .i64 n1, .slice A s1.length cp] 24 (g := W.heap.size) (by simp)).allocs #[.int .i64 k2, .int .i64 n2, .slice A2 s2.length cp2] 24 (g := W.heap.size + 1) (by simp))
  clear K0
  refine (allR_any (.mk 1 0 []) (fun _ => False) _ _ _ _ (fun g h => h.elim) (ex_leaf (by decide) (by decide)) K1.out.laid).mono ?_
  rintro e w2 ⟨v2, rfl, hE, hb⟩
  have K2 := hid (K1.out.step hb)
  have M0 : mutsR (.mk 1 0 []) = (Ex.mk 1 0 []).muts := by unfold mutsR; rw [if_pos (by decide)]
  have lM0 : (mutsR (.mk 1 0 [])).length = 2 := by rw [M0, muts_lit]
  obtain ⟨A3, c3, rfl⟩ := hE.slice
  rw [lM0, show errV (chkE (.mk 1 0 [])) = .nilIface from by rw [show chkE (.mk 1 0 []) = 0 by decide]; rfl]
  clear hb K1 hE M0 lM0
  have x0 := K2.out.cellN 1 rfl 0
  have x1 := K2.out.cellN 1 rfl 1
  have x2 := K2.out.cellN 1 rfl 2
  simp at x0 x1 x2
  go_wp2_with fail
  refine (allR_any (.mk k1 n1 s1) _ _ _ _ _ (fun b h => h) (K2.out.exN 1 rfl) K2.out.laid).mono ?_
  rintro e w3 ⟨v3, rfl, hE, hb⟩
  have K3 := hid (K2.out.step hb)
  obtain ⟨A4, c4, rfl⟩ := hE.slice
  obtain ⟨E1, hE1⟩ : ∃ E1, E1 = errV (chkE (.mk k1 n1 s1)) := ⟨_, rfl⟩
  have HE1 := hid hE1
  rw [← hE1]
  clear hb K2 hE hE1 x0 x1 x2
  have y0 := K3.out.cellN 0 rfl 0
  have y1 := K3.out.cellN 0 rfl 1
  have y2 := K3.out.cellN 0 rfl 2
  simp at y0 y1 y2
  go_wp2_with fail
  refine (allR_any (.mk k2 n2 s2) _ _ _ _ _ (fun b h => h) (K3.out.exN 0 rfl) K3.out.laid).mono ?_
  rintro e w4 ⟨v4, rfl, hE, hb⟩
  have K4 := hid (K3.out.step hb)
  obtain ⟨A5, c5, rfl⟩ := hE.slice
  obtain ⟨E2, hE2⟩ : ∃ E2, E2 = errV (chkE (.mk k2 n2 s2)) := ⟨_, rfl⟩
  have HE2 := hid hE2
  rw [← hE2]
  clear hb K3 hE hE2 y0 y1 y2
  have x0 := K4.out.cellN 1 rfl 0
  have x1 := K4.out.cellN 1 rfl 1
  have x2 := K4.out.cellN 1 rfl 2
  simp at x0 x1 x2
  go_wp2_with fail
  have K5 := hid ((K4.out.alloc (.cells #[.int .i64 k1, .int .i64 n1, .slice A s1.length cp] 24)).add (ex_lit1 (k := 9) (n := 0) (K4.out.exN 1 rfl) (by decide) (by decide)) fun b h => h)
  clear K4
  refine (allR_any (.mk 9 0 [.mk k1 n1 s1]) _ _ _ _ _ (fun b h => h) (K5.out.exN 0 rfl) K5.out.laid).mono ?_
  rintro e w6 ⟨v6, rfl, hE, hb⟩
  have K6 := hid (K5.out.step hb)
  obtain ⟨A6, c6, rfl⟩ := hE.slice
  obtain ⟨E3, hE3⟩ : ∃ E3, E3 = errV (chkE (.mk 9 0 [.mk k1 n1 s1])) := ⟨_, rfl⟩
  have HE3 := hid hE3
  rw [← hE3]
  clear hb K5 hE hE3 x0 x1 x2
  have x0 := K6.out.cellN 1 rfl 0
  have x1 := K6.out.cellN 1 rfl 1
  have x2 := K6.out.cellN 1 rfl 2
  simp at x0 x1 x2
  have y0 := K6.out.cellN 0 rfl 0
  have y1 := K6.out.cellN 0 rfl 1
  have y2 := K6.out.cellN 0 rfl 2
  simp at y0 y1 y2
  go_wp2_with fail
  refine (both_any 7 (.mk k1 n1 s1) (.mk k2 n2 s2) _ _ _ _ _ _ _ _ (fun b h => h) (K6.out.exN 2 rfl) (K6.out.exN 1 rfl) (by decide)).mono ?_
  rintro e w7 ⟨g7, rfl, hX7, hb⟩
  have K7 := hid ((K6.out.step hb).add hX7 fun b h => h)
  clear hb K6 hX7 x0 x1 x2 y0 y1 y2
  go_wp2_with fail
  refine (allR_any (.mk 7 0 [.mk k1 n1 s1, .mk k2 n2 s2]) _ _ _ _ _ (fun b h => h) (K7.out.exN 0 rfl) K7.out.laid).mono ?_
  rintro e w8 ⟨v8, rfl, hE, hb⟩
  have K8 := hid (K7.out.step hb)
  obtain ⟨A8, c8, rfl⟩ := hE.slice
  obtain ⟨E4, hE4⟩ : ∃ E4, E4 = errV (chkE (.mk 7 0 [.mk k1 n1 s1, .mk k2 n2 s2])) := ⟨_, rfl⟩
  have HE4 := hid hE4
  rw [← hE4]
  clear hb K7 hE hE4
  obtain ⟨N1, hN1⟩ : ∃ N, N = (mutsR (.mk k1 n1 s1)).length := ⟨_, rfl⟩
  obtain ⟨N2, hN2⟩ : ∃ N, N = (mutsR (.mk k2 n2 s2)).length := ⟨_, rfl⟩
  obtain ⟨N3, hN3⟩ : ∃ N, N = (mutsR (.mk 9 0 [.mk k1 n1 s1])).length := ⟨_, rfl⟩
  obtain ⟨N4, hN4⟩ : ∃ N, N = (mutsR (.mk 7 0 [.mk k1 n1 s1, .mk k2 n2 s2])).length := ⟨_, rfl⟩
  have ML : Hid (∀ z, (mutsR z).length ≤ 600) := fun z => by
    unfold mutsR; split
    · have := muts_le z; have := size_le (by assumption : chkE z = 0); omega
    · simp
  have m1 : N1 ≤ 600 := by rw [hN1]; exact ML.out _
  have m2 : N2 ≤ 600 := by rw [hN2]; exact ML.out _
  have m3 : N3 ≤ 600 := by rw [hN3]; exact ML.out _
  have m4 : N4 ≤ 600 := by rw [hN4]; exact ML.out _
  rw [← hN1, ← hN2, ← hN3, ← hN4]
  have H1 := hid hN1
  have H2 := hid hN2
  have H3 := hid hN3
  have H4 := hid hN4
  clear hN1 hN2 hN3 hN4
  by_cases hc1 : chkE (.mk k1 n1 s1) = 0
  · have e1 : E1 = .nilIface := by rw [HE1.out, hc1]; rfl
    subst e1
    by_cases hc2 : chkE (.mk k2 n2 s2) = 0
    · have e2 : E2 = .nilIface := by rw [HE2.out, hc2]; rfl
      subst e2
      have P1 : Hid (N1 = (Ex.mk k1 n1 s1).muts.length) := by show _ = _; rw [H1.out]; unfold mutsR; rw [if_pos hc1]
      have P2 : Hid (N2 = (Ex.mk k2 n2 s2).muts.length) := by show _ = _; rw [H2.out]; unfold mutsR; rw [if_pos hc2]
      clear hc1 hc2
      by_cases hc3 : chkE (.mk 9 0 [.mk k1 n1 s1]) = 0
      · have e3 : E3 = .nilIface := by rw [HE3.out, hc3]; rfl
        subst e3
        have q3 : N3 = N1 + 1 := by rw [H3.out, P1.out]; unfold mutsR; rw [if_pos hc3, muts_not]
        have d3 : ((N3 : Int) == (N1 : Int) + 1) = true := by simp; omega
        clear hc3 q3
        by_cases hc4 : chkE (.mk 7 0 [.mk k1 n1 s1, .mk k2 n2 s2]) = 0
        · have e4 : E4 = .nilIface := by rw [HE4.out, hc4]; rfl
          subst e4
          have q4 : N4 = N1 + N2 + 5 := by rw [H4.out, P1.out, P2.out]; unfold mutsR; rw [if_pos hc4, muts_less]
          have d4 : ((N4 : Int) == (N1 : Int) + (N2 : Int) + 5) = true := by simp; omega
          clear hc4 q4
          go_wp2_with fail
          go_ret
          exact ⟨rfl, K8.out.bel⟩
        · have e4 := HE4.out
          rw [errV_no hc4] at e4
          subst e4
          clear hc4
          go_wp2_with fail
          go_ret
          exact ⟨rfl, K8.out.bel⟩
      · have e3 := HE3.out
        rw [errV_no hc3] at e3
        subst e3
        clear hc3
        by_cases hc4 : chkE (.mk 7 0 [.mk k1 n1 s1, .mk k2 n2 s2]) = 0
        · have e4 : E4 = .nilIface := by rw [HE4.out, hc4]; rfl
          subst e4
          have q4 : N4 = N1 + N2 + 5 := by rw [H4.out, P1.out, P2.out]; unfold mutsR; rw [if_pos hc4, muts_less]
          have d4 : ((N4 : Int) == (N1 : Int) + (N2 : Int) + 5) = true := by simp; omega
          clear hc4 q4
          go_wp2_with fail
          go_ret
          exact ⟨rfl, K8.out.bel⟩
        · have e4 := HE4.out
          rw [errV_no hc4] at e4
          subst e4
          clear hc4
          go_wp2_with fail
          go_ret
          exact ⟨rfl, K8.out.bel⟩
    · have e2 := HE2.out
      rw [errV_no hc2] at e2
      subst e2
      clear hc2 hc1
      go_wp2_with fail
      go_ret
      exact ⟨rfl, K8.out.bel⟩
  · have e1 := HE1.out
    rw [errV_no hc1] at e1
    subst e1
    clear hc1
    go_wp2_with fail
    go_ret
    exact ⟨rfl, K8.out.bel⟩
end Go.Proofs.YtcifglaklligfaaDoor
