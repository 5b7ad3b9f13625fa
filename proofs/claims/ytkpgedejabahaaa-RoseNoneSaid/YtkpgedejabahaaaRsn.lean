/- RoseNone returns true: of what is mended of nothing rose.Less tells no tape, and of whatever is the same neither. No conditions. -/
import Derived.Test.YtkpgedejabahaaaRls
import Derived.Test.YtkpgedejabahaaaIna
import Derived.Test.YtkpgedejabahaaaGnw
namespace Go.Proofs.Ytkpgedejabahaaa
open Go.RowKit Go.Deep
theorem mendF_zero {t : List Int} (h : ∀ z ∈ t, z = 0) : mendF t = mendF [] := by
  funext out m
  have e : ∀ n, clampT t n m = clampT [] n m := fun n => by
    unfold clampT
    rw [at0_zero h]
    split
    · rw [if_neg (by simp)]; omega
    · rw [if_neg (by simp)]
  unfold mendF
  rw [e]
theorem mendL_zero {g : Ge} {t : List Int} (h : ∀ z ∈ t, z = 0) : mendL g t = mendL g [] := by
  unfold mendL
  rw [mendF_zero h]
theorem less_mended (g : Ge) (t : List Int) (F : Nat → Prop) (u v x c lv : Value) (w : World) (hF : ∀ b, F b → b < w.heap.size) (hx : GeIn F w g u v x c) (hl : IntsIn .i64 F w lv (mendL g t)) (hc : chkG g = 0) :
    Calls Try.prog 11 #[.agg #[u, v, x, c], lv] w (LessPost (mendL g t = mendL g []) w) := by
  obtain ⟨z, hz⟩ := replay_mendL g t hc
  exact less_any g (mendL g t) z _ F u v x c lv w hF hx hl hc hz (mendL_range g t hc) (mendL_len g t hc) fun h => by
    rw [h]
    exact ⟨(mendL_spec g []).2.2.2 rfl, fun t ht => mendL_zero ht⟩
set_option maxRecDepth 100000 in
set_option maxHeartbeats 2000000 in
theorem roseNone_walk (g : Ge) (vg : Value) (zs : List Int) (v : Value) (W : World) (hg : ∃ u x y c, vg = .agg #[u, x, y, c] ∧ GeIn (fun b => b < W.heap.size) W g u x y c) (h : IntsIn .i64 (fun b => b < W.heap.size) W v zs) :
    Calls Try.prog 5 #[vg, v] W (LawPost W) := by
  obtain ⟨u1, u2, u3, u4, rfl, hg⟩ := hg
  have HG := hid hg
  have H := hid h
  have MA := hid (mend_any g)
  have LM := hid (less_mended g)
  have WF : Hid (∀ t, chkG g = 0 → ∀ z ∈ mendL g t, (Lit.int .i64 z).wf = true) := fun t hc => wf1000 (mendL_range g t hc)
  have PF : Hid (∀ t, chkG g = 0 → (mendL g t).length ≤ 1000000000) := fun t hc => mendL_len g t hc
  have MR : Hid (∀ t, chkG g = 0 → mendR g t = mendL g t) := fun t h => by unfold mendR; rw [if_pos h]
  obtain ⟨k, a, b, s⟩ := g
  generalize hG : Ge.mk k a b s = G at HG MA MR PF LM WF
  obtain ⟨A, cp, rfl, rfl, rfl, rfl, _, _, _⟩ := hg.box
  obtain ⟨Az, cz, rfl, _, _, _⟩ := h
  have B0 : Hid (Below W.heap.size W (W.alloc (.cells #[.int .i64 k, .int .i64 a, .int .i64 b, .slice A s.length cp] 24))) := (Below.refl _ _).alloc (Nat.le_refl _) _
  have X0 := hid (Has.new W (.cells #[.int .i64 k, .int .i64 a, .int .i64 b, .slice A s.length cp] 24))
  clear hg hG
  go_enter Try.func5, Try.ntmps5
  go_wp2_with fail
  refine (just_any _).mono ?_
  rintro e w1 ⟨rfl, hb⟩
  have B1 := hid (B0.out.trans (hb.mono (by simp)))
  have X1 := hid (Has.below X0.out hb (by simp))
  have x0 := Has.cell X1.out 0
  have x1 := Has.cell X1.out 1
  have x2 := Has.cell X1.out 2
  have x3 := Has.cell X1.out 3
  simp at x0 x1 x2 x3
  clear hb X0 B0
  go_wp2_with fail
  refine (MA.out [] (fun b => b < W.heap.size) _ _ _ _ _ w1 (fun b hb => by have := B1.out.size; omega) (GeIn.keep (Same.of_below B1.out fun b h => h) _ HG.out) IntsIn.nil_).mono ?_
  rintro e w2 ⟨v6, rfl, o6, hb⟩
  have O6 := hid o6
  have B2 := hid (B1.out.trans (hb.mono B1.out.size))
  have X2 := hid (Has.below X1.out hb (Has.lt X1.out))
  clear hb o6 X1 B1 x0 x1 x2 x3
  by_cases hc : chkG G = 0
  · rw [hc, errV_0]
    have HC := hid hc
    rw [MR.out [] hc] at O6
    obtain ⟨A6, c6, rfl⟩ := own_slice3 O6.out
    have I6 := hid (own_intsR O6.out (WF.out [] hc))
    have lt6 := hid (own_lt O6.out)
    clear hc O6
    have x0 := Has.cell X2.out 0
    have x1 := Has.cell X2.out 1
    have x2 := Has.cell X2.out 2
    have x3 := Has.cell X2.out 3
    simp at x0 x1 x2 x3
    go_wp2_with fail
    refine (LM.out [] (fun b => b < w2.heap.size) _ _ _ _ _ w2 (fun b h => h) (GeIn.more (fun b hb => by have := B2.out.size; omega) _ (GeIn.keep (Same.of_below B2.out fun b h => h) _ HG.out)) (I6.out.more fun b hb => lt6.out b hb) HC.out).mono ?_
    rintro e w3 ⟨A8, n8, c8, rfl, hb, hn⟩
    obtain rfl : n8 = 0 := hn rfl
    have s3 := hb.size
    have B3 := hid (B2.out.trans (hb.mono B2.out.size))
    have X3 := hid (Has.below X2.out hb (Has.lt X2.out))
    have J6 := hid (I6.out.keep (Same.of_below hb fun b hb => lt6.out b hb))
    clear hb hn I6 X2 B2 x0 x1 x2 x3
    have x0 := Has.cell X3.out 0
    have x1 := Has.cell X3.out 1
    have x2 := Has.cell X3.out 2
    have x3 := Has.cell X3.out 3
    simp at x0 x1 x2 x3
    go_wp2_with fail
    refine (MA.out zs (fun b => b < W.heap.size) _ _ _ _ _ w3 (fun b hb => by have := B3.out.size; omega) (GeIn.keep (Same.of_below B3.out fun b h => h) _ HG.out) (H.out.keep (Same.of_below B3.out fun b h => h))).mono ?_
    rintro e w4 ⟨v10, rfl, o10, hb⟩
    rw [HC.out, errV_0]
    rw [MR.out zs HC.out] at o10
    obtain ⟨A10, c10, rfl⟩ := own_slice3 o10
    have I10 := hid (own_intsR o10 (WF.out zs HC.out))
    have lt10 := hid (own_lt o10)
    have s4 := hb.size
    have B4 := hid (B3.out.trans (hb.mono B3.out.size))
    have X4 := hid (Has.below X3.out hb (Has.lt X3.out))
    have K6 := hid (J6.out.keep (Same.of_below hb fun b hb => by have := lt6.out b hb; omega))
    clear hb o10 J6 X3 B3 x0 x1 x2 x3
    have x0 := Has.cell X4.out 0
    have x1 := Has.cell X4.out 1
    have x2 := Has.cell X4.out 2
    have x3 := Has.cell X4.out 3
    simp at x0 x1 x2 x3
    go_wp2_with fail
    refine (LM.out zs (fun b => b < w4.heap.size) _ _ _ _ _ w4 (fun b h => h) (GeIn.more (fun b hb => by have := B4.out.size; omega) _ (GeIn.keep (Same.of_below B4.out fun b h => h) _ HG.out)) (I10.out.more fun b hb => lt10.out b hb) HC.out).mono ?_
    rintro e w5 ⟨A12, n12, c12, rfl, hb, hn⟩
    have HN := hid hn
    have B5 := hid (B4.out.trans (hb.mono B4.out.size))
    have L6 := hid (K6.out.keep (Same.of_below hb fun b hb => by have := lt6.out b hb; omega))
    have L10 := hid (I10.out.keep (Same.of_below hb fun b hb => lt10.out b hb))
    clear hb hn K6 I10 x0 x1 x2 x3
    go_wp2_with fail
    refine (ints_any _ _ (fun b => True) _ _ w5 (L10.out.more fun b _ => trivial) (L6.out.more fun b _ => trivial)).mono ?_
    rintro e w6 ⟨rfl, q, rfl⟩
    by_cases he : mendL G zs = mendL G []
    · obtain rfl : n12 = 0 := HN.out he
      simp only [he, decide_true]
      clear he HN
      go_wp2_with fail
      go_ret
      exact ⟨rfl, below_drewN B5.out _⟩
    · simp only [he, decide_false]
      clear he HN
      have PF2 := hid (below_drewN B5.out q)
      rcases Nat.eq_zero_or_pos n12 with rfl | h0
      · go_wp2_with fail
        go_ret
        exact ⟨rfl, PF2.out⟩
      · have d0 : ((n12 : Int) == 0) = false := by simp; omega
        have d1 : ¬ n12 = 0 := by omega
        go_wp2_with fail
        go_ret
        exact ⟨rfl, PF2.out⟩
  · rw [errV_no hc]
    clear hc
    go_wp2_with fail
    go_ret
    exact ⟨rfl, B2.out⟩
end Go.Proofs.Ytkpgedejabahaaa
