/- The law ShrinkStays: it returns true, and all that the call was given reads as before. Condition: the two listed variables hold what they list. -/
import Derived.Test.YtopehfmppfibhaaDoorSkm
import Derived.Test.YtopehfmppfibhaaDoorGjs
import Derived.Test.YtopehfmppfibhaaDoorIna
import Derived.Test.YtopehfmppfibhaaDoorAse
import Derived.Test.YtopehfmppfibhaaDoorBas
namespace Go.Proofs.YtopehfmppfibhaaDoor
open Go.RowKit Go.Deep
theorem LaidT.alloc {w : World} (h : LaidT w) (o : Obj) : LaidT (w.alloc o) := h.below ((Below.refl _ _).alloc (Nat.le_refl _) o)
set_option maxRecDepth 100000 in
set_option maxHeartbeats 4000000 in
theorem shrinkStays_walk (g : Ge) (vg : Value) (l : List Int) (v : Value) (W : World) (hL : LaidT W ∧ Laid W) (hg : ∃ u x y c, vg = .agg #[u, x, y, c] ∧ GeIn (fun b => b < W.heap.size) W g u x y c) (hv : IntsIn .i64 (fun b => b < W.heap.size) W v l) (_hz : l.length * 8 ≤ 140737488351232) :
    Calls Tryd.prog 8 #[vg, v] W (LawPost W) := by
  obtain ⟨u1, u2, u3, u4, rfl, hg⟩ := hg
  have HL := hid hL.2
  have HT := hid hL.1
  have HG := hid hg
  have HV := hid hv
  have MA := hid (mend_any g)
  have MR : Hid (∀ t, chkG g = 0 → mendR g t = mendL g t) := fun t h => by unfold mendR; rw [if_pos h]
  have WA := hid (fun x t => walk_any g x t)
  have LS := hid (less_is g)
  have RM := hid (fun t h => @replR_mended g h t)
  have MG : Hid (∀ t, chkG g = 0 → ∀ z ∈ mendL g t, 0 ≤ z ∧ z ≤ 1000) := fun t h => mendL_range g t h
  have E0 : Hid (∀ t z, replR g t = .ok z → walkE g (.mk 1 0 []) t = 0) := fun t z h => by rw [lit_walk 0 h]; rfl
  have E1 : Hid (∀ t z, replR g t = .ok z → walkE g (.mk 1 1 []) t = 2) := fun t z h => by rw [lit_walk 1 h]; rfl
  have NN := hid (fun n r => @never_noughts g n r)
  have NS := hid (fun r => @never_stop g r)
  have WO := hid (fun n t r => @walks_ok g (.mk 1 0 []) n t r)
  have W0 : Hid (∀ t R K, WalkIs g (.mk 1 0 []) t R K → walkE g (.mk 1 0 []) t = 0 → ∃ n : Nat, Walks g (.mk 1 0 []) n t R ∧ K = wrap64 n) := fun t R K h h0 => h.1 h0
  obtain ⟨k, a, b, s⟩ := g
  generalize hG : Ge.mk k a b s = G at *
  have hg' := hg
  rw [← hG] at hg'
  obtain ⟨A, cp, rfl, rfl, rfl, rfl, _, _, _⟩ := hg'.box
  obtain ⟨Az, cz, rfl, _, _, _⟩ := hv
  have B0 : Hid (Below W.heap.size W (W.alloc (.cells #[.int .i64 k, .int .i64 a, .int .i64 b, .slice A s.length cp] 24))) := (Below.refl _ _).alloc (Nat.le_refl _) _
  have X0 := hid (Has.new W (.cells #[.int .i64 k, .int .i64 a, .int .i64 b, .slice A s.length cp] 24))
  clear hL hg hg' hG
  go_enter Tryd.func8, Tryd.ntmps8
  go_wp2_with fail
  refine (just_any _).mono ?_
  rintro e w1 ⟨rfl, hb⟩
  have s1 := hb.size
  simp only [World.size_alloc] at s1
  have B1 := hid (B0.out.trans (hb.mono (by simp)))
  have X1 := hid (Has.below X0.out hb (by simp))
  have x0 := Has.cell X1.out 0
  have x1 := Has.cell X1.out 1
  have x2 := Has.cell X1.out 2
  have x3 := Has.cell X1.out 3
  simp at x0 x1 x2 x3
  clear hb X0 B0
  go_wp2_with fail
  refine (MA.out l (fun b => b < W.heap.size) _ _ _ _ _ w1 (fun b hb => by omega) (GeIn.keep (Same.of_below B1.out fun b h => h) _ HG.out) (HV.out.keep (Same.of_below B1.out fun b h => h))).mono ?_
  rintro e w2 ⟨vt, rfl, ot, hb⟩
  have s2 := hb.size
  have B2 := hid (B1.out.trans (hb.mono (by omega)))
  have X2 := hid (Has.below X1.out hb (by omega))
  have OT := hid ot
  obtain ⟨At, ct, rfl⟩ := own_slice3 ot
  by_cases hc : chkG G = 0
  case neg =>
    rw [errV_no hc]
    clear hb ot x0 x1 x2 x3 hc
    go_wp2_with fail
    go_ret
    exact ⟨rfl, B2.out⟩
  have HC := hid hc
  have OT2 : Hid (w2.ownsRow w1.heap.size 3 1 (.slice At (mendR G l).length ct) (mendL G l).length ((mendL G l).map (Value.int .i64))) := by have := OT.out; rw [MR.out l hc] at this ⊢; exact this
  rw [MR.out l hc] at OT2 ⊢
  rw [hc, errV_0]
  have y0 := Has.cell X2.out 0
  have y1 := Has.cell X2.out 1
  have y2 := Has.cell X2.out 2
  have y3 := Has.cell X2.out 3
  simp at y0 y1 y2 y3
  clear hb ot x0 x1 x2 x3 hc OT X1 B1
  go_wp2_with fail
  refine (MA.out [] (fun b => b < W.heap.size) _ _ _ _ _ w2 (fun b hb => by omega) (GeIn.keep (Same.of_below B2.out fun b h => h) _ HG.out) IntsIn.nil_).mono ?_
  rintro e w3 ⟨vm, rfl, om, hb⟩
  have s3 := hb.size
  have B3 := hid (B2.out.trans (hb.mono (by omega)))
  have X3 := hid (Has.below X2.out hb (by omega))
  have OT3 := hid (own_below OT2.out hb)
  rw [MR.out [] HC.out] at om
  have OM := hid om
  obtain ⟨Am, cm, rfl⟩ := own_slice3 om
  rw [HC.out, errV_0]
  obtain ⟨T, hT⟩ : ∃ T, T = mendL G l := ⟨_, rfl⟩
  obtain ⟨M, hM⟩ : ∃ M, M = mendL G [] := ⟨_, rfl⟩
  have RT := hid (RM.out l HC.out)
  have RMM := hid (RM.out [] HC.out)
  have GT := hid (MG.out l HC.out)
  have GM := hid (MG.out [] HC.out)
  rw [← hT] at OT3 RT GT ⊢
  rw [← hM] at OM RMM GM NN ⊢
  obtain ⟨zt, hzt⟩ := RT.out
  obtain ⟨zm, hzm⟩ := RMM.out
  have ZT := hid hzt
  have ZM := hid hzm
  have IM := hid (ints_blockC OM.out (wf1000 GM.out))
  have IT := hid (ints_blockC OT3.out (wf1000 GT.out))
  have LT3 := hid (own_lt OT3.out)
  have LM3 := hid (own_lt OM.out)
  have y0 := Has.cell X3.out 0
  have y1 := Has.cell X3.out 1
  have y2 := Has.cell X3.out 2
  have y3 := Has.cell X3.out 3
  simp at y0 y1 y2 y3
  clear hb om hT hM hzt hzm X2 B2 OT2
  have A3 : Hid (Below w3.heap.size w3 (w3.alloc (.cells #[.int .i64 1, .int .i64 0, .slice none 0 0] 53))) := (Below.refl _ _).alloc (Nat.le_refl _) _
  have N3 := hid (Has.new w3 (.cells #[.int .i64 1, .int .i64 0, .slice none 0 0] 53))
  have lw3 : W.heap.size < w3.heap.size := by omega
  go_wp2_with fail
  refine (WA.out (.mk 1 0 []) M (fun b => b < w3.heap.size) _ _ _ _ _ _ _ _ _ (fun b h => by simp; omega) (GeIn.more (fun b hb => by omega) _ (GeIn.keep (Same.of_below (B3.out.trans (A3.out.mono (by omega))) fun b h => h) _ HG.out)) (ex_leaf (by decide) (by decide)) ((IM.out.keep (Same.of_below A3.out LM3.out)).more fun b h => LM3.out b h) (HT.out.below (B3.out.trans (A3.out.mono (by omega))))).mono ?_
  rintro e w4 ⟨v4, K4, R4, rfl, hW, hO, _, _, hb⟩
  rw [E0.out M zm ZM.out, errV_0]
  obtain ⟨n4, hw4, hk4⟩ := W0.out M R4 K4 hW (E0.out M zm ZM.out)
  obtain ⟨hn4, hr4⟩ := NN.out n4 R4 hw4
  subst hn4 hr4
  have k4 : K4 = 0 := by rw [hk4]; simp [wrap64]
  subst k4
  have s4 := hb.size
  simp only [World.size_alloc] at s4
  have P4 := hid (A3.out.trans (hb.mono (by simp)))
  have B4 := hid (B3.out.trans (P4.out.mono (by omega)))
  have X4 := hid (Has.below X3.out P4.out (by omega))
  have N4 := hid (Has.below N3.out hb (by simp))
  have I4 := hid (ints_blockC hO (wf1000 GM.out))
  obtain ⟨A4, c4, rfl⟩ := own_slice3 hO
  have IT4 := hid (IT.out.keep (Same.of_below P4.out LT3.out))
  have IM4 := hid (IM.out.keep (Same.of_below P4.out LM3.out))
  clear hb hO hW hw4 hk4 y0 y1 y2 y3 X3 N3 A3
  go_wp2_with fail
  refine (ints_any R4 R4 (fun _ => True) _ _ w4 (I4.out.more fun _ _ => trivial) (IM4.out.more fun _ _ => trivial)).mono ?_
  rintro e w5 ⟨rfl, q, rfl⟩
  rw [show decide (R4 = R4) = true from decide_eq_true rfl]
  have B5 := hid (below_drewN B4.out q)
  have X5 : Hid ((w4.drewN q).heap[W.heap.size]? = _) := X4.out
  have N5 : Hid ((w4.drewN q).heap[w3.heap.size]? = _) := N4.out
  have IT5 : Hid (IntsIn .i64 _ (w4.drewN q) (.slice At T.length ct) T) := IT4.out.keep fun _ _ => rfl
  have s5 : w3.heap.size + 1 ≤ (w4.drewN q).heap.size := s4
  generalize w4.drewN q = w5 at *
  have y0 := Has.cell X5.out 0
  have y1 := Has.cell X5.out 1
  have y2 := Has.cell X5.out 2
  have y3 := Has.cell X5.out 3
  simp at y0 y1 y2 y3
  clear B4 X4 N4 I4 IT4 IM4 P4
  go_wp2_with fail
  refine (WA.out (.mk 1 1 []) T (fun b => b < w5.heap.size) _ _ _ _ _ _ _ _ w5 (fun b h => h) (GeIn.more (fun b hb => by omega) _ (GeIn.keep (Same.of_below B5.out fun b h => h) _ HG.out)) (ex_leaf (by decide) (by decide)) (IT5.out.more fun b h => by have := LT3.out b h; omega) (HT.out.below B5.out)).mono ?_
  rintro e w6 ⟨v6, K6, R6, rfl, _, hO, _, _, hb⟩
  obtain ⟨A6, c6, rfl⟩ := own_slice3 hO
  rw [E1.out T zt ZT.out]
  have s6 := hb.size
  have B6 := hid (B5.out.trans (hb.mono (by omega)))
  have X6 := hid (Has.below X5.out hb (by omega))
  have N6 := hid (Has.below N5.out hb (by omega))
  have IT6 := hid (IT5.out.keep (Same.of_below hb fun b h => by have := LT3.out b h; omega))
  obtain ⟨e2, he2⟩ : ∃ e2, e2 = errV 2 := ⟨_, rfl⟩
  rw [← he2]
  have HE2 := hid he2
  clear hb hO he2 y0 y1 y2 y3 X5 N5 B5 IT5
  go_wp2_with fail
  rw [HE2.out]
  refine (serror_any 2 2 w6 (HL.out.below B6.out)).mono ?_
  rintro e w7 ⟨rfl, hb⟩
  rw [show decide ((2 : Int) = 2) = true from decide_eq_true rfl]
  have s7 := hb.size
  have B7 := hid (B6.out.trans (hb.mono (by omega)))
  have X7 := hid (Has.below X6.out hb (by omega))
  have N7 := hid (Has.below N6.out hb (by omega))
  have IT7 := hid (IT6.out.keep (Same.of_below hb fun b h => by have := LT3.out b h; omega))
  have y0 := Has.cell X7.out 0
  have y1 := Has.cell X7.out 1
  have y2 := Has.cell X7.out 2
  have y3 := Has.cell X7.out 3
  have z0 := Has.cell N7.out 0
  have z1 := Has.cell N7.out 1
  have z2 := Has.cell N7.out 2
  simp at y0 y1 y2 y3 z0 z1 z2
  clear hb X6 N6 B6 IT6
  go_wp2_with fail
  refine (WA.out (.mk 1 0 []) T (fun b => b < w7.heap.size) _ _ _ _ _ _ _ _ w7 (fun b h => h) (GeIn.more (fun b hb => by omega) _ (GeIn.keep (Same.of_below B7.out fun b h => h) _ HG.out)) (ex_leaf (by decide) (by decide)) (IT7.out.more fun b h => by have := LT3.out b h; omega) (HT.out.below B7.out)).mono ?_
  rintro e w8 ⟨v8, K8, R8, rfl, hW, hO, _, hr8, hb⟩
  rw [E0.out T zt ZT.out, errV_0]
  obtain ⟨n8, hw8, _⟩ := W0.out T R8 K8 hW (E0.out T zt ZT.out)
  obtain ⟨⟨z8, hz8⟩, hst⟩ := WO.out n8 T R8 ⟨zt, ZT.out⟩ hw8
  have LE := hid (NS.out R8 HC.out hst)
  have Z8 := hid hz8
  have s8 := hb.size
  have B8 := hid (B7.out.trans (hb.mono (by omega)))
  have X8 := hid (Has.below X7.out hb (by omega))
  have I8 := hid (ints_blockC hO (wf1000 hr8))
  have L8 := hid (own_lt hO)
  obtain ⟨A8, c8, rfl⟩ := own_slice3 hO
  clear y0 y1 y2 y3
  have y0 := Has.cell X8.out 0
  have y1 := Has.cell X8.out 1
  have y2 := Has.cell X8.out 2
  have y3 := Has.cell X8.out 3
  simp at y0 y1 y2 y3
  clear hb hO hW hw8 hz8 hst hr8 z0 z1 z2 X7 N7 B7 IT7
  go_wp2_with fail
  refine (LS.out R8 (fun b => b < w8.heap.size) _ _ _ _ _ w8 (fun b h => h) (GeIn.more (fun b hb => by omega) _ (GeIn.keep (Same.of_below B8.out fun b h => h) _ HG.out)) (I8.out.more fun b h => L8.out b h)).mono ?_
  rintro e w9 ⟨hb, he⟩
  rw [Z8.out] at he
  obtain ⟨v9, cs9, rfl, hO9, _⟩ := he
  rw [LE.out] at hO9
  obtain ⟨A9, c9, rfl⟩ := own_slice3 hO9
  have B9 := hid (B8.out.trans (hb.mono (by omega)))
  clear hb hO9 y0 y1 y2 y3
  go_wp2_with fail
  go_ret
  exact ⟨rfl, B9.out⟩
end Go.Proofs.YtopehfmppfibhaaDoor
