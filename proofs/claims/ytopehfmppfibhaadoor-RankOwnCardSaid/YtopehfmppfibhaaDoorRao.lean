/- The law RankOwn: it returns true, and all that the call was given reads as before. Condition: errors.errorType holds its handle. -/
import Derived.Test.YtopehfmppfibhaaDoorRka
import Derived.Test.YtopehfmppfibhaaDoorNta
import Derived.Test.YtopehfmppfibhaaDoorGjs
import Derived.Test.YtopehfmppfibhaaDoorSpo
import Derived.Test.YtopehfmppfibhaaDoorIna
import Derived.Test.YtopehfmppfibhaaDoorAst
import Derived.Deep.QuietTactic
import Derived.BigQuiet
namespace Go.Proofs.YtopehfmppfibhaaDoor
open Go.RowKit Go.Deep
set_option maxRecDepth 100000 in
set_option maxHeartbeats 4000000 in
theorem rankOwn_walk (g : Ge) (vg : Value) (i : Int) (l : List Int) (v : Value) (x : Int) (W : World) (hL : Laid W) (hg : ∃ u x y c, vg = .agg #[u, x, y, c] ∧ GeIn (fun b => b < W.heap.size) W g u x y c) (hv : IntsIn .i64 (fun b => b < W.heap.size) W v l) (hz : l.length * 8 ≤ 140737488351232) :
    Calls Tryd.prog 4 #[vg, .int .i64 i, v, .int .i64 x] W (LawPost W) := by
  obtain ⟨u1, u2, u3, u4, rfl, hg⟩ := hg
  have HL := hid hL
  have HG := hid hg
  have HV := hid hv
  have WF : Hid (∀ z ∈ l, (Lit.int .i64 z).wf = true) := by obtain ⟨_, _, _, _, h, _⟩ := hv; exact h
  have RA := hid (rank_any g l)
  have NA := hid (nth_any g i)
  obtain ⟨QS, q20⟩ := nthL_small (g := g) (i := i)
  obtain ⟨q, hq⟩ : ∃ q, q = nthL g i := ⟨_, rfl⟩
  rw [← hq] at QS q20
  have QW : Hid (∀ z ∈ q, (Lit.int .i64 z).wf = true) := wf1000 QS
  have HQ := hid hq
  obtain ⟨cN, hcN⟩ : ∃ cN, cN = nthE g i := ⟨_, rfl⟩
  have HCN := hid hcN
  obtain ⟨cR, hcR⟩ : ∃ cR, cR = rankE g l := ⟨_, rfl⟩
  have HCR := hid hcR
  obtain ⟨k, a, b, s⟩ := g
  generalize hG : Ge.mk k a b s = G at HG RA NA HQ HCN HCR
  obtain ⟨A, cp, rfl, rfl, rfl, rfl, _, _, _⟩ := hg.box
  obtain ⟨Az, cz, rfl, _, _, _⟩ := hv
  have B0 : Hid (Below W.heap.size W (W.alloc (.cells #[.int .i64 k, .int .i64 a, .int .i64 b, .slice A s.length cp] 24))) := (Below.refl _ _).alloc (Nat.le_refl _) _
  have X0 := hid (Has.new W (.cells #[.int .i64 k, .int .i64 a, .int .i64 b, .slice A s.length cp] 24))
  have ln : l.length ≤ 17592186043904 := by omega
  clear hL hg hG hz hq hcN hcR QS
  go_enter Tryd.func4, Tryd.ntmps4
  go_wp2_with fail
  refine (copy_any l (fun b => b < W.heap.size) _ _ (fun b h => by simp; omega) (HV.out.keep (Same.of_below B0.out fun b h => h)) (by omega)).mono ?_
  rintro e w1 ⟨v1, rfl, hO, hb⟩
  have s1 := hb.size
  simp only [World.size_alloc] at s1
  have B1 := hid (B0.out.trans (hb.mono (by simp)))
  have X1 := hid (Has.below X0.out hb (by simp))
  have I1 := hid ((ints_of_own hO WF.out).more (F' := fun b => b < w1.heap.size) fun b h => h.2)
  obtain ⟨A1, c1, rfl, _, _⟩ := own_slice1 hO
  have y0 := Has.cell X1.out 0
  have y1 := Has.cell X1.out 1
  have y2 := Has.cell X1.out 2
  have y3 := Has.cell X1.out 3
  simp at y0 y1 y2 y3
  clear hO hb X0 B0
  go_wp2_with fail
  refine (RA.out (fun b => b < w1.heap.size) _ _ _ _ _ w1 (fun b h => h) (GeIn.more (fun b hb => by omega) _ (GeIn.keep (Same.of_below B1.out fun b h => h) _ HG.out)) I1.out).mono ?_
  rintro e w2 ⟨⟨r2, rfl⟩, hb⟩
  rw [← HCR.out]
  have s2 := hb.size
  have P2 := hid hb
  have X2 := hid (Has.below X1.out hb (by omega))
  clear hb y0 y1 y2 y3 X1
  have y0 := Has.cell X2.out 0
  have y1 := Has.cell X2.out 1
  have y2 := Has.cell X2.out 2
  have y3 := Has.cell X2.out 3
  simp at y0 y1 y2 y3
  go_wp2_with fail
  refine (NA.out (fun b => b < W.heap.size) _ _ _ _ w2 (fun b h => by omega) (GeIn.keep (Same.of_below (B1.out.trans (P2.out.mono (by omega))) fun b h => h) _ HG.out)).mono ?_
  rintro e w3 ⟨v3, rfl, hO, hb⟩
  rw [← HQ.out] at hO
  rw [← HCN.out]
  have s3 := hb.size
  have P3 := hid (P2.out.trans (hb.mono s2))
  have X3 := hid (Has.below X2.out hb (by omega))
  have O3 := hid hO
  obtain ⟨A3, c3, rfl, _, _⟩ := own_slice1 hO
  clear hb hO y0 y1 y2 y3 X2 P2
  go_wp2_with fail
  refine (Count_just w3).mono ?_
  rintro e w4 ⟨rfl, hb⟩
  have P4 := hid (P3.out.trans (hb.mono (by omega)))
  have O4 := hid (own_below O3.out hb)
  have s4 := hb.size
  have X4 := hid (Has.below X3.out hb (by omega))
  clear hb X3 P3
  go_wp2_with fail
  refine (ints_any l l (fun _ => True) _ _ w4 ((I1.out.keep (Same.of_below P4.out fun b h => h)).more fun _ _ => trivial) ((HV.out.keep (Same.of_below (B1.out.trans (P4.out.mono (by omega))) fun b h => h)).more fun _ _ => trivial)).mono ?_
  rintro e w5 ⟨rfl, n5, rfl⟩
  rw [show decide (l = l) = true from decide_eq_true rfl]
  have P5 := hid (below_drewN P4.out n5)
  have O5 := hid (own_below O4.out (below_drewN (Below.refl _ _) n5))
  have s5 : w3.heap.size ≤ (w4.drewN n5).heap.size := s4
  have X5 : Hid ((w4.drewN n5).heap[W.heap.size]? = _) := X4.out
  generalize w4.drewN n5 = w5 at *
  clear P4 O4 s4 X4
  have I5 := hid ((ints_of_own O5.out QW.out).more (F' := fun b => b < w5.heap.size) fun b h => h.2)
  go_wp2_with fail
  refine (copy_any q (fun b => b < w5.heap.size) _ w5 (fun b h => h) I5.out (by omega)).mono ?_
  rintro e w6 ⟨v6, rfl, hO, hb⟩
  have s6 := hb.size
  have P6 := hid (P5.out.trans (hb.mono (by omega)))
  have O6 := hid (own_below O5.out hb)
  have LO5 := hid (own_lt O5.out)
  have V6 := hid (ints_of_own hO QW.out)
  have X6 := hid (Has.below X5.out hb (by omega))
  obtain ⟨A6, c6, rfl, _, _⟩ := own_slice1 hO
  clear hO hb I5 P5 X5
  go_wp2_with fail
  refine (spoil_any x q w2.heap.size _ w6 O6.out (by omega)).mono ?_
  rintro e w7 ⟨rfl, _, hg⟩
  have s7 := hg.size
  have P7 := hid (P6.out.grown hg (by omega) (fun b hb => by have := own_ge O6.out b hb; omega))
  have V7 := hid (V6.out.keep (w' := w7) fun b hb => hg.block b hb.2 (fun e => by have := LO5.out b e.symm; omega))
  have X7 := hid ((hg.block W.heap.size (by omega) (fun e => by have := own_ge O6.out _ e.symm; omega)).trans X6.out)
  have B7 := hid (B1.out.trans (P7.out.mono (by omega)))
  clear hg P6 O6 V6 LO5 O5 X6
  have y0 := Has.cell X7.out 0
  have y1 := Has.cell X7.out 1
  have y2 := Has.cell X7.out 2
  have y3 := Has.cell X7.out 3
  simp at y0 y1 y2 y3
  go_wp2_with fail
  refine (NA.out (fun b => b < W.heap.size) _ _ _ _ w7 (fun b h => by have := B7.out.size; omega) (GeIn.keep (Same.of_below B7.out fun b h => h) _ HG.out)).mono ?_
  rintro e w8 ⟨v8, rfl, hO, hb⟩
  rw [← HQ.out] at hO
  rw [← HCN.out]
  have s8 := hb.size
  have B8 := hid (B7.out.trans (hb.mono (by have := B7.out.size; omega)))
  have X8 := hid (Has.below X7.out hb (by omega))
  have N8 := hid (ints_of_own hO QW.out)
  have V8 := hid (V7.out.keep (Same.of_below hb fun b h => by have := h.2; omega))
  obtain ⟨A8, c8, rfl, _, _⟩ := own_slice1 hO
  clear hb hO y0 y1 y2 y3 X7
  go_wp2_with fail
  refine (ints_any q q (fun _ => True) _ _ w8 (N8.out.more fun _ _ => trivial) (V8.out.more fun _ _ => trivial)).mono ?_
  rintro e w9 ⟨rfl, n9, rfl⟩
  rw [show decide (q = q) = true from decide_eq_true rfl]
  have B9 := hid (below_drewN B8.out n9)
  have s9 : w7.heap.size ≤ (w8.drewN n9).heap.size := s8
  have X9 : Hid ((w8.drewN n9).heap[W.heap.size]? = _) := X8.out
  generalize w8.drewN n9 = w9 at *
  clear B8 X8
  go_wp2_with fail
  refine (stold_any cN cN w9 (HL.out.below B9.out)).mono ?_
  rintro e w10 ⟨rfl, hb⟩
  have B10 := hid (B9.out.trans (hb.mono (by have := B9.out.size; omega)))
  have X10 := hid (Has.below X9.out hb (by omega))
  have s10 := hb.size
  clear hb X9
  rw [show decide (cN = cN) = true from decide_eq_true rfl]
  have y0 := Has.cell X10.out 0
  have y1 := Has.cell X10.out 1
  have y2 := Has.cell X10.out 2
  have y3 := Has.cell X10.out 3
  simp at y0 y1 y2 y3
  go_wp2_with fail
  refine (RA.out (fun b => b < W.heap.size) _ _ _ _ _ w10 (fun b h => by have := B10.out.size; omega) (GeIn.keep (Same.of_below B10.out fun b h => h) _ HG.out) (HV.out.keep (Same.of_below B10.out fun b h => h))).mono ?_
  rintro e w11 ⟨⟨r11, rfl⟩, hb⟩
  rw [← HCR.out]
  have B11 := hid (B10.out.trans (hb.mono (by have := B10.out.size; omega)))
  clear hb
  go_wp2_with fail
  refine (stold_any cR cR w11 (HL.out.below B11.out)).mono ?_
  rintro e w12 ⟨rfl, hb⟩
  have B12 := hid (B11.out.trans (hb.mono (by have := B11.out.size; omega)))
  clear hb
  rw [show decide (cR = cR) = true from decide_eq_true rfl]
  go_wp2_with fail
  go_ret
  exact ⟨rfl, B12.out⟩
end Go.Proofs.YtopehfmppfibhaaDoor
