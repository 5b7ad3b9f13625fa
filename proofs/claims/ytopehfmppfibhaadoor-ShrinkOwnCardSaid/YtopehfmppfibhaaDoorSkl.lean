/- The law ShrinkOwn: it returns true, and all that the call was given reads as before. Condition: the two listed variables hold what they list. -/
import Derived.Test.YtopehfmppfibhaaDoorShw
import Derived.Test.YtopehfmppfibhaaDoorSpo
import Derived.Test.YtopehfmppfibhaaDoorIna
import Derived.Test.YtopehfmppfibhaaDoorAst
import Derived.Test.YtopehfmppfibhaaDoorBas
namespace Go.Proofs.YtopehfmppfibhaaDoor
open Go.RowKit Go.Deep
def LawPost (W : World) (e : Ending) (w' : World) : Prop := e = .returned (.bool true) ∧ Below W.heap.size W w'
theorem fact_seven : evalR (.mk 1 7 []) (.mk false 0 []) = (7, 0) := by decide +kernel
theorem va_leafS {F : Nat → Prop} {w : World} {k : Bool} {n : Int} (hn : (Lit.int .i64 n).wf = true) : VaIn F w (.mk k n []) (.bool k) (.int .i64 n) (.slice none 0 0) := by
  rw [VaIn]; exact ⟨rfl, rfl, hn, none, 0, rfl, by simp, by simp⟩
set_option maxRecDepth 100000 in
set_option maxHeartbeats 4000000 in
theorem shrinkOwn_walk (g : Ge) (vg : Value) (x : Ex) (vx : Value) (l : List Int) (v : Value) (y : Int) (W : World) (hL : LaidT W ∧ Laid W) (hg : ∃ u x y c, vg = .agg #[u, x, y, c] ∧ GeIn (fun b => b < W.heap.size) W g u x y c) (hx : ∃ a b c, vx = .agg #[a, b, c] ∧ ExIn (fun b => b < W.heap.size) W x a b c) (hv : IntsIn .i64 (fun b => b < W.heap.size) W v l) (hz : l.length * 8 ≤ 140737488351232) :
    Calls Tryd.prog 6 #[vg, vx, v, .int .i64 y] W (LawPost W) := by
  obtain ⟨u1, u2, u3, u4, rfl, hg⟩ := hg
  obtain ⟨e1, e2, e3, rfl, hx⟩ := hx
  have HL := hid hL.2
  have HT := hid hL.1
  have HG := hid hg
  have HX := hid hx
  have HV := hid hv
  have WF : Hid (∀ z ∈ l, (Lit.int .i64 z).wf = true) := by obtain ⟨_, _, _, _, h, _⟩ := hv; exact h
  have WA := hid (walk_any g x l)
  have WO := hid (fun R R' K K' => @walkIs_one g x l R R' K K')
  obtain ⟨ce, hce⟩ : ∃ ce, ce = walkE g x l := ⟨_, rfl⟩
  have HCE := hid hce
  obtain ⟨k, a, b, s⟩ := g
  generalize hG : Ge.mk k a b s = G at HG WA WO HCE
  obtain ⟨A, cp, rfl, rfl, rfl, rfl, _, _, _⟩ := hg.box
  obtain ⟨xk, xn, xs⟩ := x
  generalize hXX : Ex.mk xk xn xs = X at HX WA WO HCE
  obtain ⟨Ax, cx, rfl, rfl, rfl, _, _, _⟩ := hx.box
  obtain ⟨Az, cz, rfl, _, _, _⟩ := hv
  have B0 : Hid (Below W.heap.size W ((W.alloc (.cells #[.int .i64 k, .int .i64 a, .int .i64 b, .slice A s.length cp] 24)).alloc (.cells #[.int .i64 xk, .int .i64 xn, .slice Ax xs.length cx] 53))) := ((Below.refl _ _).alloc (Nat.le_refl _) _).alloc (by simp) _
  have X0 : Hid (((W.alloc (.cells #[.int .i64 k, .int .i64 a, .int .i64 b, .slice A s.length cp] 24)).alloc (.cells #[.int .i64 xk, .int .i64 xn, .slice Ax xs.length cx] 53)).heap[W.heap.size]? = some (.cells #[.int .i64 k, .int .i64 a, .int .i64 b, .slice A s.length cp] 24 (0, 0))) := Has.alloc (Has.new _ _) _
  have Y0 : Hid (((W.alloc (.cells #[.int .i64 k, .int .i64 a, .int .i64 b, .slice A s.length cp] 24)).alloc (.cells #[.int .i64 xk, .int .i64 xn, .slice Ax xs.length cx] 53)).heap[W.heap.size + 1]? = some (.cells #[.int .i64 xk, .int .i64 xn, .slice Ax xs.length cx] 53 (0, 0))) := Has.newAt _ _ (by simp)
  have ln : l.length ≤ 17592186043904 := by omega
  clear hL hg hx hG hXX hz hce
  go_enter Tryd.func6, Tryd.ntmps6
  go_wp2_with fail
  refine (copy_any l (fun b => b < W.heap.size) _ _ (fun b h => by simp; omega) (HV.out.keep (Same.of_below B0.out fun b h => h)) (by omega)).mono ?_
  rintro e w1 ⟨v1, rfl, hO, hb⟩
  have s1 := hb.size
  simp only [World.size_alloc] at s1
  have B1 := hid (B0.out.trans (hb.mono (by simp; omega)))
  have X1 := hid (Has.below X0.out hb (by simp; omega))
  have Y1 := hid (Has.below Y0.out hb (by simp))
  have I1 := hid ((ints_blockC hO WF.out).more (F' := fun b => b < w1.heap.size) fun b h => own_lt hO b h)
  obtain ⟨A1, c1, rfl, _, _⟩ := own_slice1 hO
  have y0 := Has.cell X1.out 0
  have y1 := Has.cell X1.out 1
  have y2 := Has.cell X1.out 2
  have y3 := Has.cell X1.out 3
  have z0 := Has.cell Y1.out 0
  have z1 := Has.cell Y1.out 1
  have z2 := Has.cell Y1.out 2
  simp at y0 y1 y2 y3 z0 z1 z2
  clear hO hb X0 Y0 B0
  go_wp2_with fail
  refine (WA.out (fun b => b < w1.heap.size) _ _ _ _ _ _ _ _ w1 (fun b h => h) (GeIn.more (fun b hb => by omega) _ (GeIn.keep (Same.of_below B1.out fun b h => h) _ HG.out)) (ExIn.more (fun b hb => by omega) _ (ExIn.keep (Same.of_below B1.out fun b h => h) _ HX.out)) I1.out (HT.out.below B1.out)).mono ?_
  rintro e w2 ⟨v2, K, R, rfl, hW, hO, rl, rr, hb⟩
  rw [← HCE.out]
  have HW := hid hW
  have RR := hid rr
  have s2 := hb.size
  have P2 := hid hb
  have O2 := hid hO
  obtain ⟨A2, c2, rfl, _, _⟩ := own_slice1 hO
  have X2 := hid (Has.below X1.out hb (by omega))
  have Y2 := hid (Has.below Y1.out hb (by omega))
  clear hb hO hW rr y0 y1 y2 y3 z0 z1 z2 X1 Y1
  go_wp2_with fail
  refine (eval_any (.mk 1 7 []) (.mk false 0 []) (fun _ => False) _ _ _ _ _ _ w2 (fun b h => h.elim) (ex_leaf (by decide) (by decide)) (va_leafS (by decide)) (fun w3 hb => tcheck_any (.mk 1 7 []) (fun _ => False) _ _ _ w3 (fun b h => h.elim) (ex_leaf (by decide) (by decide)) ((HT.out.below (B1.out.trans (P2.out.mono (by omega)))).below hb))).mono ?_
  rintro e w3 ⟨rfl, hb⟩
  rw [fact_seven, errV_0]
  have s3 := hb.size
  have P3 := hid (P2.out.trans (hb.mono s2))
  have O3 := hid (own_below O2.out hb)
  have X3 := hid (Has.below X2.out hb (by omega))
  have Y3 := hid (Has.below Y2.out hb (by omega))
  have I3 := hid (ints_blockC O3.out (wf1000 RR.out))
  have OL := hid (own_lt O2.out)
  clear hb P2 O2 X2 Y2
  go_wp2_with fail
  refine (copy_any R (fun b => b < w2.heap.size) _ w3 (fun b h => by omega) (I3.out.more fun b h => OL.out b h) (by omega)).mono ?_
  rintro e w4 ⟨v4, rfl, hO, hb⟩
  have s4 := hb.size
  have P4 := hid (P3.out.trans (hb.mono (by omega)))
  have O4 := hid (own_below O3.out hb)
  have X4 := hid (Has.below X3.out hb (by omega))
  have Y4 := hid (Has.below Y3.out hb (by omega))
  have C4 := hid hO
  obtain ⟨A4, c4, rfl, _, _⟩ := own_slice1 hO
  have AP := hid (own_apart O3.out hO (Nat.le_refl _))
  clear hO hb P3 O3 X3 Y3 I3
  go_wp2_with fail
  refine (spoil_any y R w1.heap.size _ w4 O4.out (by omega)).mono ?_
  rintro e w5 ⟨rfl, _, hg⟩
  have s5 := hg.size
  have P5 : Hid (Below w1.heap.size w4 w5) := (Below.refl _ _).grown hg (by omega) (own_ge O4.out)
  have X5 := hid (Has.below X4.out P5.out (by omega))
  have Y5 := hid (Has.below Y4.out P5.out (by omega))
  have C5 : Hid (w5.ownsRow w3.heap.size 3 1 (.slice A4 R.length c4) R.length (R.map (Value.int .i64))) := own_keep C4.out fun b hb => hg.block b (own_lt C4.out b hb) fun e => by
    rcases AP.out with h | h
    · rw [h] at e; cases e
    · exact h (e.symm.trans hb.symm)
  have B5 : Hid (Below W.heap.size W w5) := B1.out.trans ((P4.out.trans P5.out).mono (by omega))
  have I5 := hid (I1.out.keep (Same.of_below (P4.out.trans P5.out) fun b h => h))
  clear hg O4 C4 AP X4 Y4 P4 P5 I1 B1
  go_wp2_with fail
  refine (ints_any l l (fun _ => True) _ _ w5 (I5.out.more fun _ _ => trivial) ((HV.out.keep (Same.of_below B5.out fun b h => h)).more fun _ _ => trivial)).mono ?_
  rintro e w6 ⟨rfl, q, rfl⟩
  rw [show decide (l = l) = true from decide_eq_true rfl]
  have B6 := hid (below_drewN B5.out q)
  have C6 : Hid ((w5.drewN q).ownsRow w3.heap.size 3 1 (.slice A4 R.length c4) R.length (R.map (Value.int .i64))) := own_keep C5.out fun _ _ => rfl
  have X6 : Hid ((w5.drewN q).heap[W.heap.size]? = _) := X5.out
  have Y6 : Hid ((w5.drewN q).heap[W.heap.size + 1]? = _) := Y5.out
  have s6 : w4.heap.size ≤ (w5.drewN q).heap.size := s5
  generalize w5.drewN q = w6 at *
  have y0 := Has.cell X6.out 0
  have y1 := Has.cell X6.out 1
  have y2 := Has.cell X6.out 2
  have y3 := Has.cell X6.out 3
  have z0 := Has.cell Y6.out 0
  have z1 := Has.cell Y6.out 1
  have z2 := Has.cell Y6.out 2
  simp at y0 y1 y2 y3 z0 z1 z2
  clear B5 C5 X5 Y5 I5
  go_wp2_with fail
  refine (WA.out (fun b => b < W.heap.size) _ _ _ _ _ _ _ _ w6 (fun b h => by omega) (GeIn.keep (Same.of_below B6.out fun b h => h) _ HG.out) (ExIn.keep (Same.of_below B6.out fun b h => h) _ HX.out) (HV.out.keep (Same.of_below B6.out fun b h => h)) (HT.out.below B6.out)).mono ?_
  rintro e w7 ⟨v7, K7, R7, rfl, hW, hO, _, _, hb⟩
  rw [← HCE.out]
  obtain ⟨hr, hk⟩ := WO.out R7 R K7 K hW HW.out
  subst hr hk
  have B7 := hid (B6.out.trans (hb.mono (by omega)))
  have N7 := hid (ints_blockC hO (wf1000 RR.out))
  have C7 := hid (own_below C6.out hb)
  obtain ⟨A7, c7, rfl, _, _⟩ := own_slice1 hO
  have V7 := hid (ints_blockC C7.out (wf1000 RR.out))
  clear hO hb hW y0 y1 y2 y3 z0 z1 z2
  go_wp2_with fail
  refine (ints_any R7 R7 (fun _ => True) _ _ w7 (N7.out.more fun _ _ => trivial) (V7.out.more fun _ _ => trivial)).mono ?_
  rintro e w8 ⟨rfl, q8, rfl⟩
  rw [show decide (R7 = R7) = true from decide_eq_true rfl]
  have B8 := hid (below_drewN B7.out q8)
  generalize w7.drewN q8 = w8 at *
  clear B7 N7 V7 C7
  go_wp2_with fail
  refine (stold_any ce ce w8 (HL.out.below B8.out)).mono ?_
  rintro e w9 ⟨rfl, hb⟩
  have B9 := hid (B8.out.trans (hb.mono (by have := B8.out.size; omega)))
  clear hb
  rw [show decide (ce = ce) = true from decide_eq_true rfl]
  go_wp2_with fail
  go_ret
  exact ⟨rfl, B9.out⟩
end Go.Proofs.YtopehfmppfibhaaDoor
