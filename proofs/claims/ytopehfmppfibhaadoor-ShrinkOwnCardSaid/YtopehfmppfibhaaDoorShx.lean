/- What expr.Fails, shrink.fails and Walk's function value return. Condition: expr.takes holds its numbers. -/
import Derived.Test.YtopehfmppfibhaaDoorEve
import Derived.Test.YtopehfmppfibhaaDoorExt
import Derived.Test.YtopehfmppfibhaaDoorRlx
import Derived.Test.YtopehfmppfibhaaDoorBas
namespace Go.Proofs.YtopehfmppfibhaaDoor
open Go.RowKit Go.Deep
/-- does it fail of a value, and what is wrong -/
def failsX (x : Ex) (v : Va) : Bool × Int := if (evalR x v).2 = 6 then (true, 0) else if (evalR x v).2 ≠ 0 then (false, (evalR x v).2) else (decide ((evalR x v).1 = 0), 0)
theorem eq_zero_zero (w : World) : Sem.run Tryd.prog (binOp BinOp.eql 29 (.iface 60 (.int .i64 6)) (.iface 60 (.int .i64 6))) w = .ok (.bool true) w := by kernel_rfl
theorem eq_nil_zero (w : World) : Sem.run Tryd.prog (binOp BinOp.eql 29 .nilIface (.iface 60 (.int .i64 6))) w = .ok (.bool false) w := by kernel_rfl
theorem eq_no_zero (c : Int) (h : (c == 6) = false) (w : World) : Sem.run Tryd.prog (binOp BinOp.eql 29 (.iface 60 (.int .i64 c)) (.iface 60 (.int .i64 6))) w = .ok (.bool false) w := by
  rw [show Sem.run Tryd.prog (binOp BinOp.eql 29 (.iface 60 (.int .i64 c)) (.iface 60 (.int .i64 6))) w = .ok (.bool (c == 6)) w by kernel_rfl, h]
def FailsPost (r : Bool × Int) (w : World) (e : Ending) (w' : World) : Prop := e = .returned (.tuple #[.bool r.1, errV r.2]) ∧ Below w.heap.size w w'
set_option maxRecDepth 100000 in
set_option maxHeartbeats 2000000 in
theorem fails_any (x : Ex) (v : Va) (F : Nat → Prop) (a b c a' b' c' : Value) (w : World) (hF : ∀ g, F g → g < w.heap.size) (hx : ExIn F w x a b c) (hv : VaIn F w v a' b' c') (hL : LaidT w) :
    Calls Tryd.prog 62 #[.agg #[a, b, c], .agg #[a', b', c']] w (FailsPost (failsX x v) w) := by
  have HF := hid hF
  have HX := hid hx
  have HV := hid hv
  have HL := hid hL
  have EA := hid (eval_any x v F a b c a' b' c')
  have TC := hid (fun w hF hx hL => tcheck_any x F a b c w hF hx hL)
  have FE : Hid (failsX x v = if (evalR x v).2 = 6 then (true, 0) else if (evalR x v).2 ≠ 0 then (false, (evalR x v).2) else (decide ((evalR x v).1 = 0), 0)) := rfl
  generalize failsX x v = R at *
  generalize evalR x v = r at *
  obtain ⟨n, f⟩ := r
  obtain ⟨xk, xn, xs⟩ := x
  obtain ⟨k', n', s'⟩ := v
  obtain ⟨A, cp, rfl, rfl, rfl, _, _, _⟩ := hx.box
  obtain ⟨A', cp', rfl, rfl, rfl, _, _, _⟩ := hv.box
  clear hF hx hv hL
  have B2 : Hid (Below w.heap.size w ((w.alloc (.cells #[.int .i64 xk, .int .i64 xn, .slice A xs.length cp] 53)).alloc (.cells #[.bool k', .int .i64 n', .slice A' s'.length cp'] 47))) := ((Below.refl _ _).alloc (Nat.le_refl _) _).alloc (by simp) _
  go_enter Tryd.func62, Tryd.ntmps62
  go_wp2_with fail
  refine (EA.out _ (fun g hg => by have := HF.out g hg; simp; omega) (ExIn.keep (Same.of_below B2.out HF.out) _ HX.out) (VaIn.keep (Same.of_below B2.out HF.out) _ HV.out) (fun w2 hb => by
    have hb' : Below w.heap.size w w2 := B2.out.trans (hb.mono (by simp; omega))
    exact TC.out w2 (fun g hg => by have := HF.out g hg; have := hb'.size; omega) (ExIn.keep (Same.of_below hb' HF.out) _ HX.out) (HL.out.below hb'))).mono ?_
  rintro e w1 ⟨rfl, hb⟩
  have B1 := hid (B2.out.trans (hb.mono (by simp; omega)))
  clear hb EA TC
  have q1 := eq_zero_zero
  have q2 := eq_nil_zero
  by_cases h6 : f = 6
  · subst h6
    have E : Hid (R = (true, 0)) := by show _ = _; rw [FE.out]; simp
    rw [errV_no (show (6 : Int) ≠ 0 by decide)]
    clear FE
    go_wp2_with fail
    go_ret2
    exact ⟨by rw [E.out]; rfl, B1.out⟩
  · by_cases h0 : f = 0
    · subst h0
      have E : Hid (R = (decide (n = 0), 0)) := by show _ = _; rw [FE.out]; simp
      rw [errV_0]
      clear FE h6
      by_cases hn : n = 0
      · subst hn
        go_wp2_with fail
        go_ret2
        exact ⟨by rw [E.out]; rfl, B1.out⟩
      · have d1 : (n == 0) = false := by simpa using hn
        have d2 : decide (n = 0) = false := by simpa using hn
        have E2 : Hid (R = (false, 0)) := by show _ = _; rw [E.out, d2]
        clear hn E
        go_wp2_with fail
        go_ret2
        exact ⟨by rw [E2.out]; rfl, B1.out⟩
    · have E : Hid (R = (false, f)) := by show _ = _; rw [FE.out, if_neg h6, if_pos h0]
      have q3 := eq_no_zero f (by simpa using h6)
      have H0 := hid h0
      rw [errV_no h0]
      clear FE h6 h0
      go_wp2_with fail
      go_ret2
      exact ⟨by rw [E.out, errV_no H0.out]; rfl, B1.out⟩
/-- does it fail of what a tape makes, and what is wrong -/
def failsG (g : Ge) (x : Ex) (t : List Int) : Bool × Int := match replR g t with
  | .error c => (false, c)
  | .ok v => failsX x v
set_option maxRecDepth 100000 in
set_option maxHeartbeats 2000000 in
theorem gfails_any (g : Ge) (x : Ex) (t : List Int) (F : Nat → Prop) (u1 u2 u3 u4 a b c tv : Value) (w : World) (hF : ∀ g, F g → g < w.heap.size) (hg : GeIn F w g u1 u2 u3 u4) (hx : ExIn F w x a b c) (ht : IntsIn .i64 F w tv t) (hL : LaidT w) :
    Calls Tryd.prog 43 #[.agg #[u1, u2, u3, u4], .agg #[a, b, c], tv] w (FailsPost (failsG g x t) w) := by
  have HF := hid hF
  have HG := hid hg
  have HX := hid hx
  have HT := hid ht
  have HL := hid hL
  have RA := hid (replay_any g t F u1 u2 u3 u4 tv)
  have FA := hid (fun v F a' b' c' w hF hx hv hL => fails_any x v F a b c a' b' c' w hF hx hv hL)
  have FG : Hid (failsG g x t = match replR g t with | .error c => (false, c) | .ok v => failsX x v) := rfl
  generalize failsG g x t = R at *
  generalize replR g t = r at *
  obtain ⟨k, a1, b1, s⟩ := g
  obtain ⟨Ag, cg, rfl, rfl, rfl, rfl, _, _, _⟩ := hg.box
  obtain ⟨xk, xn, xs⟩ := x
  obtain ⟨A, cp, rfl, rfl, rfl, _, _, _⟩ := hx.box
  obtain ⟨At, ct, rfl, _, _, _⟩ := ht
  clear hF hg hx hL
  have B2 : Hid (Below w.heap.size w ((w.alloc (.cells #[.int .i64 k, .int .i64 a1, .int .i64 b1, .slice Ag s.length cg] 24)).alloc (.cells #[.int .i64 xk, .int .i64 xn, .slice A xs.length cp] 53))) := ((Below.refl _ _).alloc (Nat.le_refl _) _).alloc (by simp) _
  have X1 : Hid (((w.alloc (.cells #[.int .i64 k, .int .i64 a1, .int .i64 b1, .slice Ag s.length cg] 24)).alloc (.cells #[.int .i64 xk, .int .i64 xn, .slice A xs.length cp] 53)).heap[w.heap.size + 1]? = some (.cells #[.int .i64 xk, .int .i64 xn, .slice A xs.length cp] 53 (0, 0))) := Has.newAt _ _ (by simp)
  go_enter Tryd.func43, Tryd.ntmps43
  go_wp2_with fail
  refine (RA.out _ (fun g hg => by have := HF.out g hg; simp; omega) (GeIn.keep (Same.of_below B2.out HF.out) _ HG.out) (HT.out.keep (Same.of_below B2.out HF.out))).mono ?_
  rintro e w1 ⟨hb, he⟩
  have s1 := hb.size
  simp only [World.size_alloc] at s1
  have B1 := hid (B2.out.trans (hb.mono (by simp; omega)))
  have Y1 := hid (Has.below X1.out hb (by simp))
  clear RA X1
  cases r with
  | error cc =>
    obtain ⟨hne, rfl⟩ := he
    have E : Hid (R = (false, cc)) := FG.out
    have NE := hid hne
    rw [errV_no hne]
    clear FG hne hb FA
    go_wp2_with fail
    go_ret2
    exact ⟨by rw [E.out, errV_no NE.out]; rfl, B1.out.alloc (by omega) _⟩
  | ok z =>
    obtain ⟨zl, zn, zs⟩ := z
    obtain ⟨c5, rfl, hv5, hwf⟩ := he
    obtain ⟨A5, cp5, rfl⟩ := hv5.slice
    have E : Hid (R = failsX (.mk xk xn xs) (.mk zl zn zs)) := FG.out
    have HV := hid (hv5.va (k := zl) hwf)
    have B3 : Hid (Below w.heap.size w (w1.alloc (.cells #[.bool zl, .int .i64 zn, .slice A5 zs.length cp5] 47))) := B1.out.alloc (by omega) _
    have PF := hid (FA.out (.mk zl zn zs) (fun b => b < w1.heap.size) _ _ _ (w1.alloc (.cells #[.bool zl, .int .i64 zn, .slice A5 zs.length cp5] 47)) (fun b hb => by simp; omega) (ExIn.more (fun b hb => by have := HF.out b hb; omega) _ (ExIn.keep (Same.of_below B3.out HF.out) _ HX.out)) (VaIn.more (fun b hb => hb.2.1) _ (VaIn.keep (fun b hb => Below.heap_alloc _ _ _ hb.2.1) _ HV.out)) (HL.out.below B3.out))
    have y0 := Has.cell Y1.out 0
    have y1 := Has.cell Y1.out 1
    have y2 := Has.cell Y1.out 2
    simp at y0 y1 y2
    have lw : w.heap.size + 1 < w1.heap.size := by omega
    generalize failsX (.mk xk xn xs) (.mk zl zn zs) = rr at *
    obtain ⟨rb, rc⟩ := rr
    clear FG hb hv5 hwf FA
    go_wp2_with fail
    refine PF.out.mono ?_
    rintro e w2 ⟨rfl, hb⟩
    have B4 := hid (B3.out.trans (hb.mono (by simp; omega)))
    clear hb
    by_cases h0 : rc = 0
    · subst h0
      rw [errV_0]
      go_wp2_with fail
      go_ret2
      exact ⟨by rw [E.out]; rfl, B4.out⟩
    · have NE := hid h0
      rw [errV_no h0]
      clear h0
      go_wp2_with fail
      go_ret2
      exact ⟨by rw [E.out, errV_no NE.out]; rfl, B4.out⟩
/-- does a tape make what fails? -/
def askB (g : Ge) (x : Ex) (t : List Int) : Bool := decide ((failsG g x t).2 = 0) && (failsG g x t).1
set_option maxRecDepth 100000 in
set_option maxHeartbeats 2000000 in
theorem walk_ask (g : Ge) (x : Ex) (F0 : Nat → Prop) (u1 u2 u3 u4 a b c : Value) (bg bx : Nat) (w0 : World) (hF0 : ∀ b, F0 b → b < w0.heap.size) (hg : GeIn F0 w0 g u1 u2 u3 u4) (hx : ExIn F0 w0 x a b c) (hL : LaidT w0)
    (hbg : w0.heap[bg]? = some (.cells #[u1, u2, u3, u4] 24 (0, 0))) (hbx : w0.heap[bx]? = some (.cells #[a, b, c] 53 (0, 0))) :
    AskR 45 #[.pointer (some ⟨bg, 0, none⟩), .pointer (some ⟨bx, 0, none⟩)] (askB g x) (fun _ => True) w0.heap.size w0 := by
  intro w F u row hF hu _ hb
  show Calls Tryd.prog 45 #[u, .pointer (some ⟨bg, 0, none⟩), .pointer (some ⟨bx, 0, none⟩)] w _
  have sb := hb.size
  have X0 := Has.below hbg hb (Has.lt hbg)
  have X1 := Has.below hbx hb (Has.lt hbx)
  have GA := hid (gfails_any g x row (fun k => F k ∨ F0 k) u1 u2 u3 u4 a b c u w (fun k hk => by rcases hk with h | h; exact hF k h; have := hF0 k h; omega) (GeIn.more (fun k h => .inr h) _ (GeIn.keep (Same.of_below hb hF0) _ hg)) (ExIn.more (fun k h => .inr h) _ (ExIn.keep (Same.of_below hb hF0) _ hx)) (hu.more fun k h => .inl h) (hL.below hb))
  have AE : Hid (askB g x row = (decide ((failsG g x row).2 = 0) && (failsG g x row).1)) := rfl
  generalize askB g x row = R at *
  generalize failsG g x row = r at *
  obtain ⟨rb, rc⟩ := r
  obtain ⟨k, a1, b1, s⟩ := g
  obtain ⟨Ag, cg, rfl, rfl, rfl, rfl, _, _, _⟩ := hg.box
  obtain ⟨xk, xn, xs⟩ := x
  obtain ⟨A, cp, rfl, rfl, rfl, _, _, _⟩ := hx.box
  obtain ⟨Au, cu, rfl, _, _, _⟩ := hu
  have x0 := Has.cell X0 0
  have x1 := Has.cell X0 1
  have x2 := Has.cell X0 2
  have x3 := Has.cell X0 3
  have z0 := Has.cell X1 0
  have z1 := Has.cell X1 1
  have z2 := Has.cell X1 2
  simp at x0 x1 x2 x3 z0 z1 z2
  clear hF0 hg hx hL hbg hbx hF hb X0 X1 sb
  go_enter Tryd.func45, Tryd.ntmps45
  go_wp2_with fail
  refine GA.out.mono ?_
  rintro e w2 ⟨rfl, hb⟩
  have B2 := hid hb
  clear hb x0 x1 x2 x3 z0 z1 z2
  by_cases h0 : rc = 0
  · subst h0
    have E : Hid (R = rb) := by show _ = _; rw [AE.out]; simp
    rw [errV_0]
    clear AE
    go_wp2_with fail
    go_ret
    exact ⟨by rw [E.out]; rfl, B2.out⟩
  · have E : Hid (R = false) := by show _ = _; rw [AE.out]; simp [h0]
    rw [errV_no h0]
    clear AE h0
    go_wp2_with fail
    go_ret
    exact ⟨by rw [E.out]; rfl, B2.out⟩
end Go.Proofs.YtopehfmppfibhaaDoor
