/- What expr.Eval returns of an expression and a value: what Check says of either, else the number, else ErrZero. Condition: the package's lists. -/
import Derived.Test.YtopehfmppfibhaaDoorEvd
import Derived.Test.YtopehfmppfibhaaDoorEvf
namespace Go.Proofs.YtopehfmppfibhaaDoor
open Go.RowKit
def evN : Option Int → Int × Int
  | some n => (n, 0)
  | none => (0, 6)
/-- what Eval answers: the number and the fault -/
def evalR (x : Ex) (v : Va) : Int × Int := if chkE x ≠ 0 then (0, chkE x) else if chkV v ≠ 0 then (0, chkV v) else evN (x.ev v)
def EvalPost (r : Int × Int) (w : World) (e : Ending) (w' : World) : Prop := e = .returned (.tuple #[.int .i64 r.1, errV r.2]) ∧ Below w.heap.size w w'
theorem boxes4 (w w1 : World) (o0 o1 o2 o3 : Obj) (hb : Below (w.heap.size + 4) ((((w.alloc o0).alloc o1).alloc o2).alloc o3) w1) :
    w1.heap[w.heap.size]? = some o0 ∧ w1.heap[w.heap.size + 1]? = some o1 ∧ w1.heap[w.heap.size + 1 + 1]? = some o2 ∧ w1.heap[w.heap.size + 1 + 1 + 1]? = some o3 :=
  ⟨Has.below (Has.alloc (Has.alloc (Has.alloc (Has.new _ _) _) _) _) hb (by omega), Has.below (Has.alloc (Has.alloc (Has.newAt _ _ (by simp)) _) _) hb (by omega),
   Has.below (Has.alloc (Has.newAt _ _ (by simp)) _) hb (by omega), Has.below (Has.newAt _ _ (by simp)) hb (by omega)⟩
theorem below4 (w : World) (o0 o1 o2 o3 : Obj) : Below w.heap.size w ((((w.alloc o0).alloc o1).alloc o2).alloc o3) :=
  ((((Below.refl _ _).alloc (Nat.le_refl _) _).alloc (by simp) _).alloc (by simp; omega) _).alloc (by simp; omega) _
theorem stored2 {w w1 : World} {B g h : Nat} {a b : Value} {t u : TypeId} (hb : Below B w w1) (hg : B ≤ g) (hh : B ≤ h) (hne : g ≠ h) (x0 : w1.heap[g]? = some (.cells #[a] t)) (x1 : w1.heap[h]? = some (.cells #[b] u)) (n e : Value) :
    ((w1.setCell ⟨g, 0, none⟩ n).setCell ⟨h, 0, none⟩ e).cell? ⟨g, 0, none⟩ = some n ∧ ((w1.setCell ⟨g, 0, none⟩ n).setCell ⟨h, 0, none⟩ e).cell? ⟨h, 0, none⟩ = some e ∧ Below B w ((w1.setCell ⟨g, 0, none⟩ n).setCell ⟨h, 0, none⟩ e) :=
  ⟨(Has.cell (Has.far (p := ⟨h, 0, none⟩) (Has.set x0 0 n) hne e) 0).trans rfl, (Has.cell (Has.set (Has.far (p := ⟨g, 0, none⟩) x1 hne.symm n) 0 e) 0).trans rfl, (hb.setCell (p := ⟨g, 0, none⟩) hg n).setCell (p := ⟨h, 0, none⟩) hh e⟩
theorem eval_results (tmps : Array Value) (g h : Nat) (n : Int) (ev : Value) (w : World) (h4 : tmps.getD 4 undef = .pointer (some ⟨g, 0, none⟩)) (h5 : tmps.getD 5 undef = .pointer (some ⟨h, 0, none⟩)) (c4 : w.cell? ⟨g, 0, none⟩ = some (.int .i64 n)) (c5 : w.cell? ⟨h, 0, none⟩ = some ev) :
    (results Tryd.f23 tmps).run Tryd.prog w = .ok (.tuple #[.int .i64 n, ev]) w := by
  simp only [Array.getD_eq_getD_getElem?] at h4 h5
  simp [results, Tryd.results23, go_sem, h4, h5, c4, c5]
set_option maxRecDepth 100000 in
set_option maxHeartbeats 2000000 in
theorem eval_any (x : Ex) (v : Va) (F : Nat → Prop) (a b c a' b' c' : Value) (w : World) (hF : ∀ g, F g → g < w.heap.size) (hx : ExIn F w x a b c) (hv : VaIn F w v a' b' c')
    (hC : ∀ w2, Below w.heap.size w w2 → Calls Tryd.prog 42 #[.agg #[a, b, c]] w2 fun e w' => e = .returned (errV (chkE x)) ∧ Below w2.heap.size w2 w') :
    Calls Tryd.prog 23 #[.agg #[a, b, c], .agg #[a', b', c']] w (EvalPost (evalR x v) w) := by
  have HF := hid hF
  have HX := hid hx
  have HV := hid hv
  have HC := hid hC
  have CE : Hid (chkE x = 0 → x.err = 0) := fun h => by unfold chkE at h; split at h <;> simp_all
  have TX := hid (told_any x)
  have ER : Hid (evalR x v = if chkE x ≠ 0 then (0, chkE x) else if chkV v ≠ 0 then (0, chkV v) else evN (x.ev v)) := rfl
  have CV := hid (vcheck_any v)
  generalize evalR x v = R at *
  generalize chkE x = ce at *
  generalize chkV v = cv at *
  obtain ⟨xk, xn, xs⟩ := x
  obtain ⟨k', n', s'⟩ := v
  obtain ⟨A, cp, rfl, rfl, rfl, _, _, _⟩ := hx.box
  obtain ⟨A', cp', rfl, rfl, rfl, _, _, _⟩ := hv.box
  clear hF hx hv hC
  have hmf : ∀ (fn : Fn) (first cap : Array Value) (w : World), (Instr.makeFunc fn first cap).run Tryd.prog w = .ok (.func fn first cap) w := fun _ _ _ _ => rfl
  go_enter_defers Tryd.func23, Tryd.ntmps23
  go_wp2_with fail
  refine (HC.out _ (below4 _ _ _ _ _)).mono ?_
  rintro e w1 ⟨rfl, hb1⟩
  have B4 := hid (hb1.mono (B' := w.heap.size + 4) (by simp))
  have B1 := hid ((below4 _ _ _ _ _).trans (hb1.mono (B' := w.heap.size) (by simp; omega)))
  obtain ⟨X0, X1, X2, X3⟩ := boxes4 _ _ _ _ _ _ B4.out
  clear hb1
  by_cases hce : ce = 0
  · subst hce
    rw [show errV 0 = .nilIface from rfl]
    have z0 := Has.cell X1 0
    have z1 := Has.cell X1 1
    have z2 := Has.cell X1 2
    simp at z0 z1 z2
    go_wp2_with fail
    refine (CV.out F _ _ _ w1 (fun g hg => by have := HF.out g hg; have := B1.out.size; omega) (VaIn.keep (Same.of_below B1.out HF.out) _ HV.out)).mono ?_
    rintro e w2 ⟨rfl, hb2⟩
    have lB1 := B1.out.size
    have C4 := hid (B4.out.trans (hb2.mono (by have := B4.out.size; simp at this; omega)))
    have C1 := hid (B1.out.trans (hb2.mono lB1))
    clear hb2 z0 z1 z2 X0 X1 X2 X3
    obtain ⟨X0, X1, X2, X3⟩ := boxes4 _ _ _ _ _ _ C4.out
    by_cases hcv : cv = 0
    · subst hcv
      rw [show errV 0 = .nilIface from rfl]
      have lC1 := C1.out.size
      have TP := hid (TX.out (.mk k' n' s') F _ _ _ _ _ _ w2 (CE.out (by trivial)) (fun g hg => by have := HF.out g hg; omega) (ExIn.keep (Same.of_below C1.out HF.out) _ HX.out) (VaIn.keep (Same.of_below C1.out HF.out) _ HV.out))
      generalize (Ex.mk xk xn xs).ev (.mk k' n' s') = r at *
      have x0 := Has.cell X0 0
      have x1 := Has.cell X0 1
      have x2 := Has.cell X0 2
      have z0 := Has.cell X1 0
      have z1 := Has.cell X1 1
      have z2 := Has.cell X1 2
      simp at x0 x1 x2 z0 z1 z2
      have E1 : Hid (R = evN r) := by show _ = _; rw [ER.out]; simp
      clear ER CE TX CV lB1 lC1
      go_wp2_with fail
      refine TP.out.mono ?_
      rintro e w3 ⟨hb3, he3⟩
      have D4 := hid (C4.out.trans (hb3.mono (by have := C4.out.size; simp at this; omega)))
      have D1 := hid (C1.out.trans (hb3.mono C1.out.size))
      clear hb3 x0 x1 x2 z0 z1 z2 X0 X1 X2 X3
      obtain ⟨X0, X1, X2, X3⟩ := boxes4 _ _ _ _ _ _ D4.out
      have c2 := Has.cell X2 0
      have f2 := Has.froz X2 0
      have c3 := Has.cell X3 0
      have f3 := Has.froz X3 0
      simp at c2 c3
      cases r with
      | some m =>
        simp only at he3
        subst he3
        have ⟨d2, d3, BB⟩ := stored2 D1.out (by omega) (by omega) (by omega) X2 X3 (.int .i64 m) .nilIface
        have B2 := hid BB
        have Z2 := hid d2
        have Z3 := hid d3
        clear BB d2 d3
        go_wp2_with fail
        refine leaves_cons (f := 47) (args := #[.pointer (some ⟨w.heap.size + 1 + 1, 0, none⟩), .pointer (some ⟨w.heap.size + 1 + 1 + 1, 0, none⟩)]) (by simp) (by simp [go_sem]) ?_
        refine (catch_idle _ _ _).mono ?_
        rintro e u' w4 ⟨rfl, rfl, rfl⟩
        exact ⟨_, eval_results _ _ _ _ _ _ rfl rfl Z2.out Z3.out, by rw [E1.out]; exact ⟨rfl, B2.out⟩⟩
      | none =>
        simp only at he3
        subst he3
        have ⟨d2, d3, BB⟩ := stored2 D1.out (by omega) (by omega) (by omega) X2 X3 (.int .i64 0) (.iface 60 (.int .i64 6))
        refine leaves_cons (f := 47) (args := #[.pointer (some ⟨w.heap.size + 1 + 1, 0, none⟩), .pointer (some ⟨w.heap.size + 1 + 1 + 1, 0, none⟩)]) (by simp) (by simp [go_sem]) ?_
        refine (catch_panicking _ _ 0 [] _ c2 f2 c3 f3 (by simp)).mono ?_
        rintro e u' w4 ⟨rfl, rfl, rfl⟩
        exact ⟨_, eval_results _ _ _ _ _ _ rfl rfl d2 d3, by rw [E1.out]; exact ⟨rfl, BB⟩⟩
    · rw [errV_no hcv]
      have E1 : Hid (R = (0, cv)) := by show _ = _; rw [ER.out, if_neg (by simp), if_pos hcv]
      have c2 := Has.cell X2 0
      have f2 := Has.froz X2 0
      have c3 := Has.cell X3 0
      have f3 := Has.froz X3 0
      simp at c2 c3
      have ⟨d2, d3, BB⟩ := stored2 C1.out (by omega) (by omega) (by omega) X2 X3 (.int .i64 0) (.iface 60 (.int .i64 cv))
      have B2 := hid BB
      have Z2 := hid d2
      have Z3 := hid d3
      clear BB d2 d3
      go_wp2_with fail
      exact ⟨_, eval_results _ _ _ _ _ _ rfl rfl Z2.out Z3.out, by rw [E1.out]; exact ⟨by show _ = Ending.returned (.tuple #[.int .i64 0, errV cv]); rw [errV_no hcv], B2.out⟩⟩
  · rw [errV_no hce]
    have E1 : Hid (R = (0, ce)) := by show _ = _; rw [ER.out, if_pos hce]
    have c2 := Has.cell X2 0
    have f2 := Has.froz X2 0
    have c3 := Has.cell X3 0
    have f3 := Has.froz X3 0
    simp at c2 c3
    have ⟨d2, d3, BB⟩ := stored2 B1.out (by omega) (by omega) (by omega) X2 X3 (.int .i64 0) (.iface 60 (.int .i64 ce))
    have B2 := hid BB
    have Z2 := hid d2
    have Z3 := hid d3
    clear BB d2 d3
    go_wp2_with fail
    exact ⟨_, eval_results _ _ _ _ _ _ rfl rfl Z2.out Z3.out, by rw [E1.out]; exact ⟨by show _ = Ending.returned (.tuple #[.int .i64 0, errV ce]); rw [errV_no hce], B2.out⟩⟩
end Go.Proofs.YtopehfmppfibhaaDoor
