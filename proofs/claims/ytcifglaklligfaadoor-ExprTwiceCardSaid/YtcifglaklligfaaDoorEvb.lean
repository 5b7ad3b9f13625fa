/- What the statements' own both returns: an expression of two parts, in a new block. No conditions. -/
import Derived.Test.YtcifglaklligfaaDoorEve
namespace Go.Proofs.YtcifglaklligfaaDoor
open Go.RowKit
theorem both_results (tmps : Array Value) (g : Nat) (k n : Int) (A : Option Addr) (l c : Nat) (w : World) (h6 : tmps.getD 6 undef = .pointer (some ⟨g, 0, none⟩)) (c0 : w.cell? ⟨g, 0, none⟩ = some (.int .i64 k)) (c1 : w.cell? ⟨g, 1, none⟩ = some (.int .i64 n)) (c2 : w.cell? ⟨g, 2, none⟩ = some (.slice A l c)) :
    (results Tryd.f16 tmps).run Tryd.prog w = .ok (.agg #[.int .i64 k, .int .i64 n, .slice A l c]) w := by
  simp only [Array.getD_eq_getD_getElem?] at h6
  simp [results, Tryd.results16, go_sem, h6, c0, c1, c2]
set_option maxRecDepth 100000 in
set_option maxHeartbeats 1000000 in
theorem both_any (k : Int) (hk : (Lit.int .i64 k).wf = true) (x y : Ex) (F : Nat → Prop) (a b c a' b' c' : Value) (w : World) (hF : ∀ g, F g → g < w.heap.size) (hx : ExIn F w x a b c) (hy : ExIn F w y a' b' c') :
    Calls Tryd.prog 16 #[.int .i64 k, .agg #[a, b, c], .agg #[a', b', c']] w fun e w' => ∃ A, e = .returned (.agg #[.int .i64 k, .int .i64 0, .slice A 2 2]) ∧ Below w.heap.size w w' ∧ w.heap.size < w'.heap.size ∧
      ExIn (fun g => F g ∨ (w.heap.size ≤ g ∧ g < w'.heap.size)) w' (.mk k 0 [x, y]) (.int .i64 k) (.int .i64 0) (.slice A 2 2) := by
  have HF := hid hF
  have HX := hid hx
  have HY := hid hy
  obtain ⟨xk, xn, xs⟩ := x
  obtain ⟨yk, yn, ys⟩ := y
  obtain ⟨A, cp, rfl, rfl, rfl, _, _, _⟩ := hx.box
  obtain ⟨A', cp', rfl, rfl, rfl, _, _, _⟩ := hy.box
  clear hF hx hy
  go_enter Tryd.func16, Tryd.ntmps16
  go_wp2_with fail
  have B4 := below4 w (.cells #[.int .i64 xk, .int .i64 xn, .slice A xs.length cp] 24) (.cells #[.int .i64 yk, .int .i64 yn, .slice A' ys.length cp'] 24) (.cells #[.int .i64 k, .int .i64 0, .slice (some ⟨w.heap.size + 1 + 1 + 1, 0, none⟩) 2 2] 24) (.cells #[.int .i64 xk, .int .i64 xn, .slice A xs.length cp, .int .i64 yk, .int .i64 yn, .slice A' ys.length cp'] 24)
  obtain ⟨X0, X1, X2, X3⟩ := boxes4 w _ (.cells #[.int .i64 xk, .int .i64 xn, .slice A xs.length cp] 24) (.cells #[.int .i64 yk, .int .i64 yn, .slice A' ys.length cp'] 24) (.cells #[.int .i64 k, .int .i64 0, .slice (some ⟨w.heap.size + 1 + 1 + 1, 0, none⟩) 2 2] 24) (.cells #[.int .i64 xk, .int .i64 xn, .slice A xs.length cp, .int .i64 yk, .int .i64 yn, .slice A' ys.length cp'] 24) (Below.refl _ _)
  refine ⟨rfl, _, both_results _ _ _ _ _ _ _ _ rfl (Has.cell X2 0) (Has.cell X2 1) (Has.cell X2 2), _, rfl, B4, by simp; omega, ?_⟩
  have hx := ExIn.more (F' := fun g => F g ∨ (w.heap.size ≤ g ∧ g < w.heap.size + 1 + 1 + 1 + 1)) (fun b h => .inl h) _ (ExIn.keep (Same.of_below B4 HF.out) _ HX.out)
  have hy := ExIn.more (F' := fun g => F g ∨ (w.heap.size ≤ g ∧ g < w.heap.size + 1 + 1 + 1 + 1)) (fun b h => .inl h) _ (ExIn.keep (Same.of_below B4 HF.out) _ HY.out)
  rw [ExIn]
  refine ⟨rfl, rfl, hk, by decide, _, 2, rfl, by simp [maxLen], fun _ => ⟨w.heap.size + 1 + 1 + 1, 0, rfl, .inr (by simp; omega), ?_⟩⟩
  rw [ExsIn, ExsIn, ExsIn]
  have e0 := Has.cell X3 0
  have e1 := Has.cell X3 1
  have e2 := Has.cell X3 2
  have e3 := Has.cell X3 3
  have e4 := Has.cell X3 4
  have e5 := Has.cell X3 5
  simp only [World.size_alloc] at *
  exact ⟨⟨_, _, _, e0, e1, e2, hx⟩, ⟨_, _, _, e3, e4, e5, hy⟩, trivial⟩
end Go.Proofs.YtcifglaklligfaaDoor
