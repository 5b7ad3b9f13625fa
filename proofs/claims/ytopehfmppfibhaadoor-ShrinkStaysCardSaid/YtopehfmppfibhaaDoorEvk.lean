/- The two function values that expr.told hands to expr.numbers: the sum, and the greatest so far. No conditions. -/
import Derived.Test.YtopehfmppfibhaaDoorEvn
namespace Go.Proofs.YtopehfmppfibhaaDoor
open Go.RowKit
def sumW (ks : List Int) : Int := ks.foldl (fun a k => wrap64 (a + k)) 0
def topP (ks : List Int) : Bool × Int := ks.foldl (fun p k => if !p.1 || decide (p.2 < k) then (true, k) else p) (false, 0)
theorem sumW_snoc (ks : List Int) (k : Int) : sumW (ks ++ [k]) = wrap64 (sumW ks + k) := by simp [sumW, List.foldl_append]
theorem topP_snoc (ks : List Int) (k : Int) : topP (ks ++ [k]) = if !(topP ks).1 || decide ((topP ks).2 < k) then (true, k) else topP ks := by simp [topP, List.foldl_append]
theorem Outs.set {C : Nat → Prop} {w w1 : World} (h : Outs C w w1) {p : Addr} (hp : C p.block) (u : Value) : Outs C w (w1.setCell p u) :=
  ⟨h.1.setCell (Nat.zero_le _) u, fun b hb hC => (Below.heap_setCell _ _ _ _ fun e => hC (by rw [e]; exact hp)).trans (h.2 b hb hC)⟩
def SumR (g : Nat) (ks : List Int) (w : World) : Prop := w.heap[g]? = some (.cells #[.int .i64 (sumW ks)] 3)
set_option maxHeartbeats 400000 in
theorem takes_sum (g : Nat) : Takes 66 #[.pointer (some ⟨g, 0, none⟩)] (fun b => b = g) (SumR g) where
  step := by
    intro ks k w hR _
    show Calls Tryd.prog 66 #[.int .i64 k, .pointer (some ⟨g, 0, none⟩)] w _
    have HR := hid hR
    have c0 : w.cell? ⟨g, 0, none⟩ = some (.int .i64 (sumW ks)) := (Has.cell hR 0).trans rfl
    have f0 : w.frozen? ⟨g, 0, none⟩ = false := Has.froz hR 0
    clear hR
    go_enter Tryd.func66, Tryd.ntmps66
    go_wp2_with fail
    go_end0
    refine ⟨rfl, ?_, Outs.set (C := fun b => b = g) (Outs.refl _ w) rfl _⟩
    show _ = _
    rw [sumW_snoc]
    exact Has.set HR.out 0 _
  alloc := fun ks w o h => Has.alloc h o
  isIn := fun ks w h c hc => by subst hc; exact Has.lt h
def TopR (gs gn : Nat) (ks : List Int) (w : World) : Prop := w.heap[gs]? = some (.cells #[.bool (topP ks).1] 4) ∧ w.heap[gn]? = some (.cells #[.int .i64 (topP ks).2] 3)
set_option maxHeartbeats 400000 in
theorem takes_top (gs gn : Nat) (hne : gs ≠ gn) : Takes 67 #[.pointer (some ⟨gs, 0, none⟩), .pointer (some ⟨gn, 0, none⟩)] (fun b => b = gs ∨ b = gn) (TopR gs gn) where
  step := by
    intro ks k w hR _
    show Calls Tryd.prog 67 #[.int .i64 k, .pointer (some ⟨gs, 0, none⟩), .pointer (some ⟨gn, 0, none⟩)] w _
    have HR := hid hR
    have c0 : w.cell? ⟨gs, 0, none⟩ = some (.bool (topP ks).1) := (Has.cell hR.1 0).trans rfl
    have f0 : w.frozen? ⟨gs, 0, none⟩ = false := Has.froz hR.1 0
    have c1 : w.cell? ⟨gn, 0, none⟩ = some (.int .i64 (topP ks).2) := (Has.cell hR.2 0).trans rfl
    have f1 : w.frozen? ⟨gn, 0, none⟩ = false := Has.froz hR.2 0
    have up : Hid ((!(topP ks).1 || decide ((topP ks).2 < k)) = true → TopR gs gn (ks ++ [k]) ((w.setCell ⟨gn, 0, none⟩ (.int .i64 k)).setCell ⟨gs, 0, none⟩ (.bool true))) := fun h => by
      unfold TopR
      rw [topP_snoc, if_pos h]
      exact ⟨Has.set (Has.far HR.out.1 (by simpa using hne) _) 0 _, Has.far (Has.set HR.out.2 0 _) (by simpa using hne.symm) _⟩
    have stay : Hid ((!(topP ks).1 || decide ((topP ks).2 < k)) = false → TopR gs gn (ks ++ [k]) w) := fun h => by
      unfold TopR
      rw [topP_snoc, h]
      exact HR.out
    have O2 : Hid (Outs (fun b => b = gs ∨ b = gn) w ((w.setCell ⟨gn, 0, none⟩ (.int .i64 k)).setCell ⟨gs, 0, none⟩ (.bool true))) :=
      Outs.set (Outs.set (Outs.refl _ w) (.inr rfl) _) (.inl rfl) _
    have O0 : Hid (Outs (fun b => b = gs ∨ b = gn) w w) := Outs.refl _ w
    generalize topP ks = q at *
    obtain ⟨q1, q2⟩ := q
    clear hR
    by_cases hq : q1 = true
    · subst hq
      by_cases hk : q2 < k
      · have d1 : decide (q2 < k) = true := by simpa using hk
        have d2 : decide (k > q2) = true := by simpa using hk
        have U := hid (up.out (by simpa using hk))
        clear up stay hk O0
        go_enter Tryd.func67, Tryd.ntmps67
        go_wp2_with fail
        go_end0
        exact ⟨rfl, U.out, O2.out⟩
      · have d1 : decide (q2 < k) = false := by simpa using hk
        have d2 : decide (k > q2) = false := by simpa using hk
        have U := hid (stay.out (by simpa using hk))
        clear up stay hk O2
        go_enter Tryd.func67, Tryd.ntmps67
        go_wp2_with fail
        go_end0
        exact ⟨rfl, U.out, O0.out⟩
    · obtain rfl : q1 = false := by simpa using hq
      have U := hid (up.out (by simp))
      clear up stay hq O0
      go_enter Tryd.func67, Tryd.ntmps67
      go_wp2_with fail
      go_end0
      exact ⟨rfl, U.out, O2.out⟩
  alloc := fun ks w o h => ⟨Has.alloc h.1 o, Has.alloc h.2 o⟩
  isIn := fun ks w h c hc => by
    rcases hc with rfl | rfl
    · exact Has.lt h.1
    · exact Has.lt h.2
theorem enter_sum : ∀ (args : Array Value) (w : World), Sem.run Tryd.prog (callFunc 66 args) w = .ok (.enter 66 args) w := fun _ _ => by kernel_rfl
theorem enter_top : ∀ (args : Array Value) (w : World), Sem.run Tryd.prog (callFunc 67 args) w = .ok (.enter 67 args) w := fun _ _ => by kernel_rfl
end Go.Proofs.YtopehfmppfibhaaDoor
