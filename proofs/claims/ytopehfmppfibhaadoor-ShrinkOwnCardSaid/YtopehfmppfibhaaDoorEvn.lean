/- What expr.numbers does with a value that reads as a tree and a function value that takes one number. Condition: that function's contract. -/
import Derived.Test.YtopehfmppfibhaaDoorBas
namespace Go.Proofs.YtopehfmppfibhaaDoor
open Go.RowKit
/-- nothing that was there is written but the blocks of C -/
def Outs (C : Nat → Prop) (w w' : World) : Prop := Below 0 w w' ∧ ∀ b, b < w.heap.size → ¬ C b → w'.heap[b]? = w.heap[b]?
section
variable {C : Nat → Prop} {w w1 w2 : World}
theorem Outs.refl (C : Nat → Prop) (w : World) : Outs C w w := ⟨Below.refl _ _, fun _ _ _ => rfl⟩
theorem Outs.trans (h : Outs C w w1) (k : Outs C w1 w2) : Outs C w w2 :=
  ⟨h.1.trans k.1, fun b hb hC => (k.2 b (Nat.lt_of_lt_of_le hb h.1.size) hC).trans (h.2 b hb hC)⟩
theorem Outs.alloc (h : Outs C w w1) (o : Obj) : Outs C w (w1.alloc o) :=
  ⟨h.1.alloc (Nat.zero_le _) o, fun b hb hC => (Below.heap_alloc _ _ _ (Nat.lt_of_lt_of_le hb h.1.size)).trans (h.2 b hb hC)⟩
theorem Outs.below {B : Nat} (h : Outs C w w1) (hB : B ≤ w.heap.size) (hC : ∀ b, C b → B ≤ b) : Below B w w1 :=
  ⟨h.1.os, h.1.tape, h.1.output, h.1.size, fun b hb => h.2 b (by omega) fun hc => by have := hC b hc; omega⟩
theorem Outs.same {F : Nat → Prop} (h : Outs C w w1) (hF : ∀ b, F b → b < w.heap.size ∧ ¬ C b) : Same F w w1 := fun b hb => h.2 b (hF b hb).1 (hF b hb).2
end
/-- a function value that takes one number more, and what it keeps; C has the blocks of its own -/
structure Takes (fid : FuncId) (caps : Array Value) (C : Nat → Prop) (R : List Int → World → Prop) : Prop where
  step : ∀ ks k w, R ks w → (Lit.int .i64 k).wf = true → Calls Tryd.prog fid (#[.int .i64 k] ++ caps) w fun e w' => e = .returned (.tuple #[]) ∧ R (ks ++ [k]) w' ∧ Outs C w w'
  alloc : ∀ ks w o, R ks w → R ks (w.alloc o)
  isIn : ∀ ks w, R ks w → ∀ c, C c → c < w.heap.size
def NumOk (x : Va) : Prop := ∀ (fid : FuncId) (caps : Array Value) (C : Nat → Prop) (R : List Int → World → Prop) (ks : List Int) (F : Nat → Prop) (a b c : Value) (w : World),
  (∀ (args : Array Value) (w : World), Sem.run Tryd.prog (callFunc fid args) w = .ok (.enter fid args) w) → Takes fid caps C R → (∀ g, F g → g < w.heap.size ∧ ¬ C g) → VaIn F w x a b c → R ks w →
  Calls Tryd.prog 65 #[.agg #[a, b, c], .func (Fn.func fid) #[] caps] w fun e w' => e = .returned (.tuple #[]) ∧ R (ks ++ x.nums) w' ∧ Outs C w w'
theorem vnums_take {s : List Va} {i : Nat} (h : i < s.length) : Vas.nums (s.take (i + 1)) = Vas.nums (s.take i) ++ s[i].nums := by
  rw [Vas.nums_eq, Vas.nums_eq, List.take_succ_eq_append_getElem h, List.flatMap_append]; simp
theorem VaIn.wfn {F : Nat → Prop} {w : World} {k : Bool} {n : Int} {s : List Va} {a b c : Value} (h : VaIn F w (.mk k n s) a b c) : (Lit.int .i64 n).wf = true := by
  rw [VaIn] at h
  exact h.2.2.1
set_option maxRecDepth 100000 in
set_option maxHeartbeats 1000000 in
theorem num_step (k : Bool) (n : Int) (s : List Va) (ih : ∀ y ∈ s, NumOk y) : NumOk (.mk k n s) := by
  intro fid caps C R ks F a b c w hcf hT hF hx hR
  have HF := hid hF
  have IH := hid ih
  have T := hid hT
  have HR := hid hR
  have WN := hid hx.wfn
  have CF := hid hcf
  obtain ⟨A, cp, rfl, rfl, rfl, l1, l2, hs⟩ := hx.box
  have HS := hid hs
  have NX : Hid ((Va.mk k n s).nums = (if k then [] else [n]) ++ Vas.nums s) := by show _ = _; rw [Va.nums]
  have C0 := hid (hT.isIn _ _ hR)
  have R1 := hid (hT.alloc _ _ (.cells #[.bool k, .int .i64 n, .slice A s.length cp] 47) hR)
  have X0 := hid (Has.new w (.cells #[.bool k, .int .i64 n, .slice A s.length cp] 47))
  have O0 : Hid (Outs C w (w.alloc (.cells #[.bool k, .int .i64 n, .slice A s.length cp] 47))) := (Outs.refl C w).alloc _
  clear hF ih hT hs hx hR
  go_enter Tryd.func65, Tryd.ntmps65
  go_upto_if 8 with fail
  go_cut [] (fun wx => Hid (R (ks ++ if k then [] else [n]) wx) ∧ Hid (wx.heap[w.heap.size]? = some (.cells #[.bool k, .int .i64 n, .slice A s.length cp] 47)) ∧ Hid (Outs C w wx))
  case first =>
    cases k with
    | true =>
      go_wp2_with fail
      go_meet
      exact ⟨by show R _ _; simpa using R1.out, X0, O0⟩
    | false =>
      go_wp2_with fail
      refine (T.out.step ks n _ R1.out WN.out).mono ?_
      rintro e w1 ⟨rfl, hr1, ho1⟩
      have R2 := hid hr1
      have X1 := hid ((ho1.2 w.heap.size (by simp) fun hc => by have := C0.out _ hc; omega).trans X0.out)
      have O1 := hid (O0.out.trans ho1)
      clear hr1 ho1
      go_wp2_with fail
      go_meet
      exact ⟨R2, X1, O1⟩
  case rest =>
  obtain ⟨RC, XC, OC⟩ := hcut
  have XD : wc.cell? ⟨w.heap.size, 2, none⟩ = some (.slice A s.length cp) := (Has.cell XC.out 2).trans rfl
  clear X0 R1 O0 HR XC
  go_wp2_with fail
  go_loopw [16] (fun iv wr => ∃ i : Nat, i ≤ s.length ∧ iv = .int .i64 i ∧ Hid (R (ks ++ (if k then [] else [n]) ++ Vas.nums (s.take i)) wr) ∧ Hid (Outs C w wr)) (fun iv _ => s.length - (intOf iv).toNat)
  case atStart => exact ⟨0, Nat.zero_le _, rfl, by show R _ _; simpa [Vas.nums] using RC.out, OC⟩
  case round =>
    obtain ⟨i, hi, rfl, hR, hO⟩ := hrel
    obtain ⟨wo, rfl⟩ : ∃ wo : World, wo = wr := ⟨_, rfl⟩
    clear XD RC OC
    by_cases hlt : i < s.length
    · obtain ⟨bl, off, rfl, hFb, hex⟩ := HS.out (by omega)
      have lF := hid (fun g (hg : F g) => show g < wo.heap.size ∧ ¬ C g from ⟨Nat.lt_of_lt_of_le (HF.out g hg).1 hO.out.1.size, (HF.out g hg).2⟩)
      obtain ⟨a1, b1, c1, q1, q2, q3, hy⟩ := (VasIn.keep (hO.out.same HF.out) s hFb hex).at_ hlt
      have HY := hid hy
      have PI := hid (IH.out s[i] (List.getElem_mem hlt))
      have i1 : (i : Int) < (s.length : Int) := by omega
      have EE : Hid (Vas.nums (s.take (i + 1)) = Vas.nums (s.take i) ++ s[i].nums) := vnums_take hlt
      obtain ⟨⟨k1, n1, s1⟩, hy0⟩ : ∃ y, y = s[i] := ⟨_, rfl⟩
      rw [← hy0] at HY PI EE
      obtain ⟨A1, cp1, rfl, rfl, rfl, _, _, _⟩ := HY.out.box
      clear hex hy hy0
      go_wp2_with fail
      refine (PI.out fid caps C R _ F _ _ _ _ CF.out T.out (fun g hg => ⟨by have := (lF.out g hg).1; simp; omega, (lF.out g hg).2⟩) (VaIn.keep (fun b hb => Below.heap_alloc _ _ _ (lF.out b hb).1) _ HY.out) (T.out.alloc _ _ _ hR.out)).mono ?_
      rintro e w2 ⟨rfl, hr2, ho2⟩
      have R2 : Hid (R (ks ++ (if k then [] else [n]) ++ Vas.nums (s.take (i + 1))) w2) := by show R _ _; rw [EE.out, ← List.append_assoc]; exact hr2
      have O2 := hid ((hO.out.alloc _).trans ho2)
      clear hr2 ho2 q1 q2 q3
      go_wp2_with fail
      go_roundw
      case rel => exact ⟨i + 1, by omega, by go_num, R2, O2⟩
      case measure => simp [intOf]; omega
    · obtain rfl : i = s.length := by omega
      have R2 : Hid (R (ks ++ (Va.mk k n s).nums) wo) := by show R _ _; rw [NX.out, ← List.append_assoc]; simpa using hR.out
      go_wp2_with fail
      go_end0
      exact ⟨rfl, R2.out, hO.out⟩
theorem num_any : ∀ x, NumOk x := Va.ind fun k n s ih => num_step k n s ih
end Go.Proofs.YtopehfmppfibhaaDoor
