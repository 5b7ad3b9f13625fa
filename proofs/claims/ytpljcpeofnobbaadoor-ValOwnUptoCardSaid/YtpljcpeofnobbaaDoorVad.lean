/- What val.Check returns of a value that reads as a tree. No conditions. -/
import Derived.Test.YtpljcpeofnobbaaDoorErv
import Derived.Deep.QuietTactic
import Derived.BigQuiet
import Derived.Test.YtpljcpeofnobbaaDoorVai
namespace Go.Proofs.YtpljcpeofnobbaaDoor
open Go.RowKit
theorem VaIn.box {F : Nat → Prop} {w : World} {k : Bool} {n : Int} {s : List Va} {a b c : Value} (h : VaIn F w (.mk k n s) a b c) : ∃ A cp, a = .bool k ∧ b = .int .i64 n ∧ c = .slice A s.length cp ∧ s.length ≤ cp ∧ cp ≤ 9223372036854775807 ∧ (0 < s.length → ∃ bl off, A = some ⟨bl, off, none⟩ ∧ F bl ∧ VasIn F w s bl off) := by
  rw [VaIn] at h
  obtain ⟨h1, h2, _, A, cp, h5, h6, h7⟩ := h
  exact ⟨A, cp, h1, h2, h5, h6.1, by have := h6.2; unfold maxLen at this; omega, h7⟩
def VcOk (x : Va) : Prop := ∀ (d : Nat) (F : Nat → Prop) (a b c : Value) (w : World), d ≤ 6 → (∀ g, F g → g < w.heap.size) → VaIn F w x a b c →
  Calls Tryd.prog 12 #[.agg #[a, b, c], .int .i64 d] w fun e w' => e = .returned (errV (x.err d)) ∧ Below w.heap.size w w'
set_option maxRecDepth 100000 in
set_option maxHeartbeats 1000000 in
theorem vcheck_bad (k : Bool) (n : Int) (s : List Va) (d : Nat) (F : Nat → Prop) (a b c : Value) (w : World) (hx : VaIn F w (.mk k n s) a b c) (hb : badV k n s.length = true) :
    Calls Tryd.prog 12 #[.agg #[a, b, c], .int .i64 d] w fun e w' => e = .returned (.iface 40 (.int .i64 3)) ∧ Below w.heap.size w w' := by
  obtain ⟨A, cp, rfl, rfl, rfl, l1, l2, _⟩ := hx.box
  have B0 : Hid (Below w.heap.size w (w.alloc (.cells #[.bool k, .int .i64 n, .slice A s.length cp] 24))) := (Below.refl _ _).alloc (Nat.le_refl _) _
  cases k with
  | true =>
    have e1 : (n != 0) = true := by unfold badV at hb; simpa using hb
    clear hx hb
    go_enter Tryd.func12, Tryd.ntmps12
    go_wp2_with fail
    go_ret
    exact ⟨rfl, B0.out⟩
  | false =>
    have e1 : 0 < s.length := by unfold badV at hb; simpa using hb
    have e2 : decide ((0 : Int) < (s.length : Int)) = true := by simp; omega
    clear hx hb
    go_enter Tryd.func12, Tryd.ntmps12
    go_wp2_with fail
    go_ret
    exact ⟨rfl, B0.out⟩
set_option maxRecDepth 100000 in
set_option maxHeartbeats 1000000 in
theorem vcheck_good (k : Bool) (n : Int) (s : List Va) (ih : ∀ y ∈ s, VcOk y) (d : Nat) (F : Nat → Prop) (a b c : Value) (w : World) (hd : d ≤ 6) (hF : ∀ g, F g → g < w.heap.size) (hx : VaIn F w (.mk k n s) a b c) (hb : badV k n s.length = false) :
    Calls Tryd.prog 12 #[.agg #[a, b, c], .int .i64 d] w fun e w' => e = .returned (errV (if 6 ≤ d then 4 else Vas.err s (d + 1))) ∧ Below w.heap.size w w' := by
  have HF := hid hF
  have IH := hid ih
  obtain ⟨A, cp, rfl, rfl, rfl, l1, l2, hs⟩ := hx.box
  have HS := hid hs
  have B0 : Hid (Below w.heap.size w (w.alloc (.cells #[.bool k, .int .i64 n, .slice A s.length cp] 24))) := (Below.refl _ _).alloc (Nat.le_refl _) _
  have X0 := hid (Has.new w (.cells #[.bool k, .int .i64 n, .slice A s.length cp] 24))
  have e1 : k = true → (n != 0) = false := fun h => by subst h; unfold badV at hb; simpa using hb
  have e2 : k = false → s.length = 0 := fun h => by subst h; unfold badV at hb; simpa using hb
  generalize hE0 : (if 6 ≤ d then 4 else Vas.err s (d + 1)) = E
  have HE0 := hid hE0
  clear hF ih hs hx hb hE0
  go_enter Tryd.func12, Tryd.ntmps12
  go_upto_region 1 with fail
  go_cut [25] (fun cv wx => cv = .bool false ∧ wx = w.alloc (.cells #[.bool k, .int .i64 n, .slice A s.length cp] 24))
  case first =>
    cases k with
    | true =>
      have e3 := e1 rfl
      clear e1 e2
      go_wp2_with fail
      go_meet
      exact ⟨rfl, rfl⟩
    | false =>
      have e3 := e2 rfl
      have e4 : decide ((0 : Int) < (s.length : Int)) = false := decide_eq_false (by omega)
      have e5 : decide (0 < s.length) = false := decide_eq_false (by omega)
      clear e1 e2 e3
      go_wp2_with fail
      go_meet
      exact ⟨rfl, rfl⟩
  case rest =>
  obtain ⟨rfl, hwc⟩ := hcut
  subst wc
  clear e1 e2
  by_cases h6 : 6 ≤ d
  · have d1 : decide (6 ≤ (d : Int)) = true := by simp; omega
    have d2 : decide (6 ≤ d) = true := by simp; omega
    have E4 : Hid (E = 4) := by show _ = _; rw [← HE0.out, if_pos h6]
    clear h6
    go_wp2_with fail
    go_ret
    exact ⟨by rw [E4.out]; rfl, B0.out⟩
  · have d1 : decide (6 ≤ (d : Int)) = false := by simp; omega
    have d2 : decide (6 ≤ d) = false := by simp; omega
    have E4 : Hid (E = Vas.err s (d + 1)) := by show _ = _; rw [← HE0.out, if_neg h6]
    go_wp2_with fail
    go_loopw [33] (fun iv wr => ∃ i : Nat, i ≤ s.length ∧ iv = .int .i64 i ∧ Hid (Vas.err s (d + 1) = Vas.err (s.drop i) (d + 1)) ∧ Hid (Below w.heap.size w wr)) (fun iv _ => s.length - (intOf iv).toNat)
    case atStart => exact ⟨0, Nat.zero_le _, rfl, rfl, B0⟩
    case round =>
      obtain ⟨i, hi, rfl, hE, hB⟩ := hrel
      obtain ⟨wo, rfl⟩ : ∃ wo : World, wo = wr := ⟨_, rfl⟩
      have lB := hB.out.size
      clear B0 X0
      by_cases hlt : i < s.length
      · obtain ⟨bl, off, rfl, hFb, hex⟩ := HS.out (by omega)
        have lb := HF.out bl hFb
        obtain ⟨a1, b1, c1, q1, q2, q3, hy⟩ := (VasIn.keep (Same.of_below hB.out HF.out) s hFb hex).at_ hlt
        have HY := hid hy
        have PI := hid (IH.out s[i] (List.getElem_mem hlt))
        have i1 : (i : Int) < (s.length : Int) := by omega
        have EE : Hid (Vas.err (s.drop i) (d + 1) = if s[i].err (d + 1) ≠ 0 then s[i].err (d + 1) else Vas.err (s.drop (i + 1)) (d + 1)) := by show _ = _; rw [vdrop_at hlt, Vas.err]
        obtain ⟨⟨k1, n1, s1⟩, hy0⟩ : ∃ y, y = s[i] := ⟨_, rfl⟩
        rw [← hy0] at HY PI EE
        obtain ⟨A1, cp1, rfl, rfl, rfl, _, _, _⟩ := HY.out.box
        clear hex hy hy0
        go_wp2_with fail
        refine (PI.out (d + 1) F _ _ _ _ (by omega) (fun g hg => by have := HF.out g hg; simp; omega) (VaIn.keep (fun b hb => Below.heap_alloc _ _ _ (by have := HF.out b hb; omega)) _ HY.out)).mono ?_
        rintro e w2 ⟨rfl, hb2⟩
        have B2 := hid ((hB.out.alloc lB _).trans (hb2.mono (by simp; omega)))
        clear hb2 q1 q2 q3
        by_cases he : (Va.mk k1 n1 s1).err (d + 1) = 0
        · have E2 : Hid (Vas.err s (d + 1) = Vas.err (s.drop (i + 1)) (d + 1)) := by show _ = _; rw [hE.out, EE.out, if_neg (by simp [he])]
          rw [show errV ((Va.mk k1 n1 s1).err (d + 1)) = .nilIface by rw [he]; rfl]
          clear he
          go_wp2_with fail
          go_roundw
          case rel => exact ⟨i + 1, by omega, by go_num, E2, B2⟩
          case measure => simp [intOf]; omega
        · have E2 : Hid (Vas.err s (d + 1) = (Va.mk k1 n1 s1).err (d + 1)) := by show _ = _; rw [hE.out, EE.out, if_pos he]
          rw [errV_no he]
          have HE := hid he
          clear he
          go_wp2_with fail
          go_ret
          exact ⟨by rw [E4.out, E2.out, errV_no HE.out]; rfl, B2.out⟩
      · obtain rfl : i = s.length := by omega
        have E2 : Hid (Vas.err s (d + 1) = 0) := by show _ = _; rw [hE.out, List.drop_length, Vas.err]
        go_wp2_with fail
        go_ret
        exact ⟨by rw [E4.out, E2.out]; rfl, hB.out⟩
theorem vc_any : ∀ x, VcOk x := Va.ind fun k n s ih d F a b c w hd hF hx => by
  by_cases hb : badV k n s.length = true
  · refine (vcheck_bad k n s d F a b c w hx hb).mono ?_
    rintro e w' ⟨rfl, h⟩
    exact ⟨by rw [Va.err, if_pos hb]; rfl, h⟩
  · refine (vcheck_good k n s ih d F a b c w hd hF hx (by simpa using hb)).mono ?_
    rintro e w' ⟨rfl, h⟩
    exact ⟨by rw [Va.err, if_neg hb], h⟩
set_option maxHeartbeats 400000 in
theorem vcheck_any (x : Va) (F : Nat → Prop) (a b c : Value) (w : World) (hF : ∀ g, F g → g < w.heap.size) (hx : VaIn F w x a b c) :
    Calls Tryd.prog 6 #[.agg #[a, b, c]] w fun e w' => e = .returned (errV (chkV x)) ∧ Below w.heap.size w w' := by
  have HX := hid hx
  have HF := hid hF
  obtain ⟨k, n, s⟩ := x
  obtain ⟨A, cp, rfl, rfl, rfl, l1, l2, _⟩ := hx.box
  have B0 : Hid (Below w.heap.size w (w.alloc (.cells #[.bool k, .int .i64 n, .slice A s.length cp] 24))) := (Below.refl _ _).alloc (Nat.le_refl _) _
  clear hF
  go_enter Tryd.func6, Tryd.ntmps6
  go_wp2_with fail
  refine (vc_any (.mk k n s) 0 F _ _ _ _ (by omega) (fun g hg => by have := HF.out g hg; simp; omega) (VaIn.keep (fun b hb => Below.heap_alloc _ _ _ (HF.out b hb)) _ HX.out)).mono ?_
  rintro e w1 ⟨rfl, hb1⟩
  have B1 := hid (B0.out.trans (hb1.mono (by simp)))
  clear hb1
  go_wp2_with fail
  go_ret
  exact ⟨rfl, B1.out⟩
end Go.Proofs.YtpljcpeofnobbaaDoor
