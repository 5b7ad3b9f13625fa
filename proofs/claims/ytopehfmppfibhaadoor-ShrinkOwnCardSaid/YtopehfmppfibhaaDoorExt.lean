/- What expr.Check returns of an expression that reads as a tree, where of the package's lists only takes is known. Condition: that list. -/
import Derived.Test.YtopehfmppfibhaaDoorBas
namespace Go.Proofs.YtopehfmppfibhaaDoor
open Go.RowKit
/-- expr.takes lies as the text says -/
structure LaidT (w : World) : Prop where
  takes : ∀ i, i < 12 → w.cell? ⟨1, i, none⟩ = some (.int .i64 (takesL.getD i 0))
theorem LaidT.below {w w' : World} (h : LaidT w) (hb : Below w.heap.size w w') : LaidT w' :=
  ⟨fun i hi => (hb.cell (p := ⟨_, i, none⟩) (cell_lt (h.takes i hi))).trans (h.takes i hi)⟩
def TeachOk (x : Ex) : Prop := ∀ (F : Nat → Prop) (a b c : Value) (w : World), (∀ g, F g → g < w.heap.size) → ExIn F w x a b c → LaidT w →
  Calls Tryd.prog 61 #[.agg #[a, b, c]] w fun e w' => e = .returned (errV x.err) ∧ Below w.heap.size w w'
set_option maxRecDepth 100000 in
set_option maxHeartbeats 1000000 in
theorem teach_bad (k n : Int) (s : List Ex) (F : Nat → Prop) (a b c : Value) (w : World) (hx : ExIn F w (.mk k n s) a b c) (hL : LaidT w) (hb : headBad k s.length = true) :
    Calls Tryd.prog 61 #[.agg #[a, b, c]] w fun e w' => e = .returned (.iface 60 (.int .i64 3)) ∧ Below w.heap.size w w' := by
  have HX := hid hx
  obtain ⟨A, cp, rfl, rfl, rfl, l1, l2, hs⟩ := hx.box
  have B0 : Hid (Below w.heap.size w (w.alloc (.cells #[.int .i64 k, .int .i64 n, .slice A s.length cp] 53))) := (Below.refl _ _).alloc (Nat.le_refl _) _
  by_cases h1 : k < 1
  · have d1 : decide (k < 1) = true := by simp; omega
    clear hs hb hL
    go_enter Tryd.func61, Tryd.ntmps61
    go_wp2_with fail
    go_quiet (fail)
    go_wp2_with fail
    go_ret
    exact ⟨rfl, below_drewN B0.out _⟩
  · have d1 : decide (k < 1) = false := by simp; omega
    by_cases h2 : 11 < k
    · have d2 : decide (11 < k) = true := by simp; omega
      clear hs hb hL
      go_enter Tryd.func61, Tryd.ntmps61
      go_wp2_with fail
      go_quiet (fail)
      go_wp2_with fail
      go_ret
      exact ⟨rfl, below_drewN B0.out _⟩
    · have d2 : decide (11 < k) = false := by simp; omega
      obtain ⟨K, rfl⟩ : ∃ K : Nat, k = (K : Int) := ⟨k.toNat, by omega⟩
      have k0 : (K : Int) < 12 := by omega
      have k1 : K < 12 := by omega
      have q1 := hL.takes K k1
      have lq := cell_lt q1
      simp only at lq
      have q2 : (w.alloc (.cells #[.int .i64 (K : Nat), .int .i64 n, .slice A s.length cp] 53)).cell? ⟨1, K, none⟩ = some (.int .i64 (takesL.getD K 0)) := (((Below.refl _ _).alloc (Nat.le_refl _) _).cell (p := ⟨_, K, none⟩) lq).trans q1
      have hne : takesL.getD K 0 ≠ (s.length : Int) := by
        unfold headBad at hb
        simp only [Int.toNat_natCast, Bool.or_eq_true, d1, d2, Bool.false_eq_true, false_or, decide_eq_true_eq] at hb
        exact hb
      generalize takesL.getD K 0 = t at *
      have d3 : (t != (s.length : Int)) = true := by simp; exact hne
      clear hs hb hL q1 hne
      go_enter Tryd.func61, Tryd.ntmps61
      go_wp2_with fail
      go_quiet (fail)
      go_wp2_with fail
      go_ret
      exact ⟨rfl, below_drewN B0.out _⟩
set_option maxRecDepth 100000 in
set_option maxHeartbeats 1000000 in
theorem teach_good (k n : Int) (s : List Ex) (ih : ∀ y ∈ s, TeachOk y) (F : Nat → Prop) (a b c : Value) (w : World) (hF : ∀ g, F g → g < w.heap.size) (hx : ExIn F w (.mk k n s) a b c) (hL : LaidT w) (hb : headBad k s.length = false) :
    Calls Tryd.prog 61 #[.agg #[a, b, c]] w fun e w' => e = .returned (errV (Exs.err s)) ∧ Below w.heap.size w w' := by
  have HX := hid hx
  have HF := hid hF
  have HL := hid hL
  have IH := hid ih
  obtain ⟨A, cp, rfl, rfl, rfl, l1, l2, hs⟩ := hx.box
  have HS := hid hs
  have hb' := hb
  unfold headBad at hb'
  simp only [Bool.or_eq_false_iff, decide_eq_false_iff_not] at hb'
  obtain ⟨⟨h1, h2⟩, h3⟩ := hb'
  have d1 : decide (k < 1) = false := by simp; omega
  have d2 : decide (11 < k) = false := by simp; omega
  obtain ⟨K, rfl⟩ : ∃ K : Nat, k = (K : Int) := ⟨k.toNat, by omega⟩
  have k0 : (K : Int) < 12 := by omega
  have k1 : K < 12 := by omega
  have q1 := hL.takes K k1
  have lq := cell_lt q1
  simp only at lq
  have h4 : takesL.getD K 0 = (s.length : Int) := by simpa using h3
  rw [h4] at q1
  have q2 : (w.alloc (.cells #[.int .i64 (K : Nat), .int .i64 n, .slice A s.length cp] 53)).cell? ⟨1, K, none⟩ = some (.int .i64 (s.length : Nat)) := (((Below.refl _ _).alloc (Nat.le_refl _) _).cell (p := ⟨_, K, none⟩) lq).trans q1
  have d3 : ((s.length : Int) != (s.length : Int)) = false := by simp
  have d4 : (s.length != s.length) = false := by simp
  have B0 : Hid (Below w.heap.size w (w.alloc (.cells #[.int .i64 (K : Nat), .int .i64 n, .slice A s.length cp] 53))) := (Below.refl _ _).alloc (Nat.le_refl _) _
  clear hF hL hs hb h3 h4 q1 ih
  go_enter Tryd.func61, Tryd.ntmps61
  go_wp2_with fail
  go_quiet (fail)
  have B1 := hid (below_drewN B0.out nq)
  clear q2 d3 d4 d1 d2
  go_wp2_with fail
  go_loopw [28] (fun iv wr => ∃ i : Nat, i ≤ s.length ∧ iv = .int .i64 i ∧ Hid (Exs.err s = Exs.err (s.drop i)) ∧ Hid (Below w.heap.size w wr)) (fun iv _ => s.length - (intOf iv).toNat)
  case atStart => exact ⟨0, Nat.zero_le _, rfl, rfl, B1⟩
  case round =>
    obtain ⟨i, hi, rfl, hE, hB⟩ := hrel
    obtain ⟨wo, rfl⟩ : ∃ wo : World, wo = wr := ⟨_, rfl⟩
    have lB := hB.out.size
    clear B0 B1
    by_cases hlt : i < s.length
    · obtain ⟨bl, off, rfl, hFb, hex⟩ := HS.out (by omega)
      have lb := HF.out bl hFb
      obtain ⟨a1, b1, c1, q1, q2, q3, hy⟩ := (ExsIn.keep (Same.of_below hB.out HF.out) s hFb hex).at_ hlt
      have HY := hid hy
      have PI := hid (IH.out s[i] (List.getElem_mem hlt))
      have i1 : (i : Int) < (s.length : Int) := by omega
      have EE : Hid (Exs.err (s.drop i) = if s[i].err ≠ 0 then s[i].err else Exs.err (s.drop (i + 1))) := by show _ = _; rw [drop_at hlt, Exs.err]
      obtain ⟨⟨k1, n1, s1⟩, hy0⟩ : ∃ y, y = s[i] := ⟨_, rfl⟩
      rw [← hy0] at HY PI EE
      obtain ⟨A1, cp1, rfl, rfl, rfl, _, _, _⟩ := HY.out.box
      clear hex hy hy0
      go_wp2_with fail
      refine (PI.out F _ _ _ _ (fun g hg => by have := HF.out g hg; simp; omega) (ExIn.keep (fun b hb => Below.heap_alloc _ _ _ (by have := HF.out b hb; omega)) _ HY.out) ((HL.out.below hB.out).below ((Below.refl _ _).alloc (Nat.le_refl _) _))).mono ?_
      rintro e w2 ⟨rfl, hb2⟩
      have B2 := hid ((hB.out.alloc lB _).trans (hb2.mono (by simp; omega)))
      clear hb2 q1 q2 q3
      by_cases he : (Ex.mk k1 n1 s1).err = 0
      · have E2 : Hid (Exs.err s = Exs.err (s.drop (i + 1))) := by show _ = _; rw [hE.out, EE.out, if_neg (by simp [he])]
        rw [show errV (Ex.mk k1 n1 s1).err = .nilIface by rw [he]; rfl]
        clear he
        go_wp2_with fail
        go_roundw
        case rel => exact ⟨i + 1, by omega, by go_num, E2, B2⟩
        case measure => simp [intOf]; omega
      · have E2 : Hid (Exs.err s = (Ex.mk k1 n1 s1).err) := by show _ = _; rw [hE.out, EE.out, if_pos he]
        rw [errV_no he]
        have HE := hid he
        clear he
        go_wp2_with fail
        go_ret
        exact ⟨by rw [E2.out, errV_no HE.out]; rfl, B2.out⟩
    · obtain rfl : i = s.length := by omega
      have E2 : Hid (Exs.err s = 0) := by show _ = _; rw [hE.out, List.drop_length, Exs.err]
      go_wp2_with fail
      go_ret
      exact ⟨by rw [E2.out]; rfl, hB.out⟩
theorem teach_any : ∀ x, TeachOk x := Ex.ind fun k n s ih F a b c w hF hx hL => by
  by_cases hb : headBad k s.length = true
  · refine (teach_bad k n s F a b c w hx hL hb).mono ?_
    rintro e w' ⟨rfl, h⟩
    exact ⟨by rw [Ex.err, if_pos hb]; rfl, h⟩
  · refine (teach_good k n s ih F a b c w hF hx hL (by simpa using hb)).mono ?_
    rintro e w' ⟨rfl, h⟩
    exact ⟨by rw [Ex.err, if_neg hb], h⟩
set_option maxHeartbeats 400000 in
theorem tcheck_any (x : Ex) (F : Nat → Prop) (a b c : Value) (w : World) (hF : ∀ g, F g → g < w.heap.size) (hx : ExIn F w x a b c) (hL : LaidT w) :
    Calls Tryd.prog 42 #[.agg #[a, b, c]] w fun e w' => e = .returned (errV (chkE x)) ∧ Below w.heap.size w w' := by
  have HX := hid hx
  have HF := hid hF
  have HL := hid hL
  obtain ⟨k, n, s⟩ := x
  obtain ⟨A, cp, rfl, rfl, rfl, l1, l2, _⟩ := hx.box
  have PL := Ex.parts_le (.mk k n s) 0 (by omega)
  have B0 : Hid (Below w.heap.size w (w.alloc (.cells #[.int .i64 k, .int .i64 n, .slice A s.length cp] 53))) := (Below.refl _ _).alloc (Nat.le_refl _) _
  have X0 := hid (Has.new w (.cells #[.int .i64 k, .int .i64 n, .slice A s.length cp] 53))
  have CE : Hid (chkE (.mk k n s) = if 30 < (Ex.mk k n s).parts 0 then 4 else (Ex.mk k n s).err) := rfl
  clear hF hL
  go_enter Tryd.func42, Tryd.ntmps42
  go_wp2_with fail
  refine (parts_any (.mk k n s) 0 F _ _ _ _ (by omega) (fun g hg => by have := HF.out g hg; simp; omega) (ExIn.keep (fun b hb => Below.heap_alloc _ _ _ (HF.out b hb)) _ HX.out)).mono ?_
  rintro e w1 ⟨rfl, hb1⟩
  have B1 := hid (B0.out.trans (hb1.mono (by simp)))
  have X1 := Has.below X0.out hb1 (by simp)
  have x0 := Has.cell X1 0
  have x1 := Has.cell X1 1
  have x2 := Has.cell X1 2
  simp at x0 x1 x2
  have L1 := hid (HL.out.below B1.out)
  have E1 := hid (ExIn.keep (Same.of_below B1.out HF.out) _ HX.out)
  have s1 := B1.out.size
  clear hb1 X1
  generalize hp : (Ex.mk k n s).parts 0 = p at *
  clear hp
  by_cases hgt : 30 < p
  · have d1 : decide (30 < p) = true := by simp; omega
    have CE2 : Hid (chkE (.mk k n s) = 4) := by show _ = _; rw [CE.out, if_pos hgt]
    clear hgt
    go_wp2_with fail
    go_ret
    exact ⟨by rw [CE2.out]; rfl, B1.out⟩
  · have d1 : decide (30 < p) = false := by simp; omega
    have CE2 : Hid (chkE (.mk k n s) = (Ex.mk k n s).err) := by show _ = _; rw [CE.out, if_neg hgt]
    clear hgt
    go_wp2_with fail
    refine (teach_any (.mk k n s) F _ _ _ _ (fun g hg => by have := HF.out g hg; omega) E1.out L1.out).mono ?_
    rintro e w2 ⟨rfl, hb2⟩
    have B2 := hid (B1.out.trans (hb2.mono s1))
    clear hb2
    go_wp2_with fail
    go_ret
    exact ⟨by rw [CE2.out]; rfl, B2.out⟩
end Go.Proofs.YtopehfmppfibhaaDoor
