/- What the reference's ExprLarge returns of an expression that is not too large, and the statements' mutated. Condition: the package's lists. -/
import Derived.Test.YtcifglaklligfaaDoorExs
namespace Go.Proofs.YtcifglaklligfaaDoor
open Go.RowKit Go.Deep
def LargeOk (x : Ex) : Prop := ∀ (d : Nat) (F : Nat → Prop) (a b c : Value) (w : World), d ≤ 6 → x.parts d ≤ 30 → (∀ g, F g → g < w.heap.size) → ExIn F w x a b c →
  Calls Tryd.prog 15 #[.agg #[a, b, c], .int .i64 d] w fun e w' => e = .returned (.tuple #[.int .i64 (x.size : Nat), .bool false]) ∧ Below w.heap.size w w'
theorem size_take {s : List Ex} {i : Nat} (h : i < s.length) : Exs.size (s.take (i + 1)) = Exs.size (s.take i) + (s[i]).size := by
  have : ∀ (a b : List Ex), Exs.size (a ++ b) = Exs.size a + Exs.size b := fun a b => by
    induction a with
    | nil => simp [Exs.size]
    | cons y r ih => rw [List.cons_append, Exs.size, Exs.size, ih]; omega
  rw [List.take_succ_eq_append_getElem h, this]
  simp [Exs.size]
theorem size_take_le : ∀ (s : List Ex) (i : Nat), Exs.size (s.take i) ≤ Exs.size s
  | [], i => by simp
  | y :: r, 0 => by simp [Exs.size]
  | y :: r, i + 1 => by have := size_take_le r i; rw [List.take_succ_cons, Exs.size, Exs.size]; omega
set_option maxRecDepth 100000 in
set_option maxHeartbeats 1000000 in
theorem large_step (k n : Int) (s : List Ex) (ih : ∀ y ∈ s, LargeOk y) : LargeOk (.mk k n s) := by
  intro d F a b c w hd hp hF hx
  have HF := hid hF
  have IH := hid ih
  obtain ⟨A, cp, rfl, rfl, rfl, l1, l2, hs⟩ := hx.box
  have HS := hid hs
  have hd6 : d < 6 := by
    rw [Ex.parts] at hp
    by_cases h : 6 ≤ d
    · rw [if_pos h] at hp; omega
    · omega
  have hp2 := hp
  rw [Ex.parts, if_neg (by omega)] at hp2
  have PS := hid (Exs.parts_eq s 1 hp2 (fun y hy => Ex.parts_eq y (d + 1) (by omega)) (fun y hy => (Ex.parts_le y (d + 1) (by omega)).1) (by omega))
  have SZ : 1 + Exs.size s ≤ 30 := by have := PS.out.1; omega
  have ES : Hid ((Ex.mk k n s).size = 1 + Exs.size s) := by show _ = _; rw [Ex.size]
  have TL : Hid (∀ i, Exs.size (s.take i) ≤ Exs.size s) := fun i => size_take_le s i
  have d1 : decide (6 ≤ (d : Int)) = false := by simp; omega
  have d2 : decide (6 ≤ d) = false := by simp; omega
  have B0 : Hid (Below w.heap.size w (w.alloc (.cells #[.int .i64 k, .int .i64 n, .slice A s.length cp] 24))) := (Below.refl _ _).alloc (Nat.le_refl _) _
  have X0 := hid (Has.new w (.cells #[.int .i64 k, .int .i64 n, .slice A s.length cp] 24))
  have HX := hid hx
  clear hF ih hs hp hp2 hx
  go_enter Tryd.func15, Tryd.ntmps15
  go_wp2_with fail
  go_loopw [6, 7] (fun nv iv wr => ∃ i : Nat, i ≤ s.length ∧ iv = .int .i64 i ∧ nv = .int .i64 ((1 + Exs.size (s.take i) : Nat) : Int) ∧ Hid (wr.heap[w.heap.size]? = some (.cells #[.int .i64 k, .int .i64 n, .slice A s.length cp] 24 (0, 0))) ∧ Hid (Below w.heap.size w wr)) (fun _ iv _ => s.length - (intOf iv).toNat)
  case atStart => exact ⟨0, Nat.zero_le _, rfl, by simp [Exs.size], X0, B0⟩
  case round =>
    obtain ⟨i, hi, rfl, rfl, hX, hB⟩ := hrel
    obtain ⟨wo, rfl⟩ : ∃ wo : World, wo = wr := ⟨_, rfl⟩
    have lB := hB.out.size
    have lX := Has.lt hX.out
    have x2 := Has.cell hX.out 2
    simp at x2
    have t1 := TL.out i
    clear B0 X0
    by_cases hlt : i < s.length
    · obtain ⟨bl, off, rfl, hFb, hex⟩ := HS.out (by omega)
      have lb := HF.out bl hFb
      obtain ⟨a1, b1, c1, q1, q2, q3, hy⟩ := (ExsIn.keep (Same.of_below hB.out HF.out) s hFb hex).at_ hlt
      have HY := hid hy
      have PI := hid (IH.out s[i] (List.getElem_mem hlt))
      have PP := hid (PS.out.2 s[i] (List.getElem_mem hlt))
      have i1 : (i : Int) < (s.length : Int) := by omega
      have t2 := TL.out (i + 1)
      have TK := hid (size_take hlt)
      rw [TK.out] at t2
      obtain ⟨⟨k1, n1, s1⟩, hy0⟩ : ∃ y, y = s[i] := ⟨_, rfl⟩
      rw [← hy0] at HY PI PP TK t2
      obtain ⟨A1, cp1, rfl, rfl, rfl, _, _, _⟩ := HY.out.box
      generalize hz : (Ex.mk k1 n1 s1).size = z at *
      have HZ := hid hz
      generalize hm : Exs.size (s.take i) = m at *
      have HM := hid hm
      clear hex hy hy0 hz hm
      go_wp2_with fail
      refine (PI.out (d + 1) F _ _ _ _ (by omega) PP.out (fun g hg => by have := HF.out g hg; omega) HY.out).mono ?_
      rintro e w2 ⟨rfl, hb2⟩
      rw [HZ.out]
      have B2 := hid (hB.out.trans (hb2.mono lB))
      have X2 := hid (Has.below hX.out hb2 lX)
      have d3 : decide (30 < ((1 + m : Nat) : Int) + (z : Int)) = false := by simp; omega
      have d4 : decide (30 < 1 + (m : Int) + (z : Int)) = false := by simp; omega
      clear hb2 q1 q2 q3 x2
      go_wp2_with fail
      go_roundw
      case rel => exact ⟨i + 1, by omega, by go_num, by rw [TK.out]; go_num, X2, B2⟩
      case measure => simp [intOf]; omega
    · obtain rfl : i = s.length := by omega
      have TT : Hid (s.take s.length = s) := by show _ = _; simp
      rw [TT.out]
      have d5 : decide (30 < ((1 + Exs.size s : Nat) : Int)) = false := by simp; omega
      have d6 : decide (30 < 1 + (Exs.size s : Int)) = false := by simp; omega
      go_wp2_with fail
      go_ret2
      exact ⟨by rw [ES.out]; rfl, hB.out⟩
theorem large_any : ∀ x, LargeOk x := Ex.ind large_step
set_option maxRecDepth 100000 in
set_option maxHeartbeats 1000000 in
theorem mutated_any (w : World) (hL : LaidE w) : Calls Tryd.prog 11 #[] w fun e w' => e = .returned (.bool true) ∧ Below w.heap.size w w' := by
  have HL := hid hL
  clear hL
  go_enter Tryd.func11, Tryd.ntmps11
  go_wp2_with fail
  refine (allR_any (.mk 1 3 []) (fun _ => False) _ _ _ _ (fun g h => h.elim) (ex_leaf (by decide) (by decide)) HL.out).mono ?_
  rintro e w2 ⟨v2, rfl, hE, hb⟩
  have M0 : mutsR (.mk 1 3 []) = [.mk 1 4 [], .mk 1 2 []] := by
    unfold mutsR
    rw [if_pos (by decide), Ex.muts]
    simp [chg, wrap64]
  rw [M0] at hE
  obtain ⟨cs, o1, o2⟩ := hE.row
  obtain ⟨g, cap, rfl, _, _, _, _, hz⟩ := own_open o1 (by simp)
  have ES := (o2.exs (l := [.mk 1 4 [], .mk 1 2 []]) o1)
  obtain ⟨a1, b1, c1, z1, q1, z2, h1⟩ := ES.at_ (i := 0) (by simp)
  obtain ⟨a2, b2, c2, z3, q2, z4, h2⟩ := ES.at_ (i := 1) (by simp)
  have e1 : b1 = .int .i64 4 := by obtain ⟨_, _, _, e1, _⟩ := ExIn.box (k := 1) (n := 4) (s := []) h1; exact e1
  have e2 : b2 = .int .i64 2 := by obtain ⟨_, _, _, e2, _⟩ := ExIn.box (k := 1) (n := 2) (s := []) h2; exact e2
  subst e1 e2
  simp at q1 q2
  rw [show errV (chkE (.mk 1 3 [])) = .nilIface from by rw [show chkE (.mk 1 3 []) = 0 by decide]; rfl]
  have HB := hid hb
  clear hE o1 o2 ES h1 h2 M0 hb hz z1 z2 z3 z4
  go_wp2_with fail
  go_ret
  exact ⟨rfl, HB.out⟩
end Go.Proofs.YtcifglaklligfaaDoor
