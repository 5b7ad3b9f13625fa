/- The law ExprSums: it returns true, and all that the call was given reads as before. Conditions: expr.takes; a list of at most 1048576 parts. -/
import Derived.Test.YtcifglaklligfaaDoorEtl
import Derived.Test.YtcifglaklligfaaDoorLvs
import Derived.Test.YtcifglaklligfaaDoorVab
import Derived.Test.YtcifglaklligfaaDoorVac
namespace Go.Proofs.YtcifglaklligfaaDoor
open Go.RowKit Go.ChangeShapes Go.Deep
theorem eval_at2 (t : Ex) (v : Va) (a b c a' b' c' : Value) (W w : World) (hL : LaidT W) (hb : Below W.heap.size W w) (hx : ExIn (fun g => g < w.heap.size) w t a b c) (hv : VaIn (fun g => g < W.heap.size) W v a' b' c') :
    Calls Tryd.prog 20 #[.agg #[a, b, c], .agg #[a', b', c']] w (EvalPost (evalR t v) w) := by
  have hv' := VaIn.more (F' := fun g => g < w.heap.size) (fun g h => by have := hb.size; omega) _ (VaIn.keep (Same.of_below hb fun g h => h) _ hv)
  exact eval_any t v (fun g => g < w.heap.size) a b c a' b' c' w (fun g h => h) hx hv' fun w2 h2 =>
    tcheck_any t (fun g => g < w.heap.size) a b c w2 (fun g h => by have := h2.size; omega) (ExIn.keep (Same.of_below h2 fun g h => h) _ hx) ((hL.below hb).below h2)
theorem vas_len {F : Nat → Prop} {w : World} {l : List Va} {A : Option Addr} {n c : Nat} (h : VaIn F w (.mk true 0 l) (.bool true) (.int .i64 0) (.slice A n c)) : n = l.length := by
  obtain ⟨A', c', _, _, e3, _⟩ := h.box
  injection e3
theorem topT_yes {p1 : Bool} {p2 : Int} {ks : List Int} (h : 0 < ks.length) (h2 : p1 = false ∨ p2 < (topP ks).2) : topT (p1, p2) ks = (true, (topP ks).2) := by
  unfold topT; rw [if_pos]; rcases h2 with rfl | h2 <;> simp [h, *]
theorem topT_no {p1 : Bool} {p2 : Int} {ks : List Int} (h : ¬ 0 < ks.length ∨ (p1 = true ∧ ¬ p2 < (topP ks).2)) : topT (p1, p2) ks = (p1, p2) := by
  unfold topT; rw [if_neg]; rcases h with h | ⟨rfl, h⟩ <;> simp <;> omega
set_option maxRecDepth 100000 in
set_option maxHeartbeats 2000000 in
theorem exprSums_walk (l : List Va) (A : Option Addr) (c : Nat) (W : World) (hL : LaidT W) (hx : VaIn (fun b => b < W.heap.size) W (.mk true 0 l) (.bool true) (.int .i64 0) (.slice A l.length c)) (hn : Vas.nodes l ≤ 1048576) :
    Calls Tryd.prog 10 #[.slice A l.length c] W (LawPost W) := by
  have HL := hid hL
  have HV := hid hx
  have HN := hid hn
  obtain ⟨A', c', _, _, e3, l1, l2, hs⟩ := hx.box
  injection e3 with e1 _ e2
  subst e1 e2
  have HS := hid hs
  have LN : l.length ≤ 1048576 := by
    have : ∀ l : List Va, l.length ≤ Vas.nodes l := fun l => by
      induction l with
      | nil => simp
      | cons y r ih => rw [Vas.nodes, List.length_cons]; obtain ⟨_, _, s⟩ := y; rw [Va.nodes]; omega
    have := this l; omega
  obtain ⟨V, hV⟩ : ∃ V, V = Va.mk true 0 l := ⟨_, rfl⟩
  have VS : Hid (V.s = l) := by show _ = _; rw [hV]; rfl
  have VN : Hid (V.nums = Vas.nums l) := by show _ = _; rw [hV]; exact list_nums l
  have IT : Hid (chkV V = 0 → ∀ y ∈ l, chkV y = 0 ∧ y.lvs = y.nums) := by rw [hV]; exact item_ok
  rw [← hV] at HV
  clear hL hx hn hs hV
  go_enter Tryd.func10, Tryd.ntmps10
  go_wp2_with fail
  refine (eval_at2 (.mk 1 7 []) (.mk false 0 []) _ _ _ _ _ _ W _ HL.out (Below.refl _ _) (ex_leaf (by decide) (by decide)) (va_leaf (by decide))).mono ?_
  rintro e w1 ⟨rfl, hb1⟩
  rw [lit_seven]
  have B1 := hid hb1
  clear hb1
  rw [show errV 0 = .nilIface from rfl]
  go_wp2_with fail
  have l1 := B1.out.size
  have Ba := hid (B1.out.alloc l1 (.cells #[.bool true, .int .i64 0, .slice A l.length c] 38))
  have Xa := hid (Has.new w1 (.cells #[.bool true, .int .i64 0, .slice A l.length c] 38))
  refine (eval_at2 (.mk 2 0 []) V _ _ _ _ _ _ W _ HL.out Ba.out (ex_leaf (by decide) (by decide)) HV.out).mono ?_
  rintro e w2 ⟨rfl, hb⟩
  have B2 := hid (Ba.out.trans (hb.mono Ba.out.size))
  have X2 := hid (Has.below Xa.out hb (by simp))
  clear hb Ba Xa
  have x0 := Has.cell X2.out 0
  have x1 := Has.cell X2.out 1
  have x2 := Has.cell X2.out 2
  simp at x0 x1 x2
  go_wp2_with fail
  refine (eval_at2 (.mk 3 0 []) V _ _ _ _ _ _ W _ HL.out B2.out (ex_leaf (by decide) (by decide)) HV.out).mono ?_
  rintro e w3 ⟨rfl, hb⟩
  have B3 := hid (B2.out.trans (hb.mono B2.out.size))
  have X3 := hid (Has.below X2.out hb (Has.lt X2.out))
  clear hb B2 X2 x0 x1 x2
  have x0 := Has.cell X3.out 0
  have x1 := Has.cell X3.out 1
  have x2 := Has.cell X3.out 2
  simp at x0 x1 x2
  go_wp2_with fail
  refine (eval_at2 (.mk 4 0 []) V _ _ _ _ _ _ W _ HL.out B3.out (ex_leaf (by decide) (by decide)) HV.out).mono ?_
  rintro e w4 ⟨rfl, hb⟩
  have B4 := hid (B3.out.trans (hb.mono B3.out.size))
  have X4 := hid (Has.below X3.out hb (Has.lt X3.out))
  clear hb B3 X3 x0 x1 x2
  have x0 := Has.cell X4.out 0
  have x1 := Has.cell X4.out 1
  have x2 := Has.cell X4.out 2
  simp at x0 x1 x2
  by_cases hc : chkV V = 0
  · have CV := hid hc
    rw [eval_sum hc, eval_top hc, eval_len hc, VN.out, VS.out]
    rw [show errV (0 : Int) = .nilIface from rfl]
    have ITE := hid (IT.out hc)
    clear hc x0 x1 x2 IT
    go_wp2_with fail
    go_loopw [12, 13, 14, 15] (fun sv tv bv iv wr => ∃ i : Nat, i ≤ l.length ∧ sv = .int .i64 (sumW (Vas.nums (l.take i))) ∧ tv = .int .i64 (topP (Vas.nums (l.take i))).2 ∧ bv = .bool (topP (Vas.nums (l.take i))).1 ∧ iv = .int .i64 i ∧ Hid (Below W.heap.size W wr)) (fun _ _ _ iv _ => l.length - (intOf iv).toNat)
    case atStart => exact ⟨0, Nat.zero_le _, rfl, rfl, rfl, rfl, B4⟩
    case round =>
      obtain ⟨i, hi, rfl, rfl, rfl, rfl, hB⟩ := hrel
      obtain ⟨wo, rfl⟩ : ∃ wo : World, wo = wr := ⟨_, rfl⟩
      clear B4 X4
      by_cases hlt : i < l.length
      · obtain ⟨bl, off, rfl, hFb, hex⟩ := HS.out (by omega)
        obtain ⟨a1, b1, c1, q1, q2, q3, hy⟩ := hex.at_ hlt
        have HY := hid hy
        have i1 : (i : Int) < (l.length : Int) := by omega
        have NY : Hid (l[i].nodes ≤ 1048576) := by have := nodes_mem (List.getElem_mem hlt); have := HN.out; show _ ≤ _; omega
        have IY := hid (ITE.out l[i] (List.getElem_mem hlt))
        have NS := hid (nums_succ hlt)
        obtain ⟨⟨k1, n1, s1⟩, hy0⟩ : ∃ y, y = l[i] := ⟨_, rfl⟩
        rw [← hy0] at HY NY IY NS
        obtain ⟨A1, cp1, rfl, rfl, rfl, _, _, _⟩ := HY.out.box
        obtain ⟨Y, hY⟩ : ∃ Y, Y = Va.mk k1 n1 s1 := ⟨_, rfl⟩
        rw [← hY] at HY NY IY NS
        have Q1 := hid q1
        have Q2 := hid q2
        have Q3 := hid q3
        have LB := hid hFb
        have r1 := (hB.out.cell (p := ⟨bl, off + i * 3, none⟩) LB.out).trans Q1.out
        have r2 := (hB.out.cell (p := ⟨bl, off + i * 3 + 1, none⟩) LB.out).trans Q2.out
        have r3 := (hB.out.cell (p := ⟨bl, off + i * 3 + 2, none⟩) LB.out).trans Q3.out
        clear hex hy hy0 hY q1 q2 q3 hFb
        go_wp2_with fail
        refine (eval_at2 (.mk 2 0 []) Y _ _ _ _ _ _ W wo HL.out hB.out (ex_leaf (by decide) (by decide)) HY.out).mono ?_
        rintro e w5 ⟨rfl, hb⟩
        rw [eval_sum IY.out.1]
        rw [show errV (0 : Int) = .nilIface from rfl]
        have B5 := hid (hB.out.trans (hb.mono hB.out.size))
        clear hb r1 r2 r3
        have r1 := (B5.out.cell (p := ⟨bl, off + i * 3, none⟩) LB.out).trans Q1.out
        have r2 := (B5.out.cell (p := ⟨bl, off + i * 3 + 1, none⟩) LB.out).trans Q2.out
        have r3 := (B5.out.cell (p := ⟨bl, off + i * 3 + 2, none⟩) LB.out).trans Q3.out
        go_wp2_with fail
        refine (eval_at2 (.mk 3 0 []) Y _ _ _ _ _ _ W w5 HL.out B5.out (ex_leaf (by decide) (by decide)) HY.out).mono ?_
        rintro e w6 ⟨rfl, hb⟩
        rw [eval_top IY.out.1]
        rw [show errV (0 : Int) = .nilIface from rfl]
        have B6 := hid (B5.out.trans (hb.mono B5.out.size))
        clear hb r1 r2 r3 B5
        have r1 := (B6.out.cell (p := ⟨bl, off + i * 3, none⟩) LB.out).trans Q1.out
        have r2 := (B6.out.cell (p := ⟨bl, off + i * 3 + 1, none⟩) LB.out).trans Q2.out
        have r3 := (B6.out.cell (p := ⟨bl, off + i * 3 + 2, none⟩) LB.out).trans Q3.out
        have SS : Hid (sumW (Vas.nums (l.take (i + 1))) = wrap64 (sumW (Vas.nums (l.take i)) + sumW Y.nums)) := by show _ = _; rw [NS.out, sumW_app]
        have TT : Hid (topP (Vas.nums (l.take (i + 1))) = topT (topP (Vas.nums (l.take i))) Y.nums) := by show _ = _; rw [NS.out, topP_app]
        have TY : Hid (∀ p1 p2, 0 < Y.nums.length → (p1 = false ∨ p2 < (topP Y.nums).2) → topT (p1, p2) Y.nums = (true, (topP Y.nums).2)) := fun p1 p2 h h2 => topT_yes h h2
        have TN : Hid (∀ p1 p2, (¬ 0 < Y.nums.length ∨ (p1 = true ∧ ¬ p2 < (topP Y.nums).2)) → topT (p1, p2) Y.nums = (p1, p2)) := fun p1 p2 h => topT_no h
        generalize sumW (Vas.nums (l.take i)) = s0 at *
        generalize topP (Vas.nums (l.take i)) = T0 at *
        obtain ⟨p1, p2⟩ := T0
        generalize sumW Y.nums = s2 at *
        generalize (topP Y.nums).2 = t2 at *
        go_wp2_with fail
        refine (leaves_any Y (fun b => b < W.heap.size) _ _ _ w6 (fun g hg => by have := B6.out.size; omega) (VaIn.keep (Same.of_below B6.out fun b h => h) _ HY.out) NY.out).mono ?_
        rintro e w7 ⟨v7, rfl, ⟨A7, c7, rfl, _, _, _⟩, hb⟩
        have B7 := hid (B6.out.trans (hb.mono B6.out.size))
        have YL : Hid (Y.lvs = Y.nums) := IY.out.2
        rw [YL.out]
        clear hb r1 r2 r3 B6
        generalize Y.nums.length = m at *
        by_cases h1 : 0 < m
        · have g1 : decide ((0 : Int) < (m : Int)) = true := by simp; omega
          have g3 : decide (0 < m) = true := by simp; omega
          have H1 := hid h1
          by_cases h2 : p1 = false ∨ p2 < t2
          · have TZ := hid (TY.out p1 p2 h1 h2)
            cases p1 with
            | false =>
              clear h1 h2
              go_wp2_with fail
              go_roundw
              case rel => exact ⟨i + 1, by omega, by rw [SS.out], by rw [TT.out, TZ.out], by rw [TT.out, TZ.out], by go_num, B7⟩
              case measure => simp [intOf]; omega
            | true =>
              have g2 : decide (p2 < t2) = true := by simpa using h2
              clear h1 h2
              go_wp2_with fail
              go_roundw
              case rel => exact ⟨i + 1, by omega, by rw [SS.out], by rw [TT.out, TZ.out], by rw [TT.out, TZ.out], by go_num, B7⟩
              case measure => simp [intOf]; omega
          · obtain rfl : p1 = true := by cases p1 <;> simp_all
            have g2 : decide (p2 < t2) = false := by simpa using h2
            have TZ := hid (TN.out true p2 (.inr ⟨rfl, by simpa using h2⟩))
            clear h1 h2
            go_wp2_with fail
            go_roundw
            case rel => exact ⟨i + 1, by omega, by rw [SS.out], by rw [TT.out, TZ.out], by rw [TT.out, TZ.out], by go_num, B7⟩
            case measure => simp [intOf]; omega
        · have g1 : decide ((0 : Int) < (m : Int)) = false := by simp; omega
          have g3 : decide (0 < m) = false := by simp; omega
          have TZ := hid (TN.out p1 p2 (.inl h1))
          clear h1
          go_wp2_with fail
          go_roundw
          case rel => exact ⟨i + 1, by omega, by rw [SS.out], by rw [TT.out, TZ.out], by rw [TT.out, TZ.out], by go_num, B7⟩
          case measure => simp [intOf]; omega
      · obtain rfl : i = l.length := by omega
        have TL : Hid (l.take l.length = l) := by show _ = _; simp
        rw [TL.out]
        go_wp2_with fail
        go_ret
        exact ⟨rfl, hB.out⟩
  · have CV := hid hc
    rw [eval_leaf_bad (by simp) hc, eval_leaf_bad (by simp) hc, eval_leaf_bad (by simp) hc, errV_no hc]
    clear hc
    go_wp2_with fail
    refine (vcheck_any V (fun b => b < W.heap.size) _ _ _ w4 (fun g hg => by have := B4.out.size; omega) (VaIn.keep (Same.of_below B4.out fun b h => h) _ HV.out)).mono ?_
    rintro e w5 ⟨rfl, hb⟩
    rw [errV_no CV.out]
    go_wp2_with fail
    go_ret
    exact ⟨rfl, B4.out.trans (hb.mono B4.out.size)⟩
end Go.Proofs.YtcifglaklligfaaDoor
