/- The law GenNoughts: it returns true, and all that the call was given reads as before. No conditions. -/
import Derived.Test.YtkpgedejabahaaaGme
import Derived.Deep.QuietTactic
import Derived.BigQuiet
namespace Go.Proofs.Ytkpgedejabahaaa
open Go.RowKit Go.Deep
def LawPost (W : World) (e : Ending) (w' : World) : Prop := e = .returned (.bool true) ∧ Below W.heap.size W w'
set_option maxHeartbeats 400000 in
theorem count_just (n : Int) (w : World) : Calls Try.prog 16 #[.agg #[.int .i64 1, .int .i64 n, .int .i64 0, .slice none 0 0]] w fun e w' => e = .returned (.int .i64 1) ∧ Below w.heap.size w w' := by
  go_enter Try.func16, Try.ntmps16
  go_wp2_with fail
  go_ret
  exact ⟨rfl, (Below.refl _ _).alloc (Nat.le_refl _) _⟩
theorem just_chk : chkG (.mk 1 0 0 []) = 0 := by decide
set_option maxHeartbeats 400000 in
theorem Count_just (w : World) : Calls Try.prog 8 #[.agg #[.int .i64 1, .int .i64 0, .int .i64 0, .slice none 0 0]] w fun e w' => e = .returned (.tuple #[.int .i64 1, .nilIface]) ∧ Below w.heap.size w w' := by
  have B0 : Hid (Below w.heap.size w (w.alloc (.cells #[.int .i64 1, .int .i64 0, .int .i64 0, .slice none 0 0] 24))) := (Below.refl _ _).alloc (Nat.le_refl _) _
  have X0 := hid (Has.new w (.cells #[.int .i64 1, .int .i64 0, .int .i64 0, .slice none 0 0] 24))
  go_enter Try.func8, Try.ntmps8
  go_wp2_with fail
  refine (gcheck_any (.mk 1 0 0 []) (fun _ => False) _ _ _ _ _ (fun b hb => hb.elim) (ge_leaf (by decide) (by decide) (by decide))).mono ?_
  rintro e w1 ⟨rfl, hb1⟩
  rw [just_chk, errV_0]
  have B1 := hid (B0.out.trans (hb1.mono (by simp)))
  have X1 := Has.below X0.out hb1 (by simp)
  have x0 := Has.cell X1 0
  have x1 := Has.cell X1 1
  have x2 := Has.cell X1 2
  have x3 := Has.cell X1 3
  simp at x0 x1 x2 x3
  clear hb1 X1
  go_wp2_with fail
  refine (count_just 0 w1).mono ?_
  rintro e w2 ⟨rfl, hb2⟩
  have B2 := hid (B1.out.trans (hb2.mono B1.out.size))
  clear hb2
  go_wp2_with fail
  go_ret2
  exact ⟨rfl, B2.out⟩
set_option maxHeartbeats 400000 in
theorem just_any (w : World) : Calls Try.prog 6 #[] w fun e w' => e = .returned (.bool true) ∧ Below w.heap.size w w' := by
  go_enter Try.func6, Try.ntmps6
  go_wp2_with fail
  refine (Count_just w).mono ?_
  rintro e w1 ⟨rfl, hb1⟩
  have B1 := hid hb1
  clear hb1
  go_wp2_with fail
  go_ret
  exact ⟨rfl, B1.out⟩
theorem at0_zero {l : List Int} (h : ∀ z ∈ l, z = 0) (i : Nat) : at0 l i = 0 := by
  unfold at0
  rw [List.getD_eq_getElem?_getD]
  by_cases hi : i < l.length
  · rw [List.getElem?_eq_getElem hi]; exact h _ (List.getElem_mem hi)
  · rw [List.getElem?_eq_none (by omega)]; rfl
theorem own_at {w : World} {B c n : Nat} {e : TypeId} {A : Option Addr} {zs : List Int} {i : Nat} (h : w.ownsRow B e 1 (.slice A n c) n (zs.map (Value.int .i64))) (hn : zs.length = n) (hi : i < n) : ∃ g, A = some ⟨g, 0, none⟩ ∧ w.cell? ⟨g, i, none⟩ = some (.int .i64 (at0 zs i)) := by
  obtain ⟨g, cg, e, _, _, _, _, _⟩ := own_open h (by omega)
  injection e with e1 _ e3
  subst e1 e3
  refine ⟨g, rfl, ?_⟩
  have := h.cellAt i (by omega)
  rw [List.getElem?_map, List.getElem?_eq_getElem (by omega)] at this
  rw [this]
  unfold at0
  rw [List.getD_eq_getElem?_getD, List.getElem?_eq_getElem (by omega)]
  rfl
set_option maxRecDepth 100000 in
set_option maxHeartbeats 2000000 in
theorem genNoughts_walk (g : Ge) (vg : Value) (zs : List Int) (v : Value) (W : World) (hg : ∃ u x y c, vg = .agg #[u, x, y, c] ∧ GeIn (fun b => b < W.heap.size) W g u x y c) (h : IntsIn .i64 (fun b => b < W.heap.size) W v zs) :
    Calls Try.prog 3 #[vg, v] W (LawPost W) := by
  obtain ⟨u1, u2, u3, u4, rfl, hg⟩ := hg
  have HG := hid hg
  have H := hid h
  have PF : Hid (chkG g = 0 → (∀ z ∈ mendL g [], z = 0) ∧ (∀ z ∈ mendL g zs, 0 ≤ z) ∧ ((∀ i, i < (mendL g []).length → i < (mendL g zs).length → at0 (mendL g zs) i = 0) → (mendL g []).length = (mendL g zs).length) ∧ (mendL g []).length ≤ 1000000000 ∧ (mendL g zs).length ≤ 1000000000) := fun hc => by
    have h1 := mendL_spec g []
    have h2 := mendL_spec g zs
    have z := h1.2.2.2 rfl
    refine ⟨z, h2.2.2.1, fun hh => ?_, mendL_len g [] hc, mendL_len g zs hc⟩
    rw [path_free g.made _ _ h1.2.1 h2.2.1 fun i hi hi' => by rw [at0_zero z i, hh i hi hi']]
  have MA := hid (mend_any g)
  have MR : Hid (∀ t, chkG g = 0 → mendR g t = mendL g t) := fun t h => by unfold mendR; rw [if_pos h]
  obtain ⟨k, a, b, s⟩ := g
  generalize hG : Ge.mk k a b s = G at HG MA MR PF
  obtain ⟨A, cp, rfl, rfl, rfl, rfl, _, _, _⟩ := hg.box
  obtain ⟨Az, cz, rfl, _, _, _⟩ := h
  have B0 : Hid (Below W.heap.size W (W.alloc (.cells #[.int .i64 k, .int .i64 a, .int .i64 b, .slice A s.length cp] 24))) := (Below.refl _ _).alloc (Nat.le_refl _) _
  have X0 := hid (Has.new W (.cells #[.int .i64 k, .int .i64 a, .int .i64 b, .slice A s.length cp] 24))
  clear hg hG
  go_enter Try.func3, Try.ntmps3
  go_wp2_with fail
  refine (just_any _).mono ?_
  rintro e w1 ⟨rfl, hb⟩
  have B1 := hid (B0.out.trans (hb.mono (by simp)))
  have X1 := hid (Has.below X0.out hb (by simp))
  have x0 := Has.cell X1.out 0
  have x1 := Has.cell X1.out 1
  have x2 := Has.cell X1.out 2
  have x3 := Has.cell X1.out 3
  simp at x0 x1 x2 x3
  clear hb X0 B0
  go_wp2_with fail
  refine (MA.out [] (fun b => b < W.heap.size) _ _ _ _ _ w1 (fun b hb => by have := B1.out.size; omega) (GeIn.keep (Same.of_below B1.out fun b h => h) _ HG.out) IntsIn.nil_).mono ?_
  rintro e w2 ⟨v6, rfl, o6, hb⟩
  have O6 := hid o6
  have B2 := hid (B1.out.trans (hb.mono B1.out.size))
  have X2 := hid (Has.below X1.out hb (Has.lt X1.out))
  clear hb o6 X1 B1 x0 x1 x2 x3
  have x0 := Has.cell X2.out 0
  have x1 := Has.cell X2.out 1
  have x2 := Has.cell X2.out 2
  have x3 := Has.cell X2.out 3
  simp at x0 x1 x2 x3
  go_wp2_with fail
  refine (MA.out zs (fun b => b < W.heap.size) _ _ _ _ _ w2 (fun b hb => by have := B2.out.size; omega) (GeIn.keep (Same.of_below B2.out fun b h => h) _ HG.out) (H.out.keep (Same.of_below B2.out fun b h => h))).mono ?_
  rintro e w3 ⟨v8, rfl, o8, hb⟩
  have O8 := hid o8
  have P6 := hid (own_below O6.out hb)
  have B3 := hid (B2.out.trans (hb.mono B2.out.size))
  clear hb o8 X2 x0 x1 x2 x3 O6
  by_cases hc : chkG G = 0
  · rw [hc, errV_0]
    obtain ⟨p1, p2, p3, p4, p5⟩ := PF.out hc
    rw [MR.out [] hc] at P6
    rw [MR.out zs hc] at O8
    have P1 := hid p1
    have P2 := hid p2
    have P3 := hid p3
    generalize mendL G [] = M at *
    generalize mendL G zs = T at *
    obtain ⟨A6, c6, rfl⟩ := own_slice3 P6.out
    obtain ⟨A8, c8, rfl⟩ := own_slice3 O8.out
    clear hc p1 p2 p3 PF MR MA
    go_wp2_with fail
    go_loop [10] (fun iv => ∃ i : Nat, i ≤ M.length ∧ iv = .int .i64 i) (fun iv => M.length - (intOf iv).toNat)
    case atStart => exact ⟨0, Nat.zero_le _, rfl⟩
    case round =>
      obtain ⟨i, hi, rfl⟩ := hrel
      by_cases hlt : i < M.length
      · obtain ⟨g6, rfl, c1⟩ := own_at P6.out rfl hlt
        rw [at0_zero P1.out i] at c1
        have i1 : (i : Int) < (M.length : Int) := by omega
        go_wp2_with fail
        go_round
        case rel => exact ⟨i + 1, by omega, by go_num⟩
        case measure => simp [intOf]; omega
      · obtain rfl : i = M.length := by omega
        go_wp2_with fail
        go_loopw [11] (fun iv wr => ∃ i q : Nat, i ≤ M.length ∧ i ≤ T.length ∧ iv = .int .i64 i ∧ Hid (∀ j, j < i → at0 T j = 0) ∧ wr = w3.drewN q) (fun iv _ => M.length - (intOf iv).toNat)
        case atStart => exact ⟨0, 0, Nat.zero_le _, Nat.zero_le _, rfl, fun j hj => by omega, rfl⟩
        case round =>
          obtain ⟨j, q, hj1, hj2, rfl, hz, rfl⟩ := hrel
          by_cases hm : j < M.length
          · by_cases ht : j < T.length
            · obtain ⟨g6, rfl, c1⟩ := own_at P6.out rfl hm
              obtain ⟨g8, rfl, c2⟩ := own_at O8.out rfl ht
              rw [at0_zero P1.out j] at c1
              have j1 : (j : Int) < (M.length : Int) := by omega
              have j2 : (j : Int) < (T.length : Int) := by omega
              have TP : 0 ≤ at0 T j := P2.out _ (by unfold at0; rw [List.getD_eq_getElem?_getD, List.getElem?_eq_getElem ht]; exact List.getElem_mem ht)
              have HZ : Hid (at0 T j = 0 → ∀ i, i < j + 1 → at0 T i = 0) := fun h i hi => by
                by_cases e : i = j
                · rw [e]; exact h
                · exact hz.out i (by omega)
              generalize at0 T j = z at *
              by_cases h0 : z = 0
              · subst h0
                have HZ2 := hid (HZ.out rfl)
                go_upto_region 16 with fail
                go_quiet (fail)
                go_wp2_with fail
                go_roundw
                case rel => exact ⟨j + 1, _, by omega, by omega, by go_num, HZ2, rfl⟩
                case measure => simp [intOf]; omega
              · have d1 : (z != 0) = true := by simp [h0]
                have d2 : decide (0 < z) = true := by simp; omega
                have z1 : 0 < z := by omega
                clear h0
                go_upto_region 16 with fail
                go_quiet (fail)
                go_wp2_with fail
                go_quiet (fail)
                go_wp2_with fail
                go_ret
                exact ⟨rfl, below_drewN (below_drewN (below_drewN B3.out _) _) _⟩
            · obtain rfl : j = T.length := by omega
              have EL := P3.out fun i _ hi => hz.out i hi
              omega
          · obtain rfl : j = M.length := by omega
            have EL := P3.out fun i hi _ => hz.out i hi
            rw [← EL]
            clear EL
            go_wp2_with fail
            go_ret
            exact ⟨rfl, below_drewN B3.out _⟩
  · rw [errV_no hc]
    clear hc
    go_wp2_with fail
    go_ret
    exact ⟨rfl, B3.out⟩
end Go.Proofs.Ytkpgedejabahaaa
