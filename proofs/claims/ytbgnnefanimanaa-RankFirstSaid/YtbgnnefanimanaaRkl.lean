/- The law RankFirst: it returns true, and all that the call was given reads as before. No conditions. -/
import Derived.Test.YtbgnnefanimanaaRke
import Derived.Test.YtbgnnefanimanaaGjs
namespace Go.Proofs.Ytbgnnefanimanaa
open Go.RowKit Go.Deep
theorem madeI_list (n : Nat) : madeCells #[Value.int .i64 0] n = (List.replicate n (Value.int .i64 0)).toArray := by
  apply Array.ext
  · simp [madeCells]
  · intro i h1 h2; simp [madeCells, Nat.mod_one]
def irow (n : Nat) : Array Value := (List.replicate n (Value.int .i64 0)).toArray
def WithPost (zs : List Int) (x : Int) (w : World) (e : Ending) (w' : World) : Prop := ∃ r, e = .returned r ∧ w'.ownsRow w.heap.size 3 1 r zs.length ((zs.set 0 x).map (Value.int .i64)) ∧ Below w.heap.size w w'
theorem own_setI0 {w : World} {B : Nat} {e : TypeId} {g c n j : Nat} {ys : List Int} (h : w.ownsRow B e 1 (.slice (some ⟨g, 0, none⟩) n c) n (ys.map (Value.int .i64))) (u : Int) :
    (w.setCell ⟨g, j, none⟩ (.int .i64 u)).ownsRow B e 1 (.slice (some ⟨g, 0, none⟩) n c) n ((ys.set j u).map (Value.int .i64)) := by
  have := (h.stored j (.int .i64 u)).1
  rwa [← List.map_set] at this
set_option maxHeartbeats 1000000 in
theorem with_ref (zs : List Int) (x : Int) (F : Nat → Prop) (v : Value) (w : World) (hF : ∀ b, F b → b < w.heap.size) (hv : IntsIn .i64 F w v zs) (hl : 0 < zs.length) (hz : zs.length ≤ 1000000) :
    Calls Try.prog 8 #[v, .int .i64 0, .int .i64 x] w (WithPost zs x w) := by
  have H := hid hv
  have HF := hid hF
  obtain ⟨A, c, rfl, h1, _, _⟩ := hv
  clear h1 hF
  obtain ⟨i0, hi, hz0, hz1, hz2⟩ := info_parts infoInt
  have O0 := hid (World.ownsRow_lit (e := 3) (size := 1) (base := w.heap.size) w #[] 0 (Nat.le_refl _) (by unfold maxLen; omega) rfl)
  have C0 := hid (H.out.cells.keep (w' := w.alloc (Obj.cells #[] 3)) (fun b hb => Below.heap_alloc _ _ _ (HF.out b hb)))
  have k0 : (0 : Int) < (zs.length : Int) := by omega
  go_enter Try.func8, Try.ntmps8
  go_wp2_with (at_builtin; refine wpList_app _ rfl (.tmp 8) (.tmp 9) 30 rfl w.heap.size 3 i0 (.int .i64 0) 1 8 Try.underlying30 hi hz0 hz1 hz2 rfl (by decide) _ 0 [] rfl O0.out _ _ zs.length _ rfl C0.out (ints_one _ _) (by unfold maxLen; omega) (by omega) (by simp) ?_; intro v1 w1 hown hgrow hat; have B1 := hid (((Below.refl w.heap.size w).alloc (Nat.le_refl _) (.cells #[] 3)).grown hgrow (by simp) (own_ge O0.out)); have R1 := hid (show w1.ownsRow w.heap.size 3 1 v1 zs.length (zs.map (Value.int .i64)) from (by simpa using hown)); obtain ⟨g, cap, rfl, hb, hg, hc1, hc2, hcell⟩ := own_open R1.out hl; have q0 : w1.cell? ⟨g, 0, none⟩ = some (.int .i64 (at0 zs 0)) := (by rw [hcell 0 (by omega)]; unfold at0; rw [List.getD_eq_getElem?_getD]; simp [List.getElem?_eq_getElem hl]); have q1 := R1.out.frozenAt 0; clear hat hown hgrow hcell hc2)
  go_ret
  exact ⟨_, rfl, own_setI0 R1.out x, B1.out.setCell (p := ⟨g, 0, none⟩) hb _⟩
theorem mend_nought {g : Ge} (h : chkG g = 0) : mendL g [] = g.ans fun _ => 0 :=
  mend_by (fun m hm => ⟨Int.le_refl _, hm⟩) h fun p m _ _ _ => by simp [clampT]
theorem mend_top {g : Ge} (h : GoodG g) (hw : g.ways ≤ 1048576) : mendL g (List.replicate 4000 1001) = g.ans fun m => m := by
  have hr : Rule fun m => m := fun m hm => ⟨hm, Int.le_refl _⟩
  have hl := ans_short hr h hw
  refine mend_by hr (goodG_chk h) fun p m hp h0 h1 => ?_
  have hp2 : p < 4000 := by omega
  unfold clampT at0
  rw [List.length_replicate, if_pos hp2, List.getD_eq_getElem?_getD, List.getElem?_replicate, if_pos hp2]
  simp only [Option.getD_some]
  omega
def highTo (n i : Nat) : List Int := List.replicate i 1001 ++ List.replicate (n - i) 0
theorem highTo_len {n i : Nat} (h : i ≤ n) : (highTo n i).length = n := by unfold highTo; simp; omega
theorem highTo_set {n i : Nat} (h : i < n) : (highTo n i).set i 1001 = highTo n (i + 1) := by
  unfold highTo
  apply List.ext_getElem
  · simp; omega
  · intro j h1 h2
    simp only [List.length_set, List.length_append, List.length_replicate] at h1
    rw [List.getElem_set]
    by_cases e : i = j
    · subst e
      rw [if_pos rfl, List.getElem_append_left (by simp)]
      simp
    · rw [if_neg e]
      by_cases hj : j < i
      · rw [List.getElem_append_left (by simpa using hj), List.getElem_append_left (by simp; omega)]
        simp
      · rw [List.getElem_append_right (by simp; omega), List.getElem_append_right (by simp; omega)]
        simp
theorem highTo_set0 {n i : Nat} (h : 0 < n) (hi : 0 < i) (hn : i ≤ n) : (highTo n i).set (i - 1) 1001 = highTo n i := by
  unfold highTo
  apply List.ext_getElem
  · simp
  · intro j h1 h2
    simp only [List.length_set, List.length_append, List.length_replicate] at h1
    rw [List.getElem_set]
    split
    · rename_i e
      rw [List.getElem_append_left (by simp; omega)]
      simp
    · rfl
theorem highTo_step {n i : Nat} (h : i < n) : (highTo n (max i 1)).set i 1001 = highTo n (max (i + 1) 1) := by
  by_cases e : i = 0
  · subst e
    exact highTo_set0 (i := 1) h (by omega) (by omega)
  · rw [show max i 1 = i by omega, show max (i + 1) 1 = i + 1 by omega]
    exact highTo_set h
theorem highTo_all (n : Nat) : highTo n n = List.replicate n 1001 := by unfold highTo; simp
theorem highTo_wf (n i : Nat) : ∀ z ∈ highTo n i, (Lit.int .i64 z).wf = true := by
  intro z hz
  unfold highTo at hz
  rcases List.mem_append.1 hz with h | h <;> rw [List.eq_of_mem_replicate h] <;> decide
theorem irow_ints (n : Nat) (hn : n ≤ 1000000) (w : World) : IntsIn .i64 (fun b => b < (w.alloc (.cells (irow n) 3)).heap.size) (w.alloc (.cells (irow n) 3)) (.slice (some ⟨w.heap.size, 0, none⟩) n n) (highTo n 0) := by
  refine ⟨_, n, by rw [highTo_len (by omega)], by rw [highTo_len (by omega)]; unfold maxLen; omega, highTo_wf n 0, fun _ => ⟨w.heap.size, 0, rfl, by simp, fun j hj => ?_⟩⟩
  rw [highTo_len (by omega)] at hj
  rw [Nat.zero_add, (Has.cell (Has.new w (.cells (irow n) 3)) j)]
  unfold irow highTo
  simp [hj, List.getD_eq_getElem?_getD]
set_option maxRecDepth 100000 in
set_option maxHeartbeats 4000000 in
theorem rankFirst_walk (g : Ge) (vg : Value) (W : World) (hg : ∃ u x y c, vg = .agg #[u, x, y, c] ∧ GeIn (fun b => b < W.heap.size) W g u x y c) :
    Calls Try.prog 3 #[vg] W (LawPost W) := by
  obtain ⟨u1, u2, u3, u4, rfl, hg⟩ := hg
  have HG := hid hg
  have CA := hid (count_any g)
  have MA := hid (mend_any g)
  have RA := hid (rank_ok g)
  have C1 : Hid (cntE g ≠ 0 → cntN g = 0) := fun h => by unfold cntN; rw [if_neg h]
  have C2 : Hid (cntE g = 0 → chkG g = 0 ∧ (∃ m : Nat, cntN g = m + 1 ∧ m ≤ 1048576 ∧ Rk [g] (mendL g []) 0 ∧ Rk [g] (mendL g (List.replicate 4000 1001)) m)) := fun h => by
    obtain ⟨g1, g2, g3⟩ := cnt_good h
    have w1 := g1.ways
    refine ⟨goodG_chk g1, g.ways - 1, by omega, by omega, ?_, ?_⟩
    · have := rk_first [g] fun y hy => by simp at hy; subst hy; exact g1
      rw [ans_one] at this
      rw [mend_nought (goodG_chk g1)]; exact this
    · have := rk_last [g] fun y hy => by simp at hy; subst hy; exact g1
      rw [ans_one, prod_one] at this
      rw [mend_top g1 g2]; exact this
  have RP := hid (replay_mendL g)
  have MR : Hid (∀ t, chkG g = 0 → mendR g t = mendL g t ∧ (∀ z ∈ mendL g t, (Lit.int .i64 z).wf = true)) := fun t h => ⟨by unfold mendR; rw [if_pos h], fun z hz => by
    have := mendL_range g t h z hz
    exact WalkArith.wf_i64 (by omega)⟩
  obtain ⟨k, a, b, s⟩ := g
  generalize hG : Ge.mk k a b s = G at HG CA MA RA C1 C2 RP MR
  obtain ⟨A, cp, rfl, rfl, rfl, rfl, _, _, _⟩ := hg.box
  have B0 : Hid (Below W.heap.size W (W.alloc (.cells #[.int .i64 k, .int .i64 a, .int .i64 b, .slice A s.length cp] 24))) := (Below.refl _ _).alloc (Nat.le_refl _) _
  have X0 := hid (Has.new W (.cells #[.int .i64 k, .int .i64 a, .int .i64 b, .slice A s.length cp] 24))
  clear hg hG
  go_enter Try.func3, Try.ntmps3
  go_wp2_with fail
  refine (just_any _).mono ?_
  rintro e w1 ⟨rfl, hb⟩
  have B1 := hid (B0.out.trans (hb.mono (by simp)))
  have X1 := hid (Has.below X0.out hb (by simp))
  have x0 := Has.cell X1.out 0
  have x1 := Has.cell X1.out 1
  have x2 := Has.cell X1.out 2
  have x3 := Has.cell X1.out 3
  simp at x0 x1 x2 x3
  clear hb X0 B0
  go_wp2_with fail
  refine (CA.out (fun b => b < W.heap.size) _ _ _ _ w1 (fun b hb => by have := B1.out.size; omega) (GeIn.keep (Same.of_below B1.out fun b h => h) _ HG.out)).mono ?_
  rintro e w2 ⟨rfl, hb⟩
  have B2 := hid (B1.out.trans (hb.mono B1.out.size))
  have X2 := hid (Has.below X1.out hb (Has.lt X1.out))
  clear hb X1 B1 x0 x1 x2 x3
  by_cases hc : cntE G = 0
  · obtain ⟨hk, m, hm, hm2, rk1, rk2⟩ := C2.out hc
    have HK := hid hk
    have HC := hid hc
    obtain ⟨mr1, mw1⟩ := MR.out [] hk
    obtain ⟨mr2, mw2⟩ := MR.out (List.replicate 4000 1001) hk
    obtain ⟨z1, hz1⟩ := RP.out [] hk
    obtain ⟨z2, hz2⟩ := RP.out (List.replicate 4000 1001) hk
    have P1 := hid mr1
    have P2 := hid mr2
    have W1 := hid mw1
    have W2 := hid mw2
    have Z1 := hid hz1
    have Z2 := hid hz2
    have K1 := hid rk1
    have K2 := hid rk2
    have M2 := hid hm2
    rw [hc, hm, errV_0]
    have x0 := Has.cell X2.out 0
    have x1 := Has.cell X2.out 1
    have x2 := Has.cell X2.out 2
    have x3 := Has.cell X2.out 3
    simp at x0 x1 x2 x3
    clear hk hm mr1 mr2 mw1 mw2 hz1 hz2 rk1 rk2 hm2 hc C1 C2 MR RP CA
    go_wp2_with fail
    refine (MA.out [] (fun b => b < W.heap.size) _ _ _ _ _ w2 (fun b hb => by have := B2.out.size; omega) (GeIn.keep (Same.of_below B2.out fun b h => h) _ HG.out) IntsIn.nil_).mono ?_
    rintro e w3 ⟨v6, rfl, o6, hb⟩
    rw [HK.out, errV_0]
    rw [P1.out] at o6
    obtain ⟨A6, c6, rfl⟩ := own_slice3 o6
    have O6 := hid (ints_of_own o6 W1.out)
    have B3 := hid (B2.out.trans (hb.mono B2.out.size))
    have X3 := hid (Has.below X2.out hb (Has.lt X2.out))
    clear hb o6 X2 x0 x1 x2 x3
    have x0 := Has.cell X3.out 0
    have x1 := Has.cell X3.out 1
    have x2 := Has.cell X3.out 2
    have x3 := Has.cell X3.out 3
    simp at x0 x1 x2 x3
    go_wp2_with fail
    refine (RA.out (mendL G []) 0 z1 (fun b => b < w3.heap.size) _ _ _ _ _ w3 (fun b hb => hb) (GeIn.more (fun b hb => by have := B3.out.size; omega) _ (GeIn.keep (Same.of_below B3.out fun b h => h) _ HG.out)) (O6.out.more fun b hb => hb.2) HC.out Z1.out K1.out).mono ?_
    rintro e w4 ⟨rfl, hb⟩
    have B4 := hid (B3.out.trans (hb.mono B3.out.size))
    have X4 := hid (Has.below X3.out hb (Has.lt X3.out))
    clear hb X3 x0 x1 x2 x3 O6
    have hmk := fun w => (run_make_row' (P := Try.prog) 30 3 (.int .i64 0) 8 Try.underlying30 infoInt rfl .i64 .i64 4000 (by omega) (by omega) w)
    simp only [madeI_list] at hmk
    replace hmk : ∀ w : World, Sem.run Try.prog (Instr.makeSlice 30 (.int .i64 4000) (.int .i64 4000)) w = .ok (.slice (some ⟨w.heap.size, 0, none⟩) 4000 4000) (w.alloc (.cells (irow 4000) 3)) := hmk
    have I4 := hid (irow_ints 4000 (by omega) w4)
    have B5 := hid (B4.out.alloc B4.out.size (.cells (irow 4000) 3))
    have X5 := hid (Has.alloc X4.out (.cells (irow 4000) 3))
    obtain ⟨w5, hw5⟩ : ∃ w5, w5 = w4.alloc (.cells (irow 4000) 3) := ⟨_, rfl⟩
    have HW5 := hid hw5
    rw [← hw5] at I4 B5 X5
    clear hw5 X4 B4
    go_wp2_with fail
    rw [← HW5.out]
    refine (with_ref (highTo 4000 0) 1001 (fun b => b < w5.heap.size) _ w5 (fun b hb => hb) I4.out (by rw [highTo_len (Nat.zero_le _)]; omega) (by rw [highTo_len (Nat.zero_le _)]; omega)).mono ?_
    rintro e w6 ⟨v10, rfl, o10, hb⟩
    rw [highTo_len (Nat.zero_le _), highTo_set (by omega)] at o10
    have BH := hid hb
    obtain ⟨g, cap, e10, hb10, hg10, hc1, hc2, _⟩ := own_open o10 (by omega)
    subst e10
    have O10 := hid (show w6.ownsRow w5.heap.size 3 1 (.slice (some ⟨g, 0, none⟩) 4000 cap) 4000 ((highTo 4000 (max 0 1)).map (Value.int .i64)) from o10)
    clear hb o10 I4 hmk hc2
    go_wp2_with fail
    go_loopw [11] (fun iv wr => ∃ i : Nat, i ≤ 4000 ∧ iv = .int .i64 i ∧ Hid (wr.ownsRow w5.heap.size 3 1 (.slice (some ⟨g, 0, none⟩) 4000 cap) 4000 ((highTo 4000 (max i 1)).map (Value.int .i64))) ∧ Hid (Below w5.heap.size w5 wr)) (fun iv _ => 4000 - (intOf iv).toNat)
    case atStart => exact ⟨0, Nat.zero_le _, rfl, O10, BH⟩
    case round =>
      obtain ⟨i, hi, rfl, hO, hB⟩ := hrel
      obtain ⟨wo, rfl⟩ : ∃ wo : World, wo = wr := ⟨_, rfl⟩
      by_cases hlt : i < 4000
      · obtain ⟨g', cap', e', _, _, _, _, hcell⟩ := own_open hO.out (by omega)
        injection e' with e1 _ e3
        injection e1 with e1
        injection e1 with e1 _ _
        subst e1 e3
        have LL : (highTo 4000 (max i 1)).length = 4000 := highTo_len (by omega)
        obtain ⟨u, hu⟩ : ∃ u, wo.cell? ⟨g, i, none⟩ = some (.int .i64 u) := ⟨(highTo 4000 (max i 1))[i]'(by omega), by rw [hcell i (by omega), List.getElem?_map, List.getElem?_eq_getElem (by omega)]; rfl⟩
        have q1 := hO.out.frozenAt i
        have i1 : (i : Int) < 4000 := by omega
        have NO := hid (own_setI0 (j := i) hO.out 1001)
        rw [highTo_step hlt] at NO
        have NB := hid (hB.out.setCell (p := ⟨g, i, none⟩) hb10 (.int .i64 1001))
        clear hcell LL
        go_wp2_with fail
        go_roundw
        case rel => exact ⟨i + 1, by omega, by go_num, NO, NB⟩
        case measure => simp [intOf]; omega
      · obtain rfl : i = 4000 := by omega
        have I7 : Hid (IntsIn .i64 (fun b => b < wo.heap.size) wo (.slice (some ⟨g, 0, none⟩) 4000 cap) (List.replicate 4000 1001)) := by
          have h1 := hO.out
          rw [show max 4000 1 = 4000 by omega, highTo_all] at h1
          exact (ints_of_own h1 (fun z hz => by rw [List.eq_of_mem_replicate hz]; decide)).more fun b hb => hb.2
        have B7 := hid (B5.out.trans (hB.out.mono B5.out.size))
        have X7 := hid (Has.below X5.out hB.out (Has.lt X5.out))
        have x0 := Has.cell X7.out 0
        have x1 := Has.cell X7.out 1
        have x2 := Has.cell X7.out 2
        have x3 := Has.cell X7.out 3
        simp at x0 x1 x2 x3
        clear X5
        go_wp2_with fail
        refine (MA.out (List.replicate 4000 1001) (fun b => b < wo.heap.size) _ _ _ _ _ wo (fun b hb => hb) (GeIn.more (fun b hb => by have := B7.out.size; omega) _ (GeIn.keep (Same.of_below B7.out fun b h => h) _ HG.out)) I7.out).mono ?_
        rintro e w8 ⟨v12, rfl, o12, hb⟩
        rw [HK.out, errV_0]
        rw [P2.out] at o12
        obtain ⟨A12, c12, rfl⟩ := own_slice3 o12
        have O12 := hid (ints_of_own o12 W2.out)
        have B8 := hid (B7.out.trans (hb.mono B7.out.size))
        have X8 := hid (Has.below X7.out hb (Has.lt X7.out))
        clear hb o12 X7 x0 x1 x2 x3
        have x0 := Has.cell X8.out 0
        have x1 := Has.cell X8.out 1
        have x2 := Has.cell X8.out 2
        have x3 := Has.cell X8.out 3
        simp at x0 x1 x2 x3
        go_wp2_with fail
        refine (RA.out (mendL G (List.replicate 4000 1001)) m z2 (fun b => b < w8.heap.size) _ _ _ _ _ w8 (fun b hb => hb) (GeIn.more (fun b hb => by have := B8.out.size; omega) _ (GeIn.keep (Same.of_below B8.out fun b h => h) _ HG.out)) (O12.out.more fun b hb => hb.2) HC.out Z2.out K2.out).mono ?_
        rintro e w9 ⟨rfl, hb⟩
        have B9 := hid (B8.out.trans (hb.mono B8.out.size))
        have wm : wrap64 (((m + 1 : Nat) : Int) - 1) = (m : Int) := by have := M2.out; unfold wrap64; omega
        have wm2 : wrap64 ((m : Int) + 1 - 1) = (m : Int) := by have := M2.out; unfold wrap64; omega
        have wm3 : wrap64 (m : Int) = (m : Int) := by have := M2.out; unfold wrap64; omega
        have em : ((m : Int) == (m : Int)) = true := by simp
        clear hb X8 x0 x1 x2 x3
        go_wp2_with fail
        go_ret
        exact ⟨rfl, B9.out⟩
  · rw [C1.out hc, errV_no hc]
    clear hc C2 MR RP RA MA CA X2
    go_wp2_with fail
    go_ret
    exact ⟨rfl, B2.out⟩
end Go.Proofs.Ytbgnnefanimanaa
