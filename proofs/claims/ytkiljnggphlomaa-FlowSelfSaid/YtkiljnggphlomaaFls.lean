/- The law FlowSelf: it returns true, and all that the call was given reads as before. No conditions. -/
import Derived.Test.YtkiljnggphlomaaFov
import Derived.Test.YtkiljnggphlomaaEds
import Derived.Test.YtkiljnggphlomaaFlf
import Derived.Test.YtkiljnggphlomaaRin
import Derived.Deep.RegionHeld3
namespace Go.Proofs.Ytkiljnggphlomaa
open Go.RowKit Go.Deep
theorem fact_reach : reachR 1 [] = [0] ∧ flowC 1 [] = 0 := by decide
theorem over_first {n : Int} {l : EdgeL} (h : flowC n l = 0) : overC n l 0 = 0 ∧ overR n l 0 = [0] := by
  obtain ⟨h1, h2, h3, hl⟩ := flow_good h
  have hl' : ∀ e ∈ l, 0 ≤ e.2 := fun e he => (hl e he).2.2.1
  have C : overC n l 0 = 0 := by
    unfold overC
    rw [if_neg (by rw [h]; simp), if_neg (by omega), if_neg]
    rw [show (0 : Int).toNat = 0 from rfl, mets_first n.toNat l hl' (-1) (by decide) (by omega)]; simp
  refine ⟨C, ?_⟩
  unfold overR
  rw [if_pos C]
  exact over_zero n.toNat l hl' (by omega)
theorem over_in {n : Int} {l : EdgeL} (i : Int) (h : flowC n l = 0) : (overC n l i = 0 ↔ i ∈ reachR n l) ∧ (overC n l i = 0 → (0 : Int) ∈ overR n l i ∧ i ∈ overR n l i) := by
  obtain ⟨h1, h2, h3, hl⟩ := flow_good h
  have hl' : ∀ e ∈ l, 0 ≤ e.2 := fun e he => (hl e he).2.2.1
  have R : reachR n l = reachL n.toNat l := by unfold reachR; rw [if_pos h]; rfl
  refine ⟨?_, fun C => ?_⟩
  · rw [R, in_reach]
    unfold overC
    rw [if_neg (by rw [h]; simp)]
    by_cases hr : i < 0 ∨ n ≤ i
    · rw [if_pos hr]; constructor
      · intro h; cases h
      · intro h; omega
    · rw [if_neg hr]
      cases hb : bAt (mets n.toNat l (-1)) i.toNat
      · simp
      · simp; omega
  · have hr : ¬ (i < 0 ∨ n ≤ i) := fun hr => by unfold overC at C; rw [if_neg (by rw [h]; simp), if_pos hr] at C; cases C
    unfold overR
    rw [if_pos C]
    have := over_both n.toNat l hl' i.toNat (by omega)
    rw [show ((i.toNat : Nat) : Int) = i by omega] at this
    exact this
def LawPost (W : World) (e : Ending) (w' : World) : Prop := e = .returned (.bool true) ∧ Below W.heap.size W w'
theorem errV_pos {f : Int} (h : f ≠ 0) : errV f = .iface 47 (.int .i64 f) := by unfold errV; rw [if_neg h]
theorem reach_wf (n : Int) (l : EdgeL) : ∀ z ∈ reachR n l, (Lit.int .i64 z).wf = true := by
  intro z hz
  unfold reachR at hz
  split at hz
  · rename_i h
    have := flow_good h
    exact filtI_wf _ _ (by omega) z hz
  · cases hz
theorem over_wf (n : Int) (l : EdgeL) (i : Int) : ∀ z ∈ overR n l i, (Lit.int .i64 z).wf = true := by
  intro z hz
  unfold overR at hz
  split at hz
  · rename_i h
    have h0 : flowC n l = 0 := by
      by_cases hg : flowC n l = 0
      · exact hg
      · unfold overC at h; rw [if_pos hg] at h; exact absurd h hg
    have := flow_good h0
    exact filtI_wf _ _ (by omega) z hz
  · cases hz
set_option maxRecDepth 100000 in
set_option maxHeartbeats 2000000 in
theorem flowSelf_walk (n : Int) (l : EdgeL) (v : Value) (i : Int) (W : World) (hv : EdgesIn (fun b => b < W.heap.size) W v l) :
    Calls Try.prog 4 #[.int .i64 n, v, .int .i64 i] W (LawPost W) := by
  have H := hid hv
  obtain ⟨A, c, rfl, hc, _, _⟩ := hv
  unfold maxLen at hc
  go_enter Try.func4, Try.ntmps4
  go_wp2_with fail
  refine (over_any n l 0 (fun b => b < W.heap.size) _ W (fun b h => h) H.out).mono ?_
  rintro e w1 ⟨r1, rfl, hb1, ho1⟩
  have B1 := hid hb1
  have O1 := hid ho1
  obtain ⟨A1, c1, rfl, hc1, _⟩ := own_sl ho1
  clear hb1 ho1
  have F0 := fact_reach
  by_cases hg : flowC n l = 0
  · have HG := hid hg
    rw [(over_first hg).1, errV_0]
    rw [(over_first hg).2] at O1 hc1
    rw [(over_first hg).2]
    clear hg
    go_wp2_with fail
    refine (reach_any 1 [] (fun _ => False) _ w1 (fun b h => h.elim) EdgesIn.nil_).mono ?_
    rintro e w2 ⟨r2, rfl, hb2, ho2⟩
    have B2 := hid (B1.out.trans (hb2.mono B1.out.size))
    have O2 := hid (own_below O1.out hb2)
    rw [F0.1] at ho2
    rw [F0.2, errV_0]
    obtain ⟨A2, c2, rfl, _, _⟩ := own_sl ho2
    clear hb2 ho2 F0
    go_wp2_with fail
    refine (over_any n l i (fun b => b < W.heap.size) _ w2 (fun b h => Nat.lt_of_lt_of_le h B2.out.size) (H.out.keep (Same.of_below B2.out fun b h => h))).mono ?_
    rintro e w3 ⟨r3, rfl, hb3, ho3⟩
    have B3 := hid (B2.out.trans (hb3.mono B2.out.size))
    have O3 := hid (own_below O2.out hb3)
    have P3 := hid (ints_of_own ho3 (over_wf n l i))
    have P3s := hid (own_sl ho3)
    clear hb3 ho3
    go_wp2_with fail
    refine (reach_any n l (fun b => b < W.heap.size) _ w3 (fun b h => Nat.lt_of_lt_of_le h B3.out.size) (H.out.keep (Same.of_below B3.out fun b h => h))).mono ?_
    rintro e w4 ⟨r4, rfl, hb4, ho4⟩
    have B4 := hid (B3.out.trans (hb4.mono B3.out.size))
    have O4 := hid (own_below O3.out hb4)
    have P4 := hid ((P3.out.keep (Same.of_below hb4 fun b h => h.2)).more (F' := fun b => b < w4.heap.size) fun b h => Nat.lt_of_lt_of_le h.2 hb4.size)
    have M4 := hid ((ints_of_own ho4 (reach_wf n l)).more (F' := fun b => b < w4.heap.size) fun b h => h.2)
    rw [HG.out, errV_0]
    clear hb4 ho4
    go_wp2_with fail
    have BX : Hid (Below w4.heap.size w4 (w4.alloc (.cells #[.int .i64 0] 3))) := (Below.refl _ _).alloc (Nat.le_refl _) _
    have B5 := hid (B4.out.trans (BX.out.mono B4.out.size))
    have LEN : Hid (l.length ≤ 30) := (flow_good HG.out).2.2.1
    refine (left_one n l (fun b => b < W.heap.size) _ w4.heap.size 1 _ (fun b h => Nat.lt_of_lt_of_le h B5.out.size) (H.out.keep (Same.of_below B5.out fun b h => h)) (by simp) (by have := LEN.out; omega)).mono ?_
    rintro e w6 ⟨r6, rfl, hb6, ho6⟩
    have L : leftL n l = l := by unfold leftL; rw [if_pos HG.out]
    rw [L] at ho6
    have B46 := hid (BX.out.trans (hb6.mono BX.out.size))
    have B6 := hid (B4.out.trans (B46.out.mono B4.out.size))
    have O6 := hid (own_below O4.out B46.out)
    have P6 := hid ((P4.out.keep (Same.of_below B46.out fun b h => h)))
    have M6 := hid ((M4.out.keep (Same.of_below B46.out fun b h => h)))
    have WF : Hid (∀ e ∈ l, wf64 e.1 ∧ wf64 e.2) := by obtain ⟨_, _, _, _, h, _⟩ := H.out; exact h
    have E6 := hid (edges_of_own ho6 WF.out)
    obtain ⟨A6, c6, rfl, _, _⟩ := own_sl ho6
    rw [HG.out, errV_0]
    clear hb6 ho6 L BX B5
    go_wp2_with fail
    refine (edges_any l l (fun _ => True) _ _ w6 (E6.out.more fun _ _ => trivial) ((H.out.keep (Same.of_below B6.out fun b h => h)).more fun _ _ => trivial)).mono ?_
    rintro e w7 ⟨rfl, q, rfl⟩
    rw [show decide (l = l) = true from decide_eq_true rfl]
    have B7 : Hid (Below W.heap.size W (w6.drewN q)) := below_drewN B6.out q
    have O7 : Hid ((w6.drewN q).ownsRow W.heap.size 3 1 (.slice A1 1 c1) 1 [.int .i64 0]) := O6.out
    have P7 : Hid (IntsIn .i64 (fun b => b < w4.heap.size) (w6.drewN q) r3 (overR n l i)) := P6.out
    have M7 : Hid (IntsIn .i64 (fun b => b < w4.heap.size) (w6.drewN q) r4 (reachR n l)) := M6.out
    have S7 : w4.heap.size ≤ (w6.drewN q).heap.size := B46.out.size
    clear B6 O6 P6 M6 E6 B46 P4 M4 O4 O3 O2 O1 B4 B3 B2 B1
    generalize w6.drewN q = w7 at *
    obtain ⟨g, cp, hs1, _, _, _, _, hcell⟩ := own_open O7.out (by omega)
    injection hs1 with hs1 _ hs2
    subst hs1 hs2
    have c0 : w7.cell? ⟨g, 0, none⟩ = some (.int .i64 0) := by have := hcell 0 (by omega); simpa using this
    obtain ⟨A3, cc3, rfl, _, _⟩ := P3s.out
    obtain ⟨A4, cc4, hr4, _⟩ := M7.out
    subst hr4
    clear hcell hc1
    by_cases hC : overC n l i = 0
    · have HC := hid hC
      have IN : Hid (decide (i ∈ reachR n l) = true) := by show _ = _; rw [decide_eq_true_eq]; exact ((over_in i HG.out).1).1 hC
      have P0 : Hid (decide ((0 : Int) ∈ overR n l i) = true) := by show _ = _; rw [decide_eq_true_eq]; exact ((over_in i HG.out).2 hC).1
      have PI : Hid (decide (i ∈ overR n l i) = true) := by show _ = _; rw [decide_eq_true_eq]; exact ((over_in i HG.out).2 hC).2
      rw [hC, errV_0]
      have M7d : Hid (IntsIn .i64 (fun b => b < w4.heap.size) w7.drew (.slice A4 (reachR n l).length cc4) (reachR n l)) := M7.out
      clear hC
      go_upto_region 11 with fail
      go_cut [92] (fun bv wx => bv = .bool false ∧ Hid (Below w7.heap.size w7 wx))
      case first =>
        go_region_held3 (fun w' => w'.cell? ⟨g, 0, none⟩ = some (.int .i64 0)) (exact c0)
          (first | (go_at_call 9; refine (rin_any (reachR n l) i _ _ _ M7d.out).mono ?_; rintro e w5 ⟨rfl, rfl⟩; rw [IN.out]))
        go_wp2_with fail
        go_meet
        exact ⟨rfl, by first | exact Below.refl _ _ | exact below_drewN (Below.refl _ _) _ | exact (Below.refl _ _).drew⟩
      case rest =>
        obtain ⟨rfl, hbc⟩ := hcut
        have B9 := hid (B7.out.trans (hbc.out.mono B7.out.size))
        have P9 := hid (P7.out.keep (Same.of_below hbc.out fun b h => Nat.lt_of_lt_of_le h S7))
        clear c0
        obtain ⟨w9, rfl⟩ : ∃ w9, w9 = wc := ⟨_, rfl⟩
        go_wp2_with fail
        refine (rin_any (overR n l i) 0 _ _ _ P9.out).mono ?_
        rintro e w10 ⟨rfl, rfl⟩
        rw [P0.out]
        go_wp2_with fail
        refine (rin_any (overR n l i) i _ _ _ P9.out).mono ?_
        rintro e w10 ⟨rfl, rfl⟩
        rw [PI.out]
        go_wp2_with fail
        go_ret
        exact ⟨rfl, B9.out⟩
    · have HC := hid hC
      have IN : Hid (decide (i ∈ reachR n l) = false) := by show _ = _; rw [decide_eq_false_iff_not]; exact fun h => hC (((over_in i HG.out).1).2 h)
      rw [errV_pos hC]
      have M7d : Hid (IntsIn .i64 (fun b => b < w4.heap.size) w7.drew (.slice A4 (reachR n l).length cc4) (reachR n l)) := M7.out
      clear hC
      go_upto_region 11 with fail
      go_cut [92] (fun bv wx => bv = .bool false ∧ Hid (Below w7.heap.size w7 wx))
      case first =>
        go_region_held3 (fun w' => w'.cell? ⟨g, 0, none⟩ = some (.int .i64 0)) (exact c0)
          (first | (go_at_call 9; refine (rin_any (reachR n l) i _ _ _ M7d.out).mono ?_; rintro e w5 ⟨rfl, rfl⟩; rw [IN.out]))
        go_wp2_with fail
        go_meet
        exact ⟨rfl, by first | exact Below.refl _ _ | exact below_drewN (Below.refl _ _) _ | exact (Below.refl _ _).drew⟩
      case rest =>
        obtain ⟨rfl, hbc⟩ := hcut
        have B9 := hid (B7.out.trans (hbc.out.mono B7.out.size))
        clear c0
        go_wp2_with fail
        go_ret
        exact ⟨rfl, B9.out⟩
  · have HG := hid hg
    have C : overC n l 0 = flowC n l := by unfold overC; rw [if_pos hg]
    have R : overR n l 0 = [] := by unfold overR; rw [C, if_neg hg]
    rw [C, errV_pos hg]
    rw [R] at O1 hc1
    rw [R]
    clear hg C R
    go_wp2_with fail
    refine (reach_any 1 [] (fun _ => False) _ w1 (fun b h => h.elim) EdgesIn.nil_).mono ?_
    rintro e w2 ⟨r2, rfl, hb2, ho2⟩
    have B2 := hid (B1.out.trans (hb2.mono B1.out.size))
    rw [F0.1] at ho2
    rw [F0.2, errV_0]
    obtain ⟨A2, c2, rfl, _, _⟩ := own_sl ho2
    clear hb2 ho2 F0
    go_wp2_with fail
    refine (fcheck_any n l (fun b => b < W.heap.size) _ w2 (fun b h => Nat.lt_of_lt_of_le h B2.out.size) (H.out.keep (Same.of_below B2.out fun b h => h))).mono ?_
    rintro e w3 ⟨rfl, hb3⟩
    have B3 := hid (B2.out.trans (hb3.mono B2.out.size))
    rw [errV_pos HG.out]
    clear hb3
    go_wp2_with fail
    go_ret
    exact ⟨rfl, B3.out⟩
end Go.Proofs.Ytkiljnggphlomaa
