/- The law TourTurned: it returns true, and all that the call was given reads as before. Condition: errors.errorType holds its handle. -/
import Derived.Test.YtkiljnggphlomaaDoorTrw
import Derived.Test.YtkiljnggphlomaaDoorEdo
import Derived.Test.YtkiljnggphlomaaDoorAst
namespace Go.Proofs.YtkiljnggphlomaaDoor
open Go.RowKit Go.Deep
def LawPost (W : World) (e : Ending) (w' : World) : Prop := e = .returned (.bool true) ∧ Below W.heap.size W w'
theorem turn_len (l : EdgeL) : (turn l).length = l.length := by simp [turn]
theorem turn_take (l : EdgeL) (j : Nat) (hj : j < l.length) : turn (l.take (j + 1)) = turn (l.take j) ++ [((eAt l j).2, (eAt l j).1)] := by
  unfold turn; rw [take_eAt hj, List.map_append]; rfl
theorem flow_turn (n : Int) (l : EdgeL) : flowC n (turn l) = flowC n l := by
  unfold flowC edgesC
  rw [turn_len]
  have e : (turn l).any (fun e => decide (min e.1 e.2 < 0) || decide (n ≤ max e.1 e.2)) = l.any (fun e => decide (min e.1 e.2 < 0) || decide (n ≤ max e.1 e.2)) := by
    unfold turn
    rw [List.any_map]
    congr 1
    funext e
    simp only [Function.comp]
    rw [Int.min_comm, Int.max_comm]
  rw [e]
/-- an error's number and a length that Round tells -/
def RCode (n : Int) (l : EdgeL) (c : Int) (k : Nat) : Prop :=
  (flowC n l ≠ 0 ∧ c = flowC n l ∧ k = 0) ∨ (flowC n l = 0 ∧ (∃ i, i < n.toNat ∧ offAt l i ≠ 0) ∧ c = 2 ∧ k = 0) ∨
  (flowC n l = 0 ∧ (∀ i, i < n.toNat → offAt l i = 0) ∧ ¬ conn l ∧ c = 2 ∧ k = 0) ∨ (flowC n l = 0 ∧ (∀ i, i < n.toNat → offAt l i = 0) ∧ conn l ∧ c = 0 ∧ k = l.length + 1)
theorem conn_both {n : Int} {l : EdgeL} (h : flowC n l = 0) (hb : ∀ i, i < n.toNat → offAt l i = 0) (hc : conn l) : conn (turn l) := by
  have ok := flow_ok h
  have e : ((n.toNat : Nat) : Int) = n := by have := ok.lo; omega
  exact conn_turn (n := n.toNat) (fun x hx => by rw [e]; exact ok.rg x hx) hb hc
theorem rcode_same {n : Int} {l : EdgeL} {c c' : Int} {k k' : Nat} (h : RCode n l c k) (h' : RCode n (turn l) c' k') : c' = c ∧ k' = k := by
  unfold RCode at h h'
  rw [flow_turn, turn_len] at h'
  have hb : ∀ i, offAt (turn l) i = 0 ↔ offAt l i = 0 := fun i => by rw [offAt_turn]; omega
  have hcn : flowC n l = 0 → (∀ i, i < n.toNat → offAt l i = 0) → (conn (turn l) ↔ conn l) := fun h0 hz =>
    ⟨fun hc => by
      have := conn_both (l := turn l) (by rw [flow_turn]; exact h0) (fun i hi => (hb i).2 (hz i hi)) hc
      rwa [turn_turn] at this, conn_both h0 hz⟩
  rcases h with ⟨a1, rfl, rfl⟩ | ⟨a1, ⟨i, a2, a3⟩, rfl, rfl⟩ | ⟨a1, a2, a3, rfl, rfl⟩ | ⟨a1, a2, a3, rfl, rfl⟩ <;>
  rcases h' with ⟨b1, rfl, rfl⟩ | ⟨b1, ⟨j, b2, b3⟩, rfl, rfl⟩ | ⟨b1, b2, b3, rfl, rfl⟩ | ⟨b1, b2, b3, rfl, rfl⟩ <;>
  first
    | exact ⟨rfl, rfl⟩
    | exact absurd b1 a1
    | exact absurd a1 b1
    | exact absurd ((hb i).1 (b2 i a2)) a3
    | exact absurd ((hb j).2 (a2 j b2)) b3
    | exact absurd ((hcn a1 a2).1 b3) a3
    | exact absurd ((hcn a1 a2).2 a3) b3
theorem round_code {W : World} {n : Int} {l : EdgeL} {e : Ending} {w' : World} (h : RoundPost W n l e w') : Below W.heap.size W w' ∧ ∃ A k cp c, e = .returned (.tuple #[.slice A k cp, errV c]) ∧ RCode n l c k := by
  obtain ⟨hb, h1 | h1 | h1 | h1⟩ := h
  · obtain ⟨a1, rfl⟩ := h1
    exact ⟨hb, none, 0, 0, _, rfl, .inl ⟨a1, rfl, rfl⟩⟩
  · obtain ⟨a1, a2, rfl⟩ := h1
    exact ⟨hb, none, 0, 0, _, rfl, .inr (.inl ⟨a1, a2, rfl, rfl⟩)⟩
  · obtain ⟨a1, a2, a3, rfl⟩ := h1
    exact ⟨hb, none, 0, 0, _, rfl, .inr (.inr (.inl ⟨a1, a2, a3, rfl, rfl⟩))⟩
  · obtain ⟨a1, a2, a3, A, c, rfl⟩ := h1
    exact ⟨hb, A, l.length + 1, c, 0, by rw [errV_0], .inr (.inr (.inr ⟨a1, a2, a3, rfl, rfl⟩))⟩
theorem code_one {c : Int} {k : Nat} (h : RCode 1 [] c k) : c = 0 ∧ k = 1 := by
  have f0 : flowC 1 [] = 0 := by decide
  have o0 : ∀ i, offAt [] i = 0 := fun i => rfl
  rcases h with ⟨a1, _⟩ | ⟨_, ⟨i, _, a3⟩, _⟩ | ⟨_, _, a3, _⟩ | ⟨_, _, _, rfl, rfl⟩
  · exact absurd f0 a1
  · exact absurd (o0 i) a3
  · exact absurd (fun e he => by simp at he) a3
  · exact ⟨rfl, rfl⟩
set_option maxRecDepth 100000 in
set_option maxHeartbeats 4000000 in
theorem tourTurned_walk (n : Int) (l : EdgeL) (v : Value) (W : World) (hL : Laid W) (hv : EdgesIn (fun b => b < W.heap.size) W v l) (hz : l.length * 16 ≤ 140737488351232) :
    Calls Tryd.prog 5 #[.int .i64 n, v] W (LawPost W) := by
  have HL := hid hL
  have HV := hid hv
  obtain ⟨A, c, rfl, _, hwf, h3⟩ := hv
  have H3 := hid h3
  have WF := hid hwf
  have LN : l.length ≤ 8796093021952 := by omega
  clear hL h3 hz hwf
  obtain ⟨i0, hi, hz0, hz1, hz2⟩ := info_parts infoEdge
  go_enter Tryd.func5, Tryd.ntmps5
  go_wp2_with fail
  refine (tround_any 1 [] (fun _ => False) _ W (fun b h => h.elim) EdgesIn.nil_).mono ?_
  intro e w1 hr
  obtain ⟨hb, A1, k1, p1, c1, rfl, hcode⟩ := round_code hr
  obtain ⟨rfl, rfl⟩ := code_one hcode
  rw [errV_0]
  have B1 := hid hb
  have s1 := hb.size
  clear hr hb hcode
  go_wp2_with fail
  go_loopw [7, 8] (fun bv ji wr => ∃ j : Nat, j ≤ l.length ∧ ji = .int .i64 j ∧ Hid (wr.ownsRow W.heap.size 32 2 bv j (ecells (turn (l.take j)))) ∧ Hid (Below W.heap.size W wr)) (fun _ ji _ => l.length - (intOf ji).toNat)
  case atStart => exact ⟨0, Nat.zero_le _, rfl, World.ownsRow_nil _ _ _ _, B1⟩
  case round =>
    clear B1 s1
    obtain ⟨j, hj, rfl, hO, hB⟩ := hrel
    have sB := hB.out.size
    obtain ⟨A2, cp2, rfl, _, _⟩ := own_sl hO.out
    by_cases hlt : j < l.length
    · obtain ⟨b, o, rfl, lb, hcc⟩ := H3.out (by omega)
      have c1 := (hB.out.cell (p := ⟨b, o + j * 2, none⟩) lb).trans (hcc j hlt).1
      have c2 := (hB.out.cell (p := ⟨b, o + j * 2 + 1, none⟩) lb).trans (hcc j hlt).2
      have i1 : (j : Int) < (l.length : Int) := by omega
      have TT := hid (turn_take l j hlt)
      generalize eAt l j = ee at c1 c2 TT
      obtain ⟨x, y⟩ := ee
      simp only [] at c1 c2 TT
      have OB := hid (hO.out.alloc (.cells #[.int .i64 y, .int .i64 x] 32))
      have C1 : Hid (CellsIn (fun b => b = wr.heap.size) (wr.alloc (.cells #[.int .i64 y, .int .i64 x] 32)) 2 (.slice (some ⟨wr.heap.size, 0, none⟩) 1 1) 1 [.int .i64 y, .int .i64 x]) :=
        ⟨_, 1, rfl, rfl, fun _ => ⟨wr.heap.size, 0, rfl, rfl, fun j u hj => by
          match j, hj with
          | 0, hj => simp at hj; subst hj; simp
          | 1, hj => simp at hj; subst hj; simp⟩⟩
      have e1 : (wr.alloc (.cells #[.int .i64 y, .int .i64 x] 32)).cell? ⟨b, o + j * 2, none⟩ = some (.int .i64 x) := (World.cell?_of_block (w := wr) (Below.heap_alloc wr _ b (by omega))).trans c1
      have e2 : (wr.alloc (.cells #[.int .i64 y, .int .i64 x] 32)).cell? ⟨b, o + j * 2 + 1, none⟩ = some (.int .i64 y) := (World.cell?_of_block (w := wr) (Below.heap_alloc wr _ b (by omega))).trans c2
      clear hcc hO
      go_upto_region 8 with fail
      go_region_law (first
        | (refine step_app _ (by rfl) (.tmp 36) (.tmp 48) 22 (by rfl) W.heap.size 32 i0 (.agg #[.int .i64 0, .int .i64 0]) 2 16 Tryd.underlying22 hi hz0 hz1 hz2 rfl (by decide) (.slice A2 j cp2) j _ (by simp [Act.eval, Act.put]) (by exact OB.out) _ (.slice (some ⟨wr.heap.size, 0, none⟩) 1 1) 1 [.int .i64 y, .int .i64 x] (by simp [Act.eval, Act.put]) (by exact C1.out) (by intro u hu; simp at hu; rcases hu with rfl | rfl <;> rfl) (by unfold maxLen; omega) (by omega) (by show W.heap.size ≤ (wr.alloc _).heap.size; simp; omega) ?_; intro v2 w2 hown2 hgrow2 hat2; have R2 : Hid (w2.ownsRow W.heap.size 32 2 v2 (j + 1) (ecells (turn (l.take (j + 1))))) := (by show World.ownsRow _ _ _ _ _ _ _; rw [TT.out, ecells_append]; exact hown2); have BN : Hid (Below W.heap.size W w2) := (hB.out.alloc sB (.cells #[.int .i64 y, .int .i64 x] 32)).drew.grown hgrow2 (by show W.heap.size ≤ (wr.alloc _).heap.size; simp; omega) (own_ge OB.out); clear hown2 hgrow2 hat2))
      all_goals
        go_wp2_with fail
        go_roundw
        case rel => exact ⟨j + 1, by omega, by go_num, R2, BN⟩
        case measure => simp [intOf]; omega
    · obtain rfl : j = l.length := by omega
      rw [List.take_length] at hO
      have WT : Hid (∀ e ∈ turn l, wf64 e.1 ∧ wf64 e.2) := fun e he => by
        obtain ⟨a, b⟩ := e
        have := WF.out _ (mem_turn.1 he)
        exact ⟨this.2, this.1⟩
      have E0 := hid ((edges_of_own hO.out WT.out).more (F' := fun b => b < wr.heap.size) fun b h => h.2)
      have j1 : ¬ (l.length : Int) < (l.length : Int) := by omega
      clear hO
      obtain ⟨wo, hwo⟩ : ∃ wo, wo = wr := ⟨_, rfl⟩
      subst hwo
      go_wp2_with fail
      refine (tround_any n l (fun b => b < W.heap.size) _ wo (fun b h => by omega) (HV.out.keep (Same.of_below hB.out fun b h => h))).mono ?_
      intro e w3 hr
      obtain ⟨hb, A3, k3, p3, c3, rfl, hcode⟩ := round_code hr
      have s3 := hb.size
      have B3 := hid (hB.out.trans (hb.mono sB))
      have E3 := hid ((E0.out.keep (Same.of_below hb fun b h => h)).more (F' := fun b => b < w3.heap.size) fun b h => by omega)
      have HCODE := hid hcode
      clear hr hb hcode E0 hB
      go_wp2_with fail
      refine (tround_any n (turn l) (fun b => b < w3.heap.size) _ w3 (fun b h => h) E3.out).mono ?_
      intro e w4 hr
      obtain ⟨hb, A4, k4, p4, c4, rfl, hcode⟩ := round_code hr
      obtain ⟨rfl, rfl⟩ := rcode_same HCODE.out hcode
      have s4 := hb.size
      have B4 := hid (B3.out.trans (hb.mono (by omega)))
      have E4 := hid ((E3.out.keep (Same.of_below hb fun b h => h)).more (F' := fun b => b < w4.heap.size) fun b h => by omega)
      clear hr hb hcode E3 B3 HCODE
      go_wp2_with fail
      refine (stold_any c4 c4 w4 (HL.out.below B4.out)).mono ?_
      rintro e w5 ⟨rfl, hb⟩
      have s5 := hb.size
      have B5 := hid (B4.out.trans (hb.mono (by omega)))
      have E5 := hid ((E4.out.keep (Same.of_below hb fun b h => h)).more (F' := fun b => b < w5.heap.size) fun b h => by omega)
      rw [show decide (c4 = c4) = true from decide_eq_true rfl]
      clear hb E4 B4
      go_wp2_with fail
      refine (toff_any n l (fun b => b < W.heap.size) _ w5 (fun b h => by omega) (HV.out.keep (Same.of_below B5.out fun b h => h))).mono ?_
      rintro e w6 ⟨hb, ⟨h0, rfl⟩ | ⟨h0, r6, rfl, hO6⟩⟩
      · have s6 := hb.size
        have B6 := hid (B5.out.trans (hb.mono (by omega)))
        have E6 := hid ((E5.out.keep (Same.of_below hb fun b h => h)).more (F' := fun b => b < w6.heap.size) fun b h => by omega)
        rw [errV_no h0]
        have H0 := hid h0
        clear hb h0 E5 B5
        go_wp2_with fail
        refine (toff_any n (turn l) (fun b => b < w6.heap.size) _ w6 (fun b h => h) E6.out).mono ?_
        rintro e w7 ⟨hb, ⟨h1, rfl⟩ | ⟨h1, _⟩⟩
        case inr => rw [flow_turn] at h1; exact absurd h1 H0.out
        have B7 := hid (B6.out.trans (hb.mono (by omega)))
        rw [errV_no h1]
        clear hb h1 E6 B6
        go_wp2_with fail
        go_upto_region 14 with fail
        go_quiet (fail)
        go_wp2_with fail
        go_loopw [18] (fun ji wr => ∃ q : Nat, ji = .int .i64 0 ∧ wr = w7.drewN q) (fun ji _ => 0)
        case atStart => exact ⟨_, rfl, rfl⟩
        case round =>
          obtain ⟨q, rfl, rfl⟩ := hrel
          go_wp2_with fail
          go_ret
          exact ⟨rfl, below_drewN B7.out _⟩
      · have s6 := hb.size
        have B6 := hid (B5.out.trans (hb.mono (by omega)))
        have E6 := hid ((E5.out.keep (Same.of_below hb fun b h => h)).more (F' := fun b => b < w6.heap.size) fun b h => by omega)
        have OK := hid (flow_ok h0)
        have O6 := hid hO6
        have H0 := hid h0
        obtain ⟨N, hN⟩ : ∃ N, N = n.toNat := ⟨_, rfl⟩
        rw [← hN] at O6
        have HN := hid hN
        have N12 : N ≤ 12 := by have := OK.out.hi; omega
        rw [← hN] at hO6
        obtain ⟨A6, p6, rfl, _, _⟩ := own_sl hO6
        clear hb h0 E5 B5 hO6 hN
        go_wp2_with fail
        refine (toff_any n (turn l) (fun b => b < w6.heap.size) _ w6 (fun b h => h) E6.out).mono ?_
        rintro e w7 ⟨hb, ⟨h1, _⟩ | ⟨h1, r7, rfl, hO7⟩⟩
        case inl => rw [flow_turn] at h1; exact absurd H0.out h1
        have B7 := hid (B6.out.trans (hb.mono (by omega)))
        rw [← HN.out] at hO7
        have O7 := hid hO7
        have P6 := hid (own_below O6.out hb)
        obtain ⟨A7, p7, rfl, _, _⟩ := own_sl hO7
        have NT : Hid (∀ i, i < N → ∃ q : Int, (offL N l)[i]? = some q ∧ (offL N (turn l))[i]? = some (-q) ∧ -30 ≤ q ∧ q ≤ 30) := fun i hi => by
          have h1 := off_small l i
          have h2 := OK.out.le
          exact ⟨offAt l i, rowF_get hi, by unfold offL; rw [rowF_get hi, offAt_turn], by omega, by omega⟩
        clear hb h1 E6 B6 hO7 O6
        go_wp2_with fail
        go_upto_region 14 with fail
        go_quiet (fail)
        go_wp2_with fail
        go_loopw [18] (fun ji wr => ∃ j q : Nat, j ≤ N ∧ ji = .int .i64 j ∧ wr = w7.drewN q) (fun ji _ => N - (intOf ji).toNat)
        case atStart => exact ⟨0, _, Nat.zero_le _, rfl, rfl⟩
        case round =>
          obtain ⟨j, q, hj, rfl, hq⟩ := hrel
          have HQ := hid hq
          by_cases hlt : j < N
          · obtain ⟨z, hz1', hz2', z1, z2⟩ := NT.out j hlt
            obtain ⟨g6, cc6, e6, hq0, hq1, hq2, hq3, hq4⟩ := own_open P6.out (by omega)
            have k6 := hq4 j (by omega)
            obtain ⟨g7, cc7, e7, hr0, hr1, hr2, hr3, hr4⟩ := own_open O7.out (by omega)
            have k7 := hr4 j (by omega)
            injection e6 with e6 e6n e6c
            injection e7 with e7 e7n e7c
            clear e6n e7n hq0 hq1 hq2 hq3 hq4 hr0 hr1 hr2 hr3 hr4
            subst e6 e6c e7 e7c
            have d6 : wr.cell? ⟨g6, j, none⟩ = some (.int .i64 z) := by rw [hq]; refine (show _ = _ from k6).trans ?_; rw [List.getElem?_map, hz1']; rfl
            have d7 : wr.cell? ⟨g7, j, none⟩ = some (.int .i64 (-z)) := by rw [hq]; refine (show _ = _ from k7).trans ?_; rw [List.getElem?_map, hz2']; rfl
            have j2 : (j : Int) < (N : Int) := by omega
            have e9 : IntKind.i64.wrap (0 - -z) = z := by rw [IntKind.wrap_i64]; omega
            have e8 : (z != z) = false := by simp
            clear k6 k7 hq hz1' hz2'
            go_upto_region 19 with fail
            go_quiet (fail)
            go_wp2_with fail
            go_roundw
            case rel => exact ⟨j + 1, _, by omega, by go_num, by rw [HQ.out]; simp only [World.drewN_drewN]; rfl⟩
            case measure => simp [intOf]; omega
          · have j2 : ¬ (j : Int) < (N : Int) := by omega
            have BF : Hid (Below W.heap.size W wr) := by show Below _ _ _; rw [hq]; exact below_drewN B7.out q
            clear hq
            go_wp2_with fail
            go_ret
            exact ⟨rfl, BF.out⟩
end Go.Proofs.YtkiljnggphlomaaDoor
