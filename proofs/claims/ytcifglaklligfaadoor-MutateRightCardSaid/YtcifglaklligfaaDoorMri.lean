/- The law MutateRight: it returns true, and all that the call was given reads as before. Condition: the package's lists. -/
import Derived.Test.YtcifglaklligfaaDoorExl
namespace Go.Proofs.YtcifglaklligfaaDoor
open Go.RowKit Go.Deep
set_option maxRecDepth 100000 in
set_option maxHeartbeats 4000000 in
theorem mutateRight_walk (x : Ex) (u : Value) (i : Int) (W : World) (hL : LaidE W) (hx : ExV (fun b => b < W.heap.size) W u x) :
    Calls Tryd.prog 3 #[u, .int .i64 i] W (LawPost W) := by
  obtain ⟨k1, n1, s1⟩ := x
  obtain ⟨a, b, c, rfl, hx⟩ := hx
  have K0 := hid ((KeptE.start W hL).add hx fun b h => h)
  have WX := hid (ExIn.wfE _ hx)
  obtain ⟨A, cp, rfl, rfl, rfl, l1, l2, _⟩ := hx.box
  clear hL hx
  go_enter Tryd.func3, Tryd.ntmps3
  go_wp2_with fail
  have K1 := hid (K0.out.allocs #[.int .i64 k1, .int .i64 n1, .slice A s1.length cp] 24 (g := W.heap.size) (by simp))
  clear K0
  refine (mutated_any _ K1.out.laid).mono ?_
  rintro e w2 ⟨rfl, hb⟩
  have K2 := hid (K1.out.step hb)
  clear hb K1
  have x0 := K2.out.cellN 0 rfl 0
  have x1 := K2.out.cellN 0 rfl 1
  have x2 := K2.out.cellN 0 rfl 2
  simp at x0 x1 x2
  go_wp2_with fail
  refine (allR_any (.mk k1 n1 s1) _ _ _ _ _ (fun b h => h) (K2.out.exN 0 rfl) K2.out.laid).mono ?_
  rintro e w3 ⟨v3, rfl, hE, hb⟩
  have K3 := hid (K2.out.step hb)
  clear hb K2 x0 x1 x2
  by_cases hc : chkE (.mk k1 n1 s1) = 0
  · have M0 : mutsR (.mk k1 n1 s1) = (Ex.mk k1 n1 s1).muts := by unfold mutsR; rw [if_pos hc]
    rw [M0] at hE
    rw [show errV (chkE (.mk k1 n1 s1)) = .nilIface from by rw [hc]; rfl]
    have HC := hid hc
    have ML := muts_le (.mk k1 n1 s1)
    have SZ := size_le hc
    obtain ⟨L, hLm⟩ : ∃ L, L = (Ex.mk k1 n1 s1).muts := ⟨_, rfl⟩
    rw [← hLm] at hE ML
    have HLM := hid hLm
    have ll : L.length ≤ 200 := by omega
    clear hc M0 hLm ML SZ
    by_cases hi : 0 ≤ i ∧ i < (L.length : Int)
    · obtain ⟨I, rfl⟩ : ∃ I : Nat, i = (I : Int) := ⟨i.toNat, by omega⟩
      have hI : I < L.length := by omega
      obtain ⟨cs, o1, o2⟩ := hE.row
      obtain ⟨g, cap, rfl, _, lg, lc1, lc2, hz⟩ := own_open o1 (by omega)
      unfold maxLen at lc2
      obtain ⟨a2, b2, c2, q0, q1, q2, ht⟩ := (o2.exs o1).at_ hI
      simp only [Nat.zero_add] at q0 q1 q2
      have HQ := hid (And.intro q0 (And.intro q1 q2))
      have CT := hid (chk_muts HC.out WX.out (t := L[I]) (by rw [← HLM.out]; exact List.getElem_mem hI))
      have HT := hid ht
      obtain ⟨⟨k2, n2, s2⟩, hy0⟩ : ∃ y, y = L[I] := ⟨_, rfl⟩
      rw [← hy0] at HT CT
      obtain ⟨A2, cp2, rfl, rfl, rfl, _, _, _⟩ := HT.out.box
      have K4 := hid (K3.out.add (ExIn.more (fun b h => h.2.1) _ HT.out) fun b h => h)
      have d1 : decide ((I : Int) < 0) = false := by simp
      have d2 : decide ((L.length : Int) ≤ (I : Int)) = false := by simp; omega
      have d3 : decide (L.length ≤ I) = false := by simp; omega
      have i1 : (I : Int) < (L.length : Int) := by omega
      have BW : Hid (Below w3.heap.size w3 w3) := Below.refl _ _
      clear hE o1 o2 hz ht hy0 hi K3
      have x0 := K4.out.cellN 0 rfl 0
      have x1 := K4.out.cellN 0 rfl 1
      have x2 := K4.out.cellN 0 rfl 2
      simp at x0 x1 x2
      have NE : Hid ((Ex.mk k2 n2 s2).eqB (.mk k1 n1 s1) = false) := by
        show _ = _
        cases h : (Ex.mk k2 n2 s2).eqB (.mk k1 n1 s1) with
        | false => rfl
        | true => exact absurd ((Ex.eqB_iff _ _).1 h) CT.out.2.ne
      go_upto_region 7 with fail
      go_cut [8] (fun cv wx => cv = .bool false ∧ Hid (Below w3.heap.size w3 wx))
      case first => as_aux_lemma =>
        go_region_law (go_simp; go_at_call 13; refine (same_any (.mk k2 n2 s2) (.mk k1 n1 s1) (fun b => b < w3.heap.size) _ _ _ _ _ _ w3.drew (fun g hg => by simpa using hg) (ExIn.keep (w := w3) (w' := w3.drew) (fun _ _ => rfl) _ (K4.out.exN 0 rfl)) (ExIn.keep (w := w3) (w' := w3.drew) (fun _ _ => rfl) _ (K4.out.exN 1 rfl))).mono ?_; rintro e w4 ⟨rfl, hb4⟩; have B4 : Hid (Below w3.heap.size w3 w4) := (Below.refl _ w3).drew.trans hb4; rw [NE.out])
        all_goals
          go_wp2_with fail
          go_meet
          exact ⟨rfl, B4⟩
      case rest =>
      obtain ⟨rfl, B4⟩ := hcut
      obtain ⟨w4, rfl⟩ : ∃ w4 : World, w4 = wc := ⟨_, rfl⟩
      have K5 := hid (K4.out.step B4.out)
      have r0 := (B4.out.cell (p := ⟨g, I * 3, none⟩) lg).trans q0
      have r1 := (B4.out.cell (p := ⟨g, I * 3 + 1, none⟩) lg).trans q1
      have r2 := (B4.out.cell (p := ⟨g, I * 3 + 2, none⟩) lg).trans q2
      clear q0 q1 q2 x0 x1 x2 K4 BW
      go_wp2_with fail
      refine (echeck_any (.mk k2 n2 s2) _ _ _ _ _ (fun b h => h) (K5.out.exN 0 rfl) K5.out.laid).mono ?_
      rintro e w5 ⟨rfl, hb⟩
      have K6 := hid (K5.out.step hb)
      have B5 := hid (B4.out.trans (hb.mono B4.out.size))
      rw [show errV (chkE (.mk k2 n2 s2)) = .nilIface from by rw [CT.out.1]; rfl]
      clear hb r0 r1 r2 K5 B4
      have r0 := (B5.out.cell (p := ⟨g, I * 3, none⟩) lg).trans HQ.out.1
      have r1 := (B5.out.cell (p := ⟨g, I * 3 + 1, none⟩) lg).trans HQ.out.2.1
      have r2 := (B5.out.cell (p := ⟨g, I * 3 + 2, none⟩) lg).trans HQ.out.2.2
      go_wp2_with fail
      refine (allR_any (.mk k2 n2 s2) _ _ _ _ _ (fun b h => h) (K6.out.exN 0 rfl) K6.out.laid).mono ?_
      rintro e w6 ⟨v6, rfl, hE, hb⟩
      have K7 := hid (K6.out.step hb)
      have B6 := hid (B5.out.trans (hb.mono B5.out.size))
      have M0 : mutsR (.mk k2 n2 s2) = (Ex.mk k2 n2 s2).muts := by unfold mutsR; rw [if_pos CT.out.1]
      rw [M0] at hE
      rw [show errV (chkE (.mk k2 n2 s2)) = .nilIface from by rw [CT.out.1]; rfl]
      have ML := muts_le (.mk k2 n2 s2)
      have SZ := size_le CT.out.1
      obtain ⟨R, hRm⟩ : ∃ R, R = (Ex.mk k2 n2 s2).muts := ⟨_, rfl⟩
      rw [← hRm] at hE ML
      have HRM := hid hRm
      have rl : R.length ≤ 200 := by omega
      have RX : Hid (∃ cs, w6.ownsRow 0 24 3 v6 R.length cs ∧ ExCells (fun b => b < w6.heap.size) w6 cs R) := by
        obtain ⟨cs, h1, h2⟩ := hE.row
        exact ⟨cs, own_base h1 (Nat.zero_le _), h2.more fun b h => h.2.1⟩
      obtain ⟨A3, c3, rfl⟩ := hE.slice
      clear hb r0 r1 r2 K6 B5 hE M0 ML SZ hRm
      go_wp2_with fail
      go_loopw [11] (fun kv wr => ∃ k : Nat, k ≤ R.length ∧ kv = .int .i64 k ∧ Hid (∀ j, (h : j < R.length) → j < k → R[j] ≠ .mk k1 n1 s1) ∧ Hid (Below w6.heap.size w6 wr)) (fun kv _ => R.length - (intOf kv).toNat)
      case atStart => exact ⟨0, Nat.zero_le _, rfl, fun j _ h => by omega, Below.refl _ _⟩
      case round =>
        obtain ⟨k, hk, rfl, hold, hB⟩ := hrel
        obtain ⟨wo, rfl⟩ : ∃ wo : World, wo = wr := ⟨_, rfl⟩
        have K8 := hid (K7.out.step hB.out)
        have B8 := hid (B6.out.trans (hB.out.mono B6.out.size))
        by_cases hlt : k < R.length
        · obtain ⟨cs, h1, h2⟩ := RX.out
          obtain ⟨g3, cap3, e3, _, lg3, _, _, hz⟩ := own_open h1 (by omega)
          injection e3 with e3 _ e4
          subst e3 e4
          obtain ⟨a4, b4, c4, p0, p1, p2, hy⟩ := (h2.exs h1).at_ hlt
          simp only [Nat.zero_add] at p0 p1 p2
          have HY := hid hy
          have z0 := (hB.out.cell (p := ⟨g3, k * 3, none⟩) lg3).trans p0
          have z1 := (hB.out.cell (p := ⟨g3, k * 3 + 1, none⟩) lg3).trans p1
          have z2 := (hB.out.cell (p := ⟨g3, k * 3 + 2, none⟩) lg3).trans p2
          have k1' : (k : Int) < (R.length : Int) := by omega
          obtain ⟨β, hβ⟩ : ∃ β, β = (R[k]).eqB (.mk k1 n1 s1) := ⟨_, rfl⟩
          have HBT := hid hβ
          obtain ⟨⟨k4, n4, s4⟩, hy0⟩ : ∃ y, y = R[k] := ⟨_, rfl⟩
          rw [← hy0] at HY hβ
          obtain ⟨A4, cp4, rfl, rfl, rfl, _, _, _⟩ := HY.out.box
          have HE := hid hβ
          have HY2 := hid (ExIn.more (F' := fun b => b < wo.heap.size) (fun b (h : b < w6.heap.size) => by have := hB.out.size; omega) _ (ExIn.keep (Same.of_below hB.out fun b h => h) _ HY.out))
          clear h1 h2 hz hy hy0 hβ p0 p1 p2
          have x0 := K8.out.cellN 0 rfl 0
          have x1 := K8.out.cellN 0 rfl 1
          have x2 := K8.out.cellN 0 rfl 2
          simp at x0 x1 x2
          go_upto_region 16 with fail
          go_cut [12] (fun cv wx => cv = .bool β ∧ Hid (Below wo.heap.size wo wx))
          case first => as_aux_lemma =>
            go_region_law (go_simp; go_at_call 13; refine (same_any (.mk k4 n4 s4) (.mk k1 n1 s1) (fun b => b < wo.heap.size) _ _ _ _ _ _ wo.drew (fun g hg => by simpa using hg) (ExIn.keep (w := wo) (w' := wo.drew) (fun _ _ => rfl) _ HY2.out) (ExIn.keep (w := wo) (w' := wo.drew) (fun _ _ => rfl) _ (K8.out.exN 1 rfl))).mono ?_; rintro e w9 ⟨rfl, hb9⟩; have B9 : Hid (Below wo.heap.size wo w9) := (Below.refl _ wo).drew.trans hb9; rw [← HE.out])
            all_goals
              go_wp2_with fail
              go_meet
              exact ⟨rfl, B9⟩
          case rest =>
          obtain ⟨rfl, B9⟩ := hcut
          obtain ⟨w9, rfl⟩ : ∃ w9 : World, w9 = wc := ⟨_, rfl⟩
          have B10 := hid (hB.out.trans (B9.out.mono hB.out.size))
          clear x0 x1 x2 z0 z1 z2
          cases β with
          | true =>
            go_wp2_with fail
            go_ret
            exact ⟨rfl, (K8.out.step B9.out).bel⟩
          | false =>
            have N1 : Hid (∀ j, (h : j < R.length) → j < k + 1 → R[j] ≠ .mk k1 n1 s1) := fun j h hj => by
              by_cases hjk : j < k
              · exact hold.out j h hjk
              · obtain rfl : j = k := by omega
                intro e
                have := HBT.out
                rw [(Ex.eqB_iff _ _).2 e] at this; cases this
            go_wp2_with fail
            go_roundw
            case rel => exact ⟨k + 1, by omega, by go_num, N1, B10⟩
            case measure => simp [intOf]; omega
        · have NB : Hid ((Ex.mk k2 n2 s2).size < (Ex.mk k1 n1 s1).size) := by
            rcases CT.out.2.back with h | h
            · exfalso
              rw [← HRM.out] at h
              obtain ⟨j, hj, e⟩ := List.getElem_of_mem h
              exact hold.out j hj (by omega) e
            · exact h
          have P2 : Hid ((Ex.mk k2 n2 s2).parts 0 ≤ 30) := (Ex.parts_fits _ 0 (by omega)).2 ((chk_iff _).1 CT.out.1).1
          have P1 : Hid ((Ex.mk k1 n1 s1).parts 0 ≤ 30) := (Ex.parts_fits _ 0 (by omega)).2 ((chk_iff _).1 HC.out).1
          have r0 := (B8.out.cell (p := ⟨g, I * 3, none⟩) lg).trans HQ.out.1
          have r1 := (B8.out.cell (p := ⟨g, I * 3 + 1, none⟩) lg).trans HQ.out.2.1
          have r2 := (B8.out.cell (p := ⟨g, I * 3 + 2, none⟩) lg).trans HQ.out.2.2
          go_wp2_with fail
          refine (large_any (.mk k2 n2 s2) 0 _ _ _ _ _ (by omega) P2.out (fun b h => h) (K8.out.exN 0 rfl)).mono ?_
          rintro e w9 ⟨rfl, hb⟩
          have K9 := hid (K8.out.step hb)
          clear hb r0 r1 r2 K8
          have x0 := K9.out.cellN 0 rfl 0
          have x1 := K9.out.cellN 0 rfl 1
          have x2 := K9.out.cellN 0 rfl 2
          simp at x0 x1 x2
          go_wp2_with fail
          refine (large_any (.mk k1 n1 s1) 0 _ _ _ _ _ (by omega) P1.out (fun b h => h) (K9.out.exN 1 rfl)).mono ?_
          rintro e w10 ⟨rfl, hb⟩
          have K10 := hid (K9.out.step hb)
          clear hb x0 x1 x2 K9
          have nb := NB.out
          have d7 : decide (((Ex.mk k2 n2 s2).size : Int) < ((Ex.mk k1 n1 s1).size : Int)) = true := by simp; omega
          have d8 : decide ((Ex.mk k2 n2 s2).size < (Ex.mk k1 n1 s1).size) = true := by simp; omega
          go_wp2_with fail
          go_ret
          exact ⟨rfl, K10.out.bel⟩
    · obtain ⟨A3, c3, rfl⟩ := hE.slice
      clear hE
      by_cases h0 : i < 0
      · have d1 : decide (i < 0) = true := by simp; omega
        go_wp2_with fail
        go_ret
        exact ⟨rfl, K3.out.bel⟩
      · have d1 : decide (i < 0) = false := by simp; omega
        have d2 : decide ((L.length : Int) ≤ i) = true := by simp; omega
        go_wp2_with fail
        go_ret
        exact ⟨rfl, K3.out.bel⟩
  · have M0 : mutsR (.mk k1 n1 s1) = [] := by unfold mutsR; rw [if_neg hc]
    rw [M0] at hE
    rw [errV_no hc]
    obtain ⟨A3, c3, rfl⟩ := hE.slice
    clear hc M0 hE
    go_wp2_with fail
    go_ret
    exact ⟨rfl, K3.out.bel⟩
end Go.Proofs.YtcifglaklligfaaDoor
