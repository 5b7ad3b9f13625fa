/- The law MinimAlike: it returns true, and all that the call was given reads as before. Condition: errors.errorType holds its handle; the word takes at most 2^47 bytes. -/
import Derived.Test.YtfalbffpdgfepaaDoorWap
import Derived.Test.YtfalbffpdgfepaaDoorMsa
import Derived.BigQuiet
namespace Go.Proofs.YtfalbffpdgfepaaDoor
open Go.RowKit
theorem ints_cell {k : IntKind} {F : Nat → Prop} {w : World} {v : Value} {zs : List Int} (h : IntsIn k F w v zs) (hn : 0 < zs.length) : ∃ b off c, v = .slice (some ⟨b, off, none⟩) zs.length c ∧ (zs.length ≤ c ∧ c ≤ maxLen) ∧ ∀ i, i < zs.length → w.cell? ⟨b, off + i, none⟩ = some (.int k (at0 zs i)) := by
  obtain ⟨A, c, rfl, h1, _, h3⟩ := h
  obtain ⟨b, off, rfl, _, hc⟩ := h3 hn
  exact ⟨b, off, c, rfl, h1, hc⟩
theorem eqv_goes {m : MachD} : ∀ (w : List Int) {i k : Nat}, Eqv m i k → word m w → Eqv m (goes m i w) (goes m k w)
  | [], _, _, h, _ => h
  | x :: w, _, _, h, hw => eqv_goes w (XEqv.next (m' := m) h (hw x (by simp))) fun y hy => hw y (by simp [hy])
theorem wap_val {m : MachD} (g : Good m) {I J : Nat} (hI : I < m.out.length) (hJ : J < m.out.length) : (Eqv m I J → wapC m I J = 2) ∧ (¬ Eqv m I J → wapC m I J = 0) := by
  have e : wapC m I J = apartN m m I J := by unfold wapC; rw [if_neg (by simp [good_chk g]), if_neg (by omega)]; rfl
  rw [e]
  refine ⟨fun h => (apart_no h).2, fun h => ?_⟩
  rcases first_or m m I J with ⟨f, hf⟩ | hx
  · exact (apart_yes hf).2
  · exact absurd hx h
theorem run_bad {m : MachD} (g : Good m) {s : Int} {ws : List Int} (h : ¬ word m ws) : runFault m s ws = 1 := by
  unfold runFault
  have h' : ¬ ∀ x ∈ ws, 0 ≤ x ∧ x < (ins m : Int) := h
  rw [if_neg (by simp [good_chk g]), if_pos (Or.inr (Or.inr h'))]
theorem run_same {m : MachD} (g : Good m) {I J : Nat} (hI : I < m.out.length) (hJ : J < m.out.length) (ws : List Int) : runFault m I ws = runFault m J ws := by
  by_cases h : word m ws
  · rw [runFault_good g (by omega) (by omega) h, runFault_good g (by omega) (by omega) h]
  · rw [run_bad g h, run_bad g h]
set_option maxRecDepth 100000 in
set_option maxHeartbeats 2000000 in
theorem minimAlike_walk (m : MachD) (u : Value) (i k : Int) (ws : List Int) (wv : Value) (W : World) (hL : Laid W) (ha : MachIn (fun b => b < W.heap.size) W u m) (hw : IntsIn .i64 (fun b => b < W.heap.size) W wv ws) (hz : ws.length * 8 ≤ 140737488351232) :
    Calls Tryd.prog 6 #[u, .int .i64 i, .int .i64 k, wv] W (LawPost W) := by
  have HL := hid hL
  have HZ := hid hz
  have K0 := hid (((Kept.start W).addMach ha fun b h => h).addInts hw fun b h => h)
  obtain ⟨o1, n1, rfl, ⟨A1, c1, rfl, la, _⟩, ⟨A2, c2, rfl, _, _⟩⟩ := ha
  obtain ⟨A5, c5, rfl, _, _, _⟩ := hw
  unfold maxLen at la
  clear hL hz
  go_enter Tryd.func6, Tryd.ntmps6
  go_wp2_with fail
  have K1 := hid (K0.out.allocs #[.slice A1 m.out.length c1, .slice A2 m.next.length c2] 24 (g := W.heap.size) (by simp))
  clear K0
  refine (lit_any _).mono ?_
  rintro e w2 ⟨rfl, hb⟩
  have K2 := hid ((K1.out.step hb))
  clear hb K1
  have x0 := K2.out.cellN 0 rfl 0
  have x1 := K2.out.cellN 0 rfl 1
  simp at x0 x1
  by_cases hg : chk m = 0
  · have G := chk_good hg
    have HG := hid G
    have m6 := G.le
    have m1 := G.pos
    clear hg G
    go_wp2_with fail
    refine (classes_ok m (fun b => b < w2.heap.size) _ _ (fun b h => h) (K2.out.macN 0 rfl) HG.out).mono ?_
    rintro e w3 ⟨r, c, rfl, CO, hr, hb⟩
    have HCO := hid CO
    have K3 := hid ((K2.out.step hb).addInts hr fun b h => h.2)
    have CLn : c.length = m.out.length := CO.len
    obtain ⟨bc, oc, cc, rfl, lc, hcc⟩ := ints_cell (K3.out.intN 0 rfl) (by omega)
    have HCL := hid CLn
    have cle : c.length ≤ 6 := by omega
    clear hb hr x0 x1 K2 CO hcc CLn
    by_cases h1 : i < 0
    · go_wp2_with fail
      go_ret
      exact ⟨rfl, K3.out.bel⟩
    · have d1 : decide (i < 0) = false := by simp [h1]
      by_cases h2 : (c.length : Int) ≤ i
      · go_wp2_with fail
        go_ret
        exact ⟨rfl, K3.out.bel⟩
      · have d2 : decide ((c.length : Int) ≤ i) = false := by simp [h2]
        by_cases h3 : k < 0
        · go_wp2_with fail
          go_ret
          exact ⟨rfl, K3.out.bel⟩
        · have d3 : decide (k < 0) = false := by simp [h3]
          by_cases h4 : (c.length : Int) ≤ k
          · go_wp2_with fail
            go_ret
            exact ⟨rfl, K3.out.bel⟩
          · have d4 : decide ((c.length : Int) ≤ k) = false := by simp [h4]
            obtain ⟨I, rfl⟩ : ∃ I : Nat, i = (I : Int) := ⟨i.toNat, by omega⟩
            obtain ⟨J, rfl⟩ : ∃ J : Nat, k = (J : Int) := ⟨k.toNat, by omega⟩
            have hI : I < m.out.length := by have := HCL.out; omega
            have hJ : J < m.out.length := by have := HCL.out; omega
            have HIJ := hid (And.intro hI hJ)
            have d5 : decide (c.length ≤ I) = false := by simp; omega
            have d6 : decide (c.length ≤ J) = false := by simp; omega
            have x0 := K3.out.cellN 0 rfl 0
            have x1 := K3.out.cellN 0 rfl 1
            simp at x0 x1
            go_wp2_with fail
            refine (run_ruk m I ws _ _ _ _ (fun b h => h) (K3.out.macN 0 rfl) (K3.out.intN 1 rfl) (by have := HZ.out; omega)).mono ?_
            rintro e w4 ⟨r4, rfl, hr, hb⟩
            have K4 := hid ((K3.out.step hb).addInts hr fun b h => h.2)
            clear hb hr x0 x1 K3
            have x0 := K4.out.cellN 0 rfl 0
            have x1 := K4.out.cellN 0 rfl 1
            simp at x0 x1
            go_wp2_with fail
            refine (run_ruk m J ws _ _ _ _ (fun b h => h) (K4.out.macN 0 rfl) (K4.out.intN 2 rfl) (by have := HZ.out; omega)).mono ?_
            rintro e w5 ⟨r5, rfl, hr, hb⟩
            have K5 := hid ((K4.out.step hb).addInts hr fun b h => h.2)
            clear hb hr x0 x1 K4
            have x0 := K5.out.cellN 0 rfl 0
            have x1 := K5.out.cellN 0 rfl 1
            simp at x0 x1
            go_wp2_with fail
            refine (wapart_any m I J _ _ _ (fun b h => h) (K5.out.macN 0 rfl)).mono ?_
            rintro e w6 ⟨r6, rfl, hr, hb⟩
            have K6 := hid ((K5.out.step hb).addInts hr fun b h => h.2)
            clear hb hr x0 x1 K5
            go_wp2_with fail
            refine (serror_any _ _ _ (K6.out.laid HL.out)).mono ?_
            rintro e w7 ⟨rfl, hb⟩
            have K7 := hid ((K6.out.step hb))
            clear hb K6
            go_wp2_with fail
            refine (ints_any _ _ _ _ _ _ (K7.out.intN 2 rfl) (K7.out.intN 1 rfl)).mono ?_
            rintro e w8 ⟨rfl, q, rfl⟩
            have K8 := hid ((K7.out.drewN q))
            clear K7
            obtain ⟨bc', oc', cc', ec, _, hcc⟩ := ints_cell (K8.out.intN 3 rfl) (by have := HCL.out; omega)
            injection ec with ec _ ec'
            injection ec with ec
            injection ec with ec1 ec2
            subst ec1 ec2
            have HCC := hid hcc
            have NI := HCO.out.nat I hI
            have NJ := HCO.out.nat J hJ
            obtain ⟨X, hX⟩ : ∃ X : Nat, at0 c I = (X : Int) := ⟨(at0 c I).toNat, by omega⟩
            obtain ⟨Y, hY⟩ : ∃ Y : Nat, at0 c J = (Y : Int) := ⟨(at0 c J).toNat, by omega⟩
            have OI := HCO.out.own I hI
            rw [hX, Int.toNat_natCast] at OI
            rw [hX] at NI
            have q1 : w7.cell? ⟨bc, oc + I, none⟩ = some (.int .i64 (at0 c I)) := hcc I (by have := HCL.out; omega)
            have q2 : w7.cell? ⟨bc, oc + J, none⟩ = some (.int .i64 (at0 c J)) := hcc J (by have := HCL.out; omega)
            have q3 : w7.cell? ⟨bc, oc + X, none⟩ = some (.int .i64 (at0 c X)) := hcc X (by have := HCL.out; omega)
            rw [hX] at q1
            rw [hY] at q2
            rw [OI] at q3
            have EQV : Hid ((X : Int) = Y ↔ Eqv m I J) := by have := HCO.out.eqv I J hI hJ; rw [hX, hY] at this; exact this
            have i1 : (I : Int) < (c.length : Int) := by have := HCL.out; omega
            have i2 : (J : Int) < (c.length : Int) := by have := HCL.out; omega
            have i3 : (X : Int) < (c.length : Int) := by have := HCL.out; omega
            have d1 : decide ((I : Int) < (X : Int)) = false := by simp; omega
            have d7 : decide (I < X) = false := by simp; omega
            have d2 : ((X : Int) != (X : Int)) = false := by simp
            have WV := wap_val HG.out hI hJ
            have RS := hid (run_same HG.out hI hJ ws)
            have HXY := hid (And.intro hX hY)
            clear hcc ec' hX hY OI NI NJ hI hJ
            by_cases he : Eqv m I J
            · have z1 : ((X : Int) == (Y : Int)) = true := by rw [beq_iff_eq]; exact EQV.out.2 he
              have z2 : (X == Y) = true := by rw [beq_iff_eq]; have := EQV.out.2 he; omega
              rw [WV.1 he]
              have E2 : decide ((2 : Int) = 2) = true := by decide
              rw [E2, ← RS.out]
              have HE := hid he
              clear E2 WV he
              by_cases hf : runFault m I ws = 0
              · have HFZ := hid (runFault_zero hf)
                have L1 : runL m I ws = runL m J ws := by unfold runL; rw [if_pos hf, if_pos (by rw [← RS.out]; exact hf)]; exact HE.out ws HFZ.out.2.2.2
                have G1 : runG m I ws = goes m I ws := by unfold runG; rw [if_pos hf]; rfl
                have G2 : runG m J ws = goes m J ws := by unfold runG; rw [if_pos (by rw [← RS.out]; exact hf)]; rfl
                have hP := goes_lt HG.out ws I HIJ.out.1 HFZ.out.2.2.2
                have hQ := goes_lt HG.out ws J HIJ.out.2 HFZ.out.2.2.2
                have NP := HCO.out.nat _ hP
                have PQ : at0 c (goes m I ws) = at0 c (goes m J ws) := (HCO.out.eqv _ _ hP hQ).2 (eqv_goes ws HE.out HFZ.out.2.2.2)
                obtain ⟨R, hR⟩ : ∃ R : Nat, at0 c (goes m I ws) = (R : Int) := ⟨(at0 c (goes m I ws)).toNat, by omega⟩
                have q4 : w7.cell? ⟨bc, oc + goes m I ws, none⟩ = some (.int .i64 (at0 c (goes m I ws))) := HCC.out _ (show goes m I ws < c.length by have := HCL.out; omega)
                have q5 : w7.cell? ⟨bc, oc + goes m J ws, none⟩ = some (.int .i64 (at0 c (goes m J ws))) := HCC.out _ (show goes m J ws < c.length by have := HCL.out; omega)
                rw [← PQ] at q5
                rw [hR] at q4 q5
                have i4 : ((goes m I ws : Nat) : Int) < (c.length : Int) := by have := HCL.out; omega
                have i5 : ((goes m J ws : Nat) : Int) < (c.length : Int) := by have := HCL.out; omega
                have z0 : errV 0 = .nilIface := rfl
                rw [hf, G1, G2, decide_eq_true L1, z0]
                generalize goes m I ws = P at *
                generalize goes m J ws = Q at *
                clear L1 G1 G2 z0 hP hQ NP PQ hR hf HFZ
                go_wp2_with fail
                go_quiet (fail)
                go_wp2_with fail
                go_quiet (fail)
                go_wp2_with fail
                go_ret
                exact ⟨rfl, ((K8.out.drewN _).drewN _).bel⟩
              · rw [errV_no hf]
                clear hf
                go_wp2_with fail
                go_quiet (fail)
                go_wp2_with fail
                go_quiet (fail)
                go_wp2_with fail
                go_ret
                exact ⟨rfl, ((K8.out.drewN _).drewN _).bel⟩
            · have z1 : ((X : Int) == (Y : Int)) = false := by rw [beq_eq_false_iff_ne]; exact fun e => he (EQV.out.1 e)
              have z2 : (X == Y) = false := by rw [beq_eq_false_iff_ne]; exact fun e => he (EQV.out.1 (by rw [e]))
              rw [WV.2 he]
              have E2 : decide ((0 : Int) = 2) = false := by decide
              rw [E2]
              clear E2 WV he
              go_wp2_with fail
              go_quiet (fail)
              go_wp2_with fail
              go_quiet (fail)
              go_wp2_with fail
              go_ret
              exact ⟨rfl, ((K8.out.drewN _).drewN _).bel⟩
  · have HB := hid hg
    clear hg
    go_wp2_with fail
    refine (classes_bad m (fun b => b < _) _ _ (fun b h => h) (K2.out.macN 0 rfl) HB.out).mono ?_
    rintro e w3 ⟨rfl, hb⟩
    have K3 := hid ((K2.out.step hb))
    clear hb x0 x1 K2
    go_wp2_with fail
    go_ret
    exact ⟨rfl, K3.out.bel⟩
end Go.Proofs.YtfalbffpdgfepaaDoor
