/- The law GenOwn: it returns true, and all that the call was given reads as before. Condition: the library's table of powers holds what it is laid with. -/
import Derived.Test.YtopehfmppfibhaaDoorVtt
import Derived.Test.YtopehfmppfibhaaDoorGjs
import Derived.Test.YtopehfmppfibhaaDoorSpo
import Derived.Test.YtopehfmppfibhaaDoorIna
import Derived.Test.YtopehfmppfibhaaDoorRcp
namespace Go.Proofs.YtopehfmppfibhaaDoor
open Go.RowKit Go.Deep
theorem replR_mendedG {g : Ge} (hc : chkG g = 0) (t : List Int) : ∃ z, replR g (mendL g t) = .ok z := by
  obtain ⟨z, hz⟩ := replay_mendL g t hc
  exact ⟨z, by unfold replR; rw [if_neg (by omega), hz]; simp⟩
theorem gr_trans {w w1 w2 : World} {r : Option Nat} (h1 : w.grownBy w1 r) (h2 : w1.grownBy w2 r) : w.grownBy w2 r :=
  ⟨h2.os.trans h1.os, h2.tape.trans h1.tape, h2.output.trans h1.output, Nat.le_trans h1.size h2.size, fun k hk hne => (h2.block k (by have := h1.size; omega) hne).trans (h1.block k hk hne)⟩
set_option maxRecDepth 100000 in
set_option maxHeartbeats 4000000 in
theorem genOwn_walk (g : Ge) (vg : Value) (l : List Int) (v : Value) (x : Int) (W : World) (hL : ∀ w', Below W.heap.size W w' → Tab w') (hg : ∃ u x y c, vg = .agg #[u, x, y, c] ∧ GeIn (fun b => b < W.heap.size) W g u x y c) (hv : IntsIn .i64 (fun b => b < W.heap.size) W v l) (hz : l.length * 8 ≤ 140737488351232) :
    Calls Tryd.prog 5 #[vg, v, .int .i64 x] W (LawPost W) := by
  obtain ⟨u1, u2, u3, u4, rfl, hg⟩ := hg
  have HL := hid hL
  have HG := hid hg
  have HV := hid hv
  have WF : Hid (∀ z ∈ l, (Lit.int .i64 z).wf = true) := by obtain ⟨_, _, _, _, h, _⟩ := hv; exact h
  have MA := hid (mend_any g)
  have RA := hid (replay_any g)
  have MR : Hid (chkG g = 0 → mendR g l = mendL g l) := fun h => by unfold mendR; rw [if_pos h]
  have MR0 : Hid (chkG g ≠ 0 → mendR g l = []) := fun h => by unfold mendR; rw [if_neg h]
  have RM := hid (fun h => @replR_mendedG g h l)
  have RN : Hid (chkG g ≠ 0 → replR g [] = .error (chkG g)) := fun h => by unfold replR; rw [if_pos h]
  have MG : Hid (chkG g = 0 → (∀ z ∈ mendL g l, 0 ≤ z ∧ z ≤ 1000) ∧ (mendL g l).length ≤ 1000000000) := fun h => ⟨mendL_range g l h, mendL_len g l h⟩
  have RS := hid (fun t z h => @replay_size g t z h)
  obtain ⟨k, a, b, s⟩ := g
  generalize hG : Ge.mk k a b s = G at *
  have hg' := hg
  rw [← hG] at hg'
  obtain ⟨A, cp, rfl, rfl, rfl, rfl, _, _, _⟩ := hg'.box
  obtain ⟨Az, cz, rfl, _, _, _⟩ := hv
  have B0 : Hid (Below W.heap.size W (W.alloc (.cells #[.int .i64 k, .int .i64 a, .int .i64 b, .slice A s.length cp] 24))) := (Below.refl _ _).alloc (Nat.le_refl _) _
  have X0 := hid (Has.new W (.cells #[.int .i64 k, .int .i64 a, .int .i64 b, .slice A s.length cp] 24))
  have ln : l.length ≤ 17592186043904 := by omega
  clear hL hg hg' hG hz
  go_enter Tryd.func5, Tryd.ntmps5
  go_wp2_with fail
  refine (copy_any l (fun b => b < W.heap.size) _ _ (fun b h => by simp; omega) (HV.out.keep (Same.of_below B0.out fun b h => h)) (by omega)).mono ?_
  rintro e w1 ⟨v1, rfl, hO, hb⟩
  have s1 := hb.size
  simp only [World.size_alloc] at s1
  have B1 := hid (B0.out.trans (hb.mono (by simp)))
  have X1 := hid (Has.below X0.out hb (by simp))
  have I1 := hid ((ints_blockC hO WF.out).more (F' := fun b => b < w1.heap.size) fun b h => own_lt hO b h)
  obtain ⟨A1, c1, rfl, _, _⟩ := own_slice1 hO
  have y0 := Has.cell X1.out 0
  have y1 := Has.cell X1.out 1
  have y2 := Has.cell X1.out 2
  have y3 := Has.cell X1.out 3
  simp at y0 y1 y2 y3
  clear hO hb X0 B0
  go_wp2_with fail
  refine (MA.out l (fun b => b < w1.heap.size) _ _ _ _ _ w1 (fun b h => h) (GeIn.more (fun b hb => by omega) _ (GeIn.keep (Same.of_below B1.out fun b h => h) _ HG.out)) I1.out).mono ?_
  rintro e w2 ⟨v2, rfl, hO, hb⟩
  have s2 := hb.size
  have B2 := hid (B1.out.trans (hb.mono (by omega)))
  have X2 := hid (Has.below X1.out hb (by omega))
  have I2 := hid (I1.out.keep (Same.of_below hb fun b h => h))
  have O2 := hid hO
  have y0 := Has.cell X2.out 0
  have y1 := Has.cell X2.out 1
  have y2 := Has.cell X2.out 2
  have y3 := Has.cell X2.out 3
  simp at y0 y1 y2 y3
  clear X1 I1
  by_cases hc : chkG G = 0
  case neg =>
    have HC := hid hc
    rw [MR0.out hc] at hO
    have N2 : Hid (IntsIn .i64 (fun b => b < w2.heap.size) w2 v2 []) := (ints_blockC hO (by simp)).more fun b h => own_lt hO b h
    obtain ⟨A2, c2, rfl, _, _⟩ := own_slice1 hO
    rw [errV_no hc]
    clear hO hb hc O2 B1
    go_wp2_with fail
    refine (RA.out [] (fun b => b < w2.heap.size) _ _ _ _ _ w2 (fun b h => h) (GeIn.more (fun b hb => by omega) _ (GeIn.keep (Same.of_below B2.out fun b h => h) _ HG.out)) N2.out).mono ?_
    rintro e w3 ⟨hb, he⟩
    rw [RN.out HC.out] at he
    obtain ⟨_, rfl⟩ := he
    rw [errV_no HC.out]
    have B3 : Hid (Below W.heap.size W (w3.alloc (.cells #[.bool false, .int .i64 0, .slice none 0 0] 47))) := (B2.out.trans (hb.mono (by omega))).alloc (by have := hb.size; omega) _
    have I3 : Hid (IntsIn .i64 (fun b => b < w1.heap.size) (w3.alloc (.cells #[.bool false, .int .i64 0, .slice none 0 0] 47)) (.slice A1 l.length c1) l) := I2.out.keep (Same.of_below (hb.alloc (by exact hb.size) _) fun b h => by omega)
    have s3 := hb.size
    clear hb N2
    go_wp2_with fail
    refine (Count_just _).mono ?_
    rintro e w4 ⟨rfl, hb⟩
    have B4 := hid (B3.out.trans (hb.mono (by have := B3.out.size; omega)))
    have I4 := hid (I3.out.keep (Same.of_below hb fun b h => by simp; omega))
    clear hb B3 I3
    go_wp2_with fail
    refine (ints_any l l (fun _ => True) _ _ w4 (I4.out.more fun _ _ => trivial) ((HV.out.keep (Same.of_below B4.out fun b h => h)).more fun _ _ => trivial)).mono ?_
    rintro e w5 ⟨rfl, q, rfl⟩
    rw [show decide (l = l) = true from decide_eq_true rfl]
    have B5 := hid (below_drewN B4.out q)
    generalize w4.drewN q = w5 at *
    clear B4 I4
    go_wp2_with fail
    go_ret
    exact ⟨rfl, B5.out⟩
  have HC := hid hc
  rw [MR.out hc] at hO
  obtain ⟨M, hM⟩ : ∃ M, M = mendL G l := ⟨_, rfl⟩
  rw [← hM] at hO
  obtain ⟨mr, ml⟩ := MG.out hc
  rw [← hM] at mr ml
  have GR := hid mr
  obtain ⟨z, hz⟩ := RM.out hc
  rw [← hM] at hz
  have RZ := hid hz
  have SZ := hid (RS.out M z hz)
  have HM := hid hM
  obtain ⟨zl, zn, zs⟩ := z
  have zl9 : zs.length ≤ 1000000000 := by
    have h1 := vsize_len zs
    have h2 := SZ.out
    rw [Va.size] at h2; omega
  have O2' := hid hO
  rw [← hM] at MR
  have MRM : Hid (mendR G l = M) := MR.out hc
  have I2m := hid ((ints_blockC hO (wf1000 mr)).more (F' := fun b => b < w2.heap.size) fun b h => own_lt hO b h)
  obtain ⟨A2, c2, rfl, _, _⟩ := own_slice1 hO
  rw [hc, errV_0]
  clear hO hb hc O2 hM mr hz
  go_wp2_with fail
  refine (RA.out M (fun b => b < w2.heap.size) _ _ _ _ _ w2 (fun b h => h) (GeIn.more (fun b hb => by omega) _ (GeIn.keep (Same.of_below B2.out fun b h => h) _ HG.out)) I2m.out).mono ?_
  rintro e w3 ⟨hb, he⟩
  rw [RZ.out] at he
  obtain ⟨c3, rfl, hv3, hwf⟩ := he
  have s3 := hb.size
  have HV3 := hid hv3
  have VT := hid (hv3.va (k := zl) hwf)
  obtain ⟨A3, cp3, rfl⟩ := hv3.slice
  have LT3 : Hid (∀ b, (Value.slice A3 zs.length cp3).ownBlock = some b → b < w3.heap.size) := by
    obtain ⟨⟨_, o3, _⟩, _⟩ := HV3.out
    exact own_lt o3
  have E3 : Hid (Below w3.heap.size w3 (w3.alloc (.cells #[.bool zl, .int .i64 zn, .slice A3 zs.length cp3] 47))) := (Below.refl _ _).alloc (Nat.le_refl _) _
  have B3 : Hid (Below W.heap.size W (w3.alloc (.cells #[.bool zl, .int .i64 zn, .slice A3 zs.length cp3] 47))) := (B2.out.trans (hb.mono (by omega))).trans (E3.out.mono (by omega))
  have Q3 : Hid (Below w2.heap.size w2 (w3.alloc (.cells #[.bool zl, .int .i64 zn, .slice A3 zs.length cp3] 47))) := hb.trans (E3.out.mono s3)
  have Z3 := hid (Has.new w3 (.cells #[.bool zl, .int .i64 zn, .slice A3 zs.length cp3] 47))
  have R3 := hid (HV3.out.keep (w' := w3.alloc (.cells #[.bool zl, .int .i64 zn, .slice A3 zs.length cp3] 47)) (D' := fun _ => False) (fun b _ h _ => E3.out.block b h) (by simp) fun b h => .inl h)
  have V3 := hid (VaIn.keep (fun b h => E3.out.block b h.2.1) _ VT.out)
  clear hb hv3 hwf HV3 VT y0 y1 y2 y3
  go_wp2_with fail
  refine (Count_just _).mono ?_
  rintro e w4 ⟨rfl, hb⟩
  have s4 := hb.size
  simp only [World.size_alloc] at s4
  have B4 := hid (B3.out.trans (hb.mono (by simp; omega)))
  have Q4 := hid (Q3.out.trans (hb.mono (by simp; omega)))
  have Z4 := hid (Has.below Z3.out hb (by simp))
  have R4 := hid (R3.out.keep (w' := w4) (D' := fun _ => False) (fun b _ h _ => hb.block b h) hb.size fun b h => .inl h)
  have V4 := hid (VaIn.keep (fun b h => hb.block b (by have := h.2.1; simp; omega)) _ V3.out)
  have I4 := hid (I2.out.keep (Same.of_below Q4.out fun b h => by omega))
  clear hb B3 Q3 Z3 R3 V3 I2 E3
  go_wp2_with fail
  refine (ints_any l l (fun _ => True) _ _ w4 (I4.out.more fun _ _ => trivial) ((HV.out.keep (Same.of_below B4.out fun b h => h)).more fun _ _ => trivial)).mono ?_
  rintro e w5 ⟨rfl, q, rfl⟩
  rw [show decide (l = l) = true from decide_eq_true rfl]
  have B5 := hid (below_drewN B4.out q)
  have Q5 := hid (below_drewN Q4.out q)
  have Z5 : Hid ((w4.drewN q).heap[w3.heap.size]? = _) := Z4.out
  have R5 := hid (R4.out.keep (w' := w4.drewN q) (D' := fun _ => False) (fun b _ _ _ => rfl) (Nat.le_refl _) fun b h => .inl h)
  have V5 := hid (VaIn.keep (w := w4) (w' := w4.drewN q) (fun b h => rfl) _ V4.out)
  have s5 : w3.heap.size + 1 ≤ (w4.drewN q).heap.size := s4
  generalize w4.drewN q = w5 at *
  have z0 := Has.cell Z5.out 0
  have z1 := Has.cell Z5.out 1
  have z2 := Has.cell Z5.out 2
  simp at z0 z1 z2
  clear B4 Q4 Z4 R4 V4 I4
  go_wp2_with fail
  refine (vtext_any (.mk zl zn zs) (fun b => b < w5.heap.size) _ _ _ w5 (fun b h => h) (VaIn.more (fun b h => by have := h.2.1; omega) _ V5.out) (by have := SZ.out; omega) (fun w' hb => HL.out w' (B5.out.trans (hb.mono B5.out.size)))).mono ?_
  rintro e w6 ⟨rfl, hb⟩
  have s6 := hb.size
  have B6 := hid (B5.out.trans (hb.mono (by have := B5.out.size; omega)))
  have Q6 := hid (Q5.out.trans (hb.mono (by omega)))
  have Z6 := hid (Has.below Z5.out hb (by omega))
  have R6 := hid (R5.out.keep (w' := w6) (D' := fun _ => False) (fun b _ h _ => hb.block b h) s6 fun b h => .inl h)
  obtain ⟨TX, hTX⟩ : ∃ TX, TX = strB (Va.mk zl zn zs).text := ⟨_, rfl⟩
  rw [← hTX]
  have HTX := hid hTX
  clear hb B5 Q5 Z5 R5 V5 z0 z1 z2 hTX
  obtain ⟨⟨cs6, o6, _⟩, _⟩ := R6.out
  have RLo := hid (own_ge o6)
  have RLt := hid (own_lt o6)
  have O6 := hid o6
  have ZNE : Hid ((Value.slice A3 zs.length cp3).ownBlock ≠ some w3.heap.size) := fun e => by
    have := LT3.out _ e; omega
  clear o6
  go_wp2_with fail
  go_loopw [16] (fun iv wr => ∃ (i : Nat) (cs : List Value), i ≤ zs.length ∧ iv = .int .i64 i ∧ Hid (wr.ownsRow w2.heap.size 47 3 (.slice A3 zs.length cp3) zs.length cs) ∧ Hid (w6.grownBy wr (Value.slice A3 zs.length cp3).ownBlock)) (fun iv _ => zs.length - (intOf iv).toNat)
  case atStart => exact ⟨0, cs6, Nat.zero_le _, rfl, O6, World.grownBy.refl _ _⟩
  case round =>
    obtain ⟨i, cs, hi, rfl, hO, hGr⟩ := hrel
    have Z7 := hid ((hGr.out.block w3.heap.size (by omega) (fun e => ZNE.out e.symm)).trans Z6.out)
    have z2 := Has.cell Z7.out 2
    simp at z2
    have lw : w3.heap.size < wr.heap.size := by have := hGr.out.size; omega
    obtain ⟨wo, hwo⟩ : ∃ wo, wo = wr := ⟨_, rfl⟩
    subst hwo
    by_cases hlt : i < zs.length
    · obtain ⟨g, cap, e, _, hg, _, _, hcc⟩ := own_open hO.out (by omega)
      injection e with e1 _ e3
      subst e1 e3
      have hcl := hO.out.1
      have q0 := (hcc (i * 3) (by omega)).trans (List.getElem?_eq_getElem (by omega))
      have q1 := (hcc (i * 3 + 1) (by omega)).trans (List.getElem?_eq_getElem (by omega))
      have q2 := (hcc (i * 3 + 2) (by omega)).trans (List.getElem?_eq_getElem (by omega))
      have f0 := hO.out.frozenAt (i * 3)
      have f1 := hO.out.frozenAt (i * 3 + 1)
      have f2 := hO.out.frozenAt (i * 3 + 2)
      have S1 := hid (hO.out.stored (i * 3) (.bool false))
      have S2 := hid (S1.out.1.stored (i * 3 + 1) (.int .i64 x))
      have S3 := hid (S2.out.1.stored (i * 3 + 2) (.slice none 0 0))
      have i1 : (i : Int) < (zs.length : Int) := by omega
      generalize cs[i * 3] = d0 at q0
      generalize cs[i * 3 + 1] = d1 at q1
      generalize cs[i * 3 + 2] = d2 at q2
      clear hcc hcl
      go_wp2_with fail
      go_roundw
      case rel => exact ⟨i + 1, _, by omega, by go_num, S3.out.1, gr_trans hGr.out (gr_trans (gr_trans S1.out.2 S2.out.2) S3.out.2)⟩
      case measure => simp [intOf]; omega
    · obtain rfl : i = zs.length := by omega
      have GO := hid hGr.out
      have P7 : Hid (Below w2.heap.size w6 wo) := (Below.refl _ _).grown hGr.out (by omega) RLo.out
      have B7 := hid (B6.out.trans (P7.out.mono (by have := B2.out.size; omega)))
      have Q7 := hid (Q6.out.trans P7.out)
      have O7 := hid (own_below O2'.out Q7.out)
      have X7 := hid (Has.below X2.out Q7.out (by omega))
      have s7 := P7.out.size
      have I7 := hid ((ints_blockC O7.out (wf1000 GR.out)).more (F' := fun b => b < w2.heap.size) fun b h => own_lt O2'.out b h)
      clear hO hGr Z6 R6 O6 RLo RLt ZNE
      go_wp2_with fail
      refine (copy_any M (fun b => b < w2.heap.size) _ wo (fun b h => by omega) I7.out (by omega)).mono ?_
      rintro e w8 ⟨v8, rfl, hC, hb⟩
      have s8 := hb.size
      have B8 := hid (B7.out.trans (hb.mono (by have := B2.out.size; omega)))
      have O8 := hid (own_below O7.out hb)
      have X8 := hid (Has.below X7.out hb (by omega))
      have C8 := hid hC
      obtain ⟨A8, c8, rfl, _, _⟩ := own_slice1 hC
      have AP := hid (own_apart O7.out hC (Nat.le_refl _))
      clear hb hC B7 Q7 O7 X7 I7
      go_wp2_with fail
      refine (spoil_any x M w1.heap.size _ w8 O8.out (by omega)).mono ?_
      rintro e w9 ⟨rfl, _, hg⟩
      have s9 := hg.size
      have P9 : Hid (Below w1.heap.size w8 w9) := (Below.refl _ _).grown hg (by omega) (own_ge O8.out)
      have B9 := hid (B8.out.trans (P9.out.mono (by omega)))
      have X9 := hid (Has.below X8.out P9.out (by omega))
      have C9 : Hid (w9.ownsRow wo.heap.size 3 1 (.slice A8 M.length c8) M.length (M.map (Value.int .i64))) := own_keep C8.out fun b hb => hg.block b (own_lt C8.out b hb) fun e => by
        rcases AP.out with h | h
        · rw [h] at e; cases e
        · exact h (e.symm.trans hb.symm)
      have CL := hid (own_lt C8.out)
      have I9 := hid ((ints_blockC C9.out (wf1000 GR.out)).more (F' := fun b => b < w9.heap.size) fun b h => own_lt C9.out b h)
      have y0 := Has.cell X9.out 0
      have y1 := Has.cell X9.out 1
      have y2 := Has.cell X9.out 2
      have y3 := Has.cell X9.out 3
      simp at y0 y1 y2 y3
      have lw9 : W.heap.size < w9.heap.size := by omega
      clear hg O8 C8 AP X8 B8 P9
      go_wp2_with fail
      refine (RA.out M (fun b => b < w9.heap.size) _ _ _ _ _ w9 (fun b h => h) (GeIn.more (fun b hb => by omega) _ (GeIn.keep (Same.of_below B9.out fun b h => h) _ HG.out)) I9.out).mono ?_
      rintro e w10 ⟨hb, he⟩
      rw [RZ.out] at he
      obtain ⟨c10, rfl, hv10, hwf⟩ := he
      have VT := hid (hv10.va (k := zl) hwf)
      obtain ⟨A10, cp10, rfl⟩ := hv10.slice
      have s10 := hb.size
      have E10 : Hid (Below w10.heap.size w10 (w10.alloc (.cells #[.bool zl, .int .i64 zn, .slice A10 zs.length cp10] 47))) := (Below.refl _ _).alloc (Nat.le_refl _) _
      have B10 : Hid (Below W.heap.size W (w10.alloc (.cells #[.bool zl, .int .i64 zn, .slice A10 zs.length cp10] 47))) := (B9.out.trans (hb.mono (by omega))).trans (E10.out.mono (by omega))
      have Z10 := hid (Has.new w10 (.cells #[.bool zl, .int .i64 zn, .slice A10 zs.length cp10] 47))
      have V10 := hid (VaIn.keep (fun b h => E10.out.block b h.2.1) _ VT.out)
      have X10 := hid (Has.below (Has.below X9.out hb (by omega)) E10.out (by omega))
      have I10 := hid ((I9.out.keep (Same.of_below hb fun b h => h)).keep (Same.of_below E10.out fun b h => by omega))
      clear y0 y1 y2 y3
      have y0 := Has.cell X10.out 0
      have y1 := Has.cell X10.out 1
      have y2 := Has.cell X10.out 2
      have y3 := Has.cell X10.out 3
      simp at y0 y1 y2 y3
      have lw10 : W.heap.size < w10.heap.size := by omega
      clear hb hv10 hwf VT X9 B9 C9 I9 E10
      go_wp2_with fail
      refine (MA.out l (fun b => b < W.heap.size) _ _ _ _ _ _ (fun b h => by simp; omega) (GeIn.keep (Same.of_below B10.out fun b h => h) _ HG.out) (HV.out.keep (Same.of_below B10.out fun b h => h))).mono ?_
      rintro e w11 ⟨v11, rfl, hO, hb⟩
      rw [MRM.out] at hO
      rw [HC.out, errV_0]
      have s11 := hb.size
      simp only [World.size_alloc] at s11
      have B11 := hid (B10.out.trans (hb.mono (by simp; omega)))
      have N11 := hid (ints_blockC hO (wf1000 GR.out))
      have I11 := hid (I10.out.keep (Same.of_below hb fun b h => by simp; omega))
      have Z11 := hid (Has.below Z10.out hb (by simp))
      have V11 := hid (VaIn.keep (fun b h => hb.block b (by have := h.2.1; simp; omega)) _ V10.out)
      obtain ⟨A11, c11, rfl, _, _⟩ := own_slice1 hO
      clear hb hO B10 I10 Z10 V10 X10 y0 y1 y2 y3
      go_wp2_with fail
      refine (ints_any M M (fun _ => True) _ _ w11 (N11.out.more fun _ _ => trivial) (I11.out.more fun _ _ => trivial)).mono ?_
      rintro e w12 ⟨rfl, q12, rfl⟩
      rw [show decide (M = M) = true from decide_eq_true rfl]
      have B12 := hid (below_drewN B11.out q12)
      have Z12 : Hid ((w11.drewN q12).heap[w10.heap.size]? = _) := Z11.out
      have V12 := hid (VaIn.keep (w := w11) (w' := w11.drewN q12) (fun b h => rfl) _ V11.out)
      have s12 : w10.heap.size + 1 ≤ (w11.drewN q12).heap.size := s11
      generalize w11.drewN q12 = w12 at *
      have z0 := Has.cell Z12.out 0
      have z1 := Has.cell Z12.out 1
      have z2' := Has.cell Z12.out 2
      simp at z0 z1 z2'
      clear B11 N11 I11 Z11 V11
      go_wp2_with fail
      refine (vtext_any (.mk zl zn zs) (fun b => b < w12.heap.size) _ _ _ w12 (fun b h => h) (VaIn.more (fun b h => by have := h.2.1; omega) _ V12.out) (by have := SZ.out; omega) (fun w' hb => HL.out w' (B12.out.trans (hb.mono B12.out.size)))).mono ?_
      rintro e w13 ⟨rfl, hb⟩
      rw [← HTX.out]
      have B13 := hid (B12.out.trans (hb.mono B12.out.size))
      clear hb z0 z1 z2'
      go_wp2_with fail
      go_ret
      exact ⟨rfl, B13.out⟩
end Go.Proofs.YtopehfmppfibhaaDoor
