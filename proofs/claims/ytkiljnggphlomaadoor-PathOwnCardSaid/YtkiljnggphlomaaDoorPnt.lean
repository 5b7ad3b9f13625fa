/- What path.Nth returns: a row of the call's own, told by a function of edges and number. No conditions. -/
import Derived.Test.YtkiljnggphlomaaDoorPth
namespace Go.Proofs.YtkiljnggphlomaaDoor
open Go.RowKit Go.Deep
def pickP (p : List Int) : List Int → Int → Int → Int × Int
  | [], i, k => (i, k)
  | j :: js, i, k => if k < at0 p j.toNat then (j, k) else pickP p js i (k - at0 p j.toNat)
def stepK (n i : Nat) (k : Int) : Int := if i + 1 = n then k - 1 else k
def nthF (s : PSt) (n : Nat) : Nat → Nat → Int → List Int → List Int
  | 0, _, _, out => out
  | f + 1, i, k, out => if i + 1 = n ∧ k = 0 then out else
    nthF s n f (pickP s.pth (rowAt s.rows i) i (stepK n i k)).1.toNat (pickP s.pth (rowAt s.rows i) i (stepK n i k)).2 (out ++ [(pickP s.pth (rowAt s.rows i) i (stepK n i k)).1])
theorem stepK_lt {n i : Nat} {k x : Int} (h : k < base n i + x) (hk : 0 ≤ k) (hne : ¬ (i + 1 = n ∧ k = 0)) : 0 ≤ stepK n i k ∧ stepK n i k < x := by
  unfold stepK base at *
  split at h
  · rename_i e; rw [if_pos e]; omega
  · rename_i e; rw [if_neg e]; omega
theorem nthF_stop {s : PSt} {n f i : Nat} {k : Int} {out : List Int} (h : i + 1 = n ∧ k = 0) (hf : 0 < f) : nthF s n f i k out = out := by
  cases f with
  | zero => omega
  | succ f => simp only [nthF]; rw [if_pos h]
theorem nthF_go {s : PSt} {n f i : Nat} {k : Int} {out : List Int} (h : ¬ (i + 1 = n ∧ k = 0)) : nthF s n (f + 1) i k out = nthF s n f (pickP s.pth (rowAt s.rows i) i (stepK n i k)).1.toNat (pickP s.pth (rowAt s.rows i) i (stepK n i k)).2 (out ++ [(pickP s.pth (rowAt s.rows i) i (stepK n i k)).1]) := by
  simp only [nthF]; rw [if_neg h]
theorem at0_ge {p : List Int} {j : Nat} (h : 0 ≤ at0 p j) : 0 ≤ at0 p j := h
def NthPost (W : World) (n : Int) (l : EdgeL) (k : Int) (e : Ending) (w' : World) : Prop :=
  Below W.heap.size W w' ∧ ((pathC n l ≠ 0 ∧ e = .returned (.tuple #[.slice none 0 0, errV (pathC n l)])) ∨
    (pathC n l = 0 ∧ ∃ s, madeF n.toNat l = some s ∧ ((¬ (0 ≤ k ∧ k < at0 s.pth 0) ∧ e = .returned (.tuple #[.slice none 0 0, errV 1])) ∨
      ((0 ≤ k ∧ k < at0 s.pth 0) ∧ ∃ v, e = .returned (.tuple #[v, .nilIface]) ∧ w'.ownsRow W.heap.size 3 1 v (nthF s n.toNat 13 0 k [0]).length ((nthF s n.toNat 13 0 k [0]).map (Value.int .i64)) ∧ (nthF s n.toNat 13 0 k [0]).length ≤ 100 ∧ ∀ x ∈ nthF s n.toNat 13 0 k [0], (Lit.int .i64 x).wf = true))))
set_option maxRecDepth 100000 in
set_option maxHeartbeats 4000000 in
theorem pnth_any (n : Int) (l : EdgeL) (k : Int) (F : Nat → Prop) (v : Value) (w : World) (hF : ∀ b, F b → b < w.heap.size) (hv : EdgesIn F w v l) (hk : (Lit.int .i64 k).wf = true) :
    Calls Tryd.prog 32 #[.int .i64 n, v, .int .i64 k] w (NthPost w n l k) := by
  have HF := hid hF
  have HV := hid hv
  obtain ⟨A, c, rfl, hl, _, h3⟩ := hv
  obtain ⟨i0, hi, hz0, hz1, hz2⟩ := info_parts infoInt
  clear hF h3
  go_enter Tryd.func32, Tryd.ntmps32
  go_wp2_with fail
  refine (pchecked_any n l F _ w HF.out HV.out).mono ?_
  rintro e w1 ⟨hb, ⟨hc, rfl⟩ | ⟨hc, pf, hN, s, gb, P, G, us, hm, rfl, hg⟩⟩
  · have B1 := hid hb
    have HC := hid hc
    rw [errV_no hc]
    clear hb hc
    go_wp2_with fail
    go_ret2
    exact ⟨B1.out, .inl ⟨HC.out, by rw [errV_no HC.out]; rfl⟩⟩
  · have B1 := hid hb
    have HC := hid hc
    have HM := hid hm
    have n1 := pf.lo
    have n12 := pf.hi
    obtain ⟨N, hN2⟩ : ∃ N, N = n.toNat := ⟨_, rfl⟩
    have HN2 := hid hN2
    rw [← hN2] at hg HM n1 n12 pf hN
    subst hN
    have AG := hid (allS_good n12 pf.start N s (Nat.le_refl _) HM.out)
    obtain ⟨hRg, hSz, r, hFin⟩ := AG.out.1
    have RG := hid hRg
    have FN := hid hFin
    have SZ := hid hSz
    have DN : Hid (∀ i, i < N → 0 ≤ at0 s.pth i) := AG.out.2.2
    have GM := hid hg
    have c0 := (Has.cell hg.hgb 1).trans rfl
    have c1 := row_int hg.hp (i := 0) (by rw [hg.lp]; omega)
    have i1 : (0 : Int) < (N : Int) := by omega
    have SM := hid (hFin.small hSz n12 (p := 0) (by omega) (DN.out 0 (by omega)))
    obtain ⟨a, ha⟩ : ∃ a, a = at0 s.pth 0 := ⟨_, rfl⟩
    have HA := hid ha
    rw [← ha] at c1
    clear hb hc hm hg hN2 ha hRg hSz hFin AG
    by_cases hk0 : 0 ≤ k
    · have d1 : decide (k < 0) = false := by simp; omega
      by_cases hka : a ≤ k
      · have d2 : decide (a ≤ k) = true := by simpa using hka
        clear hk0
        go_wp2_with fail
        go_ret2
        exact ⟨B1.out, .inr ⟨HC.out, s, by rw [← HN2.out]; exact HM.out, .inl ⟨fun h => by have := HA.out; omega, by rw [errV_no (by decide)]; rfl⟩⟩⟩
      · have d2 : decide (a ≤ k) = false := by simpa using hka
        have HK : Hid (0 ≤ k ∧ k < at0 s.pth 0) := by show _ ∧ _; rw [← HA.out]; omega
        have O0 := World.ownsRow_lit (e := 3) (size := 1) (base := w.heap.size) w1 #[.int .i64 0] 1 B1.out.size (by unfold maxLen; omega) rfl
        have O1 := hid O0
        have s1 := B1.out.size
        have BA := hid (B1.out.alloc s1 (.cells #[.int .i64 0] 3))
        have BL : Hid (Below w1.heap.size w1 (w1.alloc (.cells #[.int .i64 0] 3))) := (Below.refl _ _).alloc (Nat.le_refl _) _
        have KB : k < 7000000000000000000 := by
          have h1 := SM.out
          have h2 := pow31 (nDone s.pth - 1) 11 (by omega)
          have h3 : (31 : Int) ^ 11 < 7000000000000000000 := by decide
          have := HK.out; omega
        have r0 : r 0 < 13 := by have := (FN.out.le 0 (by omega) (DN.out 0 (by omega))).2; have := nDone_le s.pth; have := SZ.out.pl; omega
        clear O0 SM HA
        go_wp2_with fail
        clear c0 c1
        obtain ⟨R, hR⟩ : ∃ R, R = nthF s N 13 0 k [0] := ⟨_, rfl⟩
        have HR := hid hR
        go_loopw [10, 11, 2] (fun ov iv kv wr => ∃ (i f : Nat) (kk : Int) (out : List Int), iv = .int .i64 i ∧ kv = .int .i64 kk ∧ i < N ∧ (0 ≤ kk ∧ kk < 7000000000000000000) ∧ out.length + f ≤ 14 ∧ Hid (wr.ownsRow w.heap.size 3 1 ov out.length (out.map (Value.int .i64))) ∧ Hid (ov.ownBlock ≠ none ∧ ∀ b, ov.ownBlock = some b → w1.heap.size ≤ b) ∧ Hid (kk < at0 s.pth i ∧ r i < f ∧ nthF s N f i kk out = R ∧ ∀ x ∈ out, (Lit.int .i64 x).wf = true) ∧ Hid (Below w.heap.size w wr) ∧ Hid (Below w1.heap.size w1 wr)) (fun _ iv _ _ => r (intOf iv).toNat)
        case atStart => exact ⟨0, 13, k, [0], rfl, rfl, by omega, by omega, by simp, O1, ⟨by simp [Value.ownBlock], fun b hb => by simp [Value.ownBlock] at hb; omega⟩, ⟨HK.out.2, r0, HR.out.symm, by intro x hx; simp at hx; subst hx; decide⟩, BA, BL⟩
        case round =>
          clear O1 BA BL
          obtain ⟨i, f, kk, out, rfl, rfl, hiN, hkk, hof, hO, hat, hI, hB, hL⟩ := hrel
          have sB := hB.out.size
          obtain ⟨OA, oc, rfl, _, _⟩ := own_sl hO.out
          obtain ⟨tb, htb⟩ : ∃ tb : Bool, tb = decide (i + 1 = N) := ⟨_, rfl⟩
          have TB : Hid (tb = decide (i + 1 = N)) := htb
          have e1 : ((i : Int) == (N : Int) - 1) = tb := by
            rw [htb]
            by_cases h : i + 1 = N
            · rw [decide_eq_true h, beq_iff_eq]; omega
            · rw [decide_eq_false h, beq_eq_false_iff_ne]; omega
          have e2 : decide ((i : Int) = (N : Int) - 1) = tb := by
            rw [htb]
            by_cases h : i + 1 = N
            · rw [decide_eq_true h, decide_eq_true_eq]; omega
            · rw [decide_eq_false h, decide_eq_false_iff_not]; omega
          clear htb
          obtain ⟨wo, hwo⟩ : ∃ wo, wo = wr := ⟨_, rfl⟩
          subst hwo
          have sE := hid (show at0 s.pth i = base N i + sumP s.pth (rowAt s.rows i) from FN.out.sm i hiN (DN.out i hiN))
          have LTK : Hid (kk < base N i + sumP s.pth (rowAt s.rows i)) := by show _ < _; rw [← sE.out]; exact hI.out.1
          go_upto_if 40 with fail
          go_cut [2] (fun kv wx => kv = .int .i64 (stepK N i kk) ∧ ¬ (i + 1 = N ∧ kk = 0) ∧ wx = wo)
          case first =>
            cases tb with
            | true =>
              have iN1 : i + 1 = N := of_decide_eq_true TB.out.symm
              by_cases hz : kk = 0
              · subst hz
                have RR : Hid (out = R) := by show _ = _; rw [← hI.out.2.2.1]; exact (nthF_stop ⟨iN1, rfl⟩ (by have := hI.out.2.1; omega)).symm
                clear e1 e2 iN1 LTK sE
                go_wp2_with fail
                go_ret2
                exact ⟨hB.out, .inr ⟨HC.out, s, by rw [← HN2.out]; exact HM.out, .inr ⟨HK.out, _, rfl, by rw [← HN2.out, ← HR.out, ← RR.out]; exact hO.out, by rw [← HN2.out, ← HR.out, ← RR.out]; omega, by rw [← HN2.out, ← HR.out, ← RR.out]; exact hI.out.2.2.2⟩⟩⟩
              · have ST : Hid (stepK N i kk = kk - 1) := by show _ = _; unfold stepK; rw [if_pos iN1]
                have NZ := hid hz
                have w1' : IntKind.i64.wrap (kk - 1) = kk - 1 := by rw [IntKind.wrap_i64]; omega
                clear e1 e2 LTK sE
                go_wp2_with fail
                go_meet
                case rel => exact ⟨by rw [ST.out], fun h => NZ.out h.2, rfl⟩
            | false =>
              have iN1 : ¬ i + 1 = N := of_decide_eq_false TB.out.symm
              have ST : Hid (stepK N i kk = kk) := by show _ = _; unfold stepK; rw [if_neg iN1]
              have IN := hid iN1
              clear e1 e2 LTK sE iN1
              go_wp2_with fail
              go_meet
              case rel => exact ⟨by rw [ST.out], fun h => IN.out h.1, rfl⟩
          case rest =>
            obtain ⟨rfl, hne, rfl⟩ := hcut
            have SL := hid (stepK_lt LTK.out hkk.1 hne)
            obtain ⟨k1, hk1⟩ : ∃ k1, k1 = stepK N i kk := ⟨_, rfl⟩
            rw [← hk1] at SL ⊢
            have K1B : 0 ≤ k1 ∧ k1 < 7000000000000000000 := by
              have := SL.out
              have : k1 ≤ kk := by rw [hk1]; unfold stepK; split <;> omega
              omega
            obtain ⟨js, hjs⟩ : ∃ js, js = rowAt s.rows i := ⟨_, rfl⟩
            rw [← hjs] at SL
            obtain ⟨f', rfl⟩ : ∃ f', f = f' + 1 := ⟨f - 1, by have := hI.out.2.1; omega⟩
            have RS : Hid (nthF s N f' (pickP s.pth js i k1).1.toNat (pickP s.pth js i k1).2 (out ++ [(pickP s.pth js i k1).1]) = R) := by
              show _ = _
              rw [← hI.out.2.2.1, nthF_go hne, ← hk1, ← hjs]
            have NX : Hid (∀ y ∈ js, 0 ≤ y ∧ y < (N : Int) ∧ 0 ≤ at0 s.pth y.toNat ∧ r y.toNat < r i) := fun y hy => by
              rw [hjs] at hy
              have h1 := row_mem RG.out (i := i) (by rw [SZ.out.rl]; exact hiN) y hy
              exact ⟨h1.1, h1.2, FN.out.nx i hiN (DN.out i hiN) y hy⟩
            obtain ⟨u, hu, c4, ou⟩ := (GM.out.below hL.out).fam.at_ (i := i) (by rw [GM.out.lr]; exact hiN)
            rw [← hjs] at ou
            have c2 := (Has.cell (GM.out.below hL.out).hgb 0).trans rfl
            have c3 := (Has.cell (GM.out.below hL.out).hgb 1).trans rfl
            have iN2 : (i : Int) < (N : Int) := by omega
            obtain ⟨m, hm⟩ : ∃ m, js.length = m := ⟨_, rfl⟩
            have HM2 := hid hm
            have m30 : m ≤ 30 := by have := SZ.out.r30 i; rw [← hjs, hm] at this; exact this
            obtain ⟨Au, cu, rfl, _, _⟩ := own_sl ou
            rw [hm] at ou c4
            have OU := hid ou
            have HWF := hid hI.out.2.2.2
            have RI := hid hI.out.2.1
            have P0 := hid (show ∀ y, 0 ≤ y ∧ y < (N : Int) → (GM.out.below hL.out).hp = (GM.out.below hL.out).hp from fun _ _ => rfl)
            have PR := hid (fun (j : Nat) (hj : j < N) => row_int (GM.out.below hL.out).hp (i := j) (by rw [GM.out.lp]; exact hj))
            clear P0
            clear hu ou e1 e2 LTK sE hI hne hm hk1 hjs TB
            go_wp2_with fail
            clear c4 c2
            go_loop [2, 54] (fun kv tv => ∃ (t : Nat) (k2 : Int), t ≤ m ∧ kv = .int .i64 k2 ∧ tv = .int .i64 t ∧ (0 ≤ k2 ∧ k2 < 7000000000000000000) ∧ Hid (k2 < sumP s.pth (js.drop t)) ∧ Hid (pickP s.pth (js.drop t) i k2 = pickP s.pth js i k1)) (fun _ tv => m - (intOf tv).toNat)
            case atStart => exact ⟨0, k1, Nat.zero_le _, rfl, rfl, K1B, SL.out.2, rfl⟩
            case round =>
              obtain ⟨t, k2, ht, rfl, rfl, hk2, hS, hP⟩ := hrel
              by_cases htm : t < m
              · have t1 : (t : Int) < (m : Int) := by omega
                have htl : t < js.length := by rw [HM2.out]; exact htm
                obtain ⟨g, cap, e1, hq0, hq1, hq2, hq3, hq4⟩ := own_open OU.out (by omega)
                injection e1 with e1 e3 e2
                clear e3 hq0 hq1 hq2 hq3 hq4
                subst e1 e2
                have DR := List.drop_eq_getElem_cons htl
                obtain ⟨y, hy⟩ : ∃ y, y = js[t] := ⟨_, rfl⟩
                rw [← hy] at DR
                have HY := hid hy
                have YN := NX.out y (by rw [hy]; exact List.getElem_mem _)
                have c5 := (OU.out.cellAt t (by omega)).trans (show _ = some (.int .i64 y) by rw [List.getElem?_map, List.getElem?_eq_getElem htl, hy]; rfl)
                obtain ⟨j, rfl⟩ : ∃ j : Nat, y = j := ⟨y.toNat, by omega⟩
                have jn : j < N := by omega
                have c6 := PR.out j jn
                rw [Int.toNat_natCast] at YN
                obtain ⟨q, hq⟩ : ∃ q, q = at0 s.pth j := ⟨_, rfl⟩
                rw [← hq] at c6
                have HQ := hid hq
                have YN9 := hid YN
                have q0 : 0 ≤ q := by rw [hq]; exact YN.2.2.1
                have j1 : (j : Int) < (N : Int) := by omega
                have hS2 : k2 < q + sumP s.pth (js.drop (t + 1)) := by have := hS.out; rw [DR] at this; simp only [sumP, Int.toNat_natCast] at this; omega
                have HS2 := hid hS2
                have hP2 : Hid (pickP s.pth js i k1 = if k2 < q then ((j : Int), k2) else pickP s.pth (js.drop (t + 1)) i (k2 - q)) := by
                  show _ = _
                  rw [← hP.out, DR, hq]; simp only [pickP, Int.toNat_natCast]
                clear HY
                clear DR hy YN hq hS2 htl
                by_cases hkq : k2 < q
                · have d1 : decide (k2 < q) = true := decide_eq_true hkq
                  have PK : Hid (pickP s.pth js i k1 = ((j : Int), k2)) := by show _ = _; rw [hP2.out, if_pos hkq]
                  have KQ : Hid (k2 < at0 s.pth j) := by show _ < _; rw [← HQ.out]; exact hkq
                  have OB := hid (hO.out.alloc (.cells #[.int .i64 (j : Int)] 3))
                  have C1 := hid (cells_1 wc (.int .i64 (j : Int)) 3 rfl)
                  have lo := hid (hL.out.size)
                  have ol : out.length ≤ 14 := by omega
                  clear hkq
                  go_wp2_with (at_builtin; refine wpList_app _ rfl (.tmp 78) (.tmp 80) 23 rfl w.heap.size 3 i0 (.int .i64 0) 1 8 Tryd.underlying23 hi hz0 hz1 hz2 rfl (by decide) (.slice OA out.length oc) out.length (out.map (Value.int .i64)) rfl (by exact OB.out) _ (.slice (some ⟨wc.heap.size, 0, none⟩) 1 1) 1 [.int .i64 (j : Int)] rfl (by exact C1.out) (by intro u hu; simp at hu; subst hu; rfl) (by unfold maxLen; omega) (by omega) (by show w.heap.size ≤ (wc.alloc _).heap.size; simp; omega) ?_; intro v2 w2 hown2 hgrow2 hat2; have GW : Hid (wc.grownBy w2 (Value.ownBlock (.slice OA out.length oc))) := (World.grownBy_alloc wc _ _).trans ⟨hgrow2.os, hgrow2.tape, hgrow2.output, hgrow2.size, hgrow2.block⟩; have OW2 := hid hown2; have AT := hid hat2; obtain ⟨A2, c2, rfl, _, _⟩ := own_sl hown2; clear hown2 hgrow2 hat2)
                  have BN : Hid (Below w.heap.size w w2) := hB.out.grown GW.out sB (own_ge hO.out)
                  have LN : Hid (Below w1.heap.size w1 w2) := hL.out.grown GW.out lo.out hat.out.2
                  have FF : Hid (nthF s N f' j k2 (out ++ [(j : Int)]) = R) := by
                    show _ = _
                    have := RS.out
                    rw [PK.out] at this
                    simpa using this
                  have OE : (out ++ [(j : Int)]).length = out.length + 1 := by simp
                  have AT2 : Hid ((Value.slice A2 (out.length + 1) c2).ownBlock ≠ none ∧ ∀ b, (Value.slice A2 (out.length + 1) c2).ownBlock = some b → w1.heap.size ≤ b) := by
                    rcases AT.out with e | e
                    · exact ⟨by rw [e]; exact hat.out.1, fun b hb => hat.out.2 b (by rw [← e]; exact hb)⟩
                    · refine ⟨by rw [e]; simp, fun b hb => ?_⟩
                      rw [e] at hb
                      injection hb with hb
                      have := lo.out
                      simp at hb
                      omega
                  have OW3 : Hid (w2.ownsRow w.heap.size 3 1 (.slice A2 (out.length + 1) c2) (out ++ [(j : Int)]).length ((out ++ [(j : Int)]).map (Value.int .i64))) := by
                    show World.ownsRow _ _ _ _ _ _ _
                    rw [OE, List.map_append]; exact OW2.out
                  have WF9 : ∀ x ∈ out ++ [(j : Int)], (Lit.int .i64 x).wf = true := fun x hx => by
                    rcases List.mem_append.1 hx with h | h
                    · exact HWF.out x h
                    · rw [List.mem_singleton.1 h]; exact WalkArith.wf_i64 (by omega)
                  go_roundw
                  case rel => exact ⟨j, f', k2, out ++ [(j : Int)], rfl, rfl, jn, hk2, by rw [OE]; omega, OW3, AT2, ⟨KQ.out, by have := YN9.out.2.2.2; have := RI.out; omega, FF.out, WF9⟩, BN, LN⟩
                  case measure => simp only [intOf, Int.toNat_natCast]; exact YN9.out.2.2.2
                · have d1 : decide (k2 < q) = false := decide_eq_false hkq
                  have PK : Hid (pickP s.pth (js.drop (t + 1)) i (k2 - q) = pickP s.pth js i k1) := by show _ = _; rw [hP2.out, if_neg hkq]
                  have HTM : Hid (t < m) := htm
                  have HKQ : Hid (0 ≤ k2 - q ∧ k2 - q < 7000000000000000000) := by show _ ∧ _; omega
                  have w5 : IntKind.i64.wrap (k2 - q) = k2 - q := by rw [IntKind.wrap_i64]; omega
                  have S5 : Hid (k2 - q < sumP s.pth (js.drop (t + 1))) := by show _ < _; have := HS2.out; omega
                  go_wp2_with fail
                  go_round
                  case rel => exact ⟨t + 1, k2 - q, by have := HTM.out; omega, rfl, by go_num, HKQ.out, S5, PK⟩
                  case measure => have := HTM.out; simp [intOf]; omega
              · exfalso
                obtain rfl : t = m := by omega
                have := hS.out
                rw [List.drop_eq_nil_of_le (by rw [HM2.out]; exact Nat.le_refl _)] at this
                simp only [sumP] at this
                omega
    · have d1 : decide (k < 0) = true := by simp; omega
      have HK0 := hid hk0
      clear hk0
      go_wp2_with fail
      go_ret2
      exact ⟨B1.out, .inr ⟨HC.out, s, by rw [← HN2.out]; exact HM.out, .inl ⟨fun h => by have := HK0.out; omega, by rw [errV_no (by decide)]; rfl⟩⟩⟩
end Go.Proofs.YtkiljnggphlomaaDoor
