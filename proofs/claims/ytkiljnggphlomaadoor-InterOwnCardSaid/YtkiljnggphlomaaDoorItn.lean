/- What inter.Nth returns: the order with so many ahead, in a row of its own. No conditions. -/
import Derived.Test.YtkiljnggphlomaaDoorItx
namespace Go.Proofs.YtkiljnggphlomaaDoor
open Go.RowKit Go.Deep
def lenV : Value → Nat | .slice _ n _ => n | _ => 0
theorem dec_back {l : List Nat} {i : Nat} (hi : i < l.length) : (dec l i).set i (nAt l i) = l := by
  unfold dec nAt
  rw [List.set_set, List.getD_eq_getElem?_getD, List.getElem?_eq_getElem hi]
  simp
theorem upO_yes {l : List Nat} {i : Nat} (h : nAt l i ≠ 0) : upO l (i + 1) = upO l i + cntO (dec l i) := by simp only [upO]; rw [if_neg h]
theorem upO_no {l : List Nat} {i : Nat} (h : nAt l i = 0) : upO l (i + 1) = upO l i := by simp only [upO]; rw [if_pos h]; rfl
theorem nthO_step {l : List Nat} {k m i : Nat} (hi : i < l.length) (hm : sumN l = m + 1) (h0 : nAt l i ≠ 0) (hlo : upO l i ≤ k) (hk : k < upO l i + cntO (dec l i)) : nthO (m + 1) l k = (i : Int) :: nthO m (dec l i) (k - upO l i) := by
  have h := firO_at hi (by rw [upO_yes h0]; exact hk) hlo
  show ((firO l k : Nat) : Int) :: nthO m (dec l (firO l k)) (k - upO l (firO l k)) = _
  rw [h]
theorem wpList_app_runG {P : Program} {w w' : World} {ops : Array Oper} {rest : List Oper} {o : Oper} {a : Act} {Q : Exit → Act → World → Prop} (hw : Region.wanted o (yielded ops a.tmps) = true) (s x : Operand) (t : TypeId)
    (ho : o.op = .call { callee := .builtin .append, args := #[s, x], argTypes := #[t, t] }) (v u v' : Value) (hs : a.eval s = v) (hx : a.eval x = u) (hr : (Builtin.append_ #[t, t] o.type #[v, u]).run P w = .ok v' w')
    (h : wpList P ops Q rest (a.put o.dst v') w') : wpList P ops Q (o :: rest) a w :=
  wpList_step fun K hK => by
    rw [if_pos hw]
    unfold Oper.wp execOp
    simp only [ho, resolve, invoke, builtin, Sem.run_bind, Sem.run_pure, Result.andThen_ok, List.map_toArray, List.map_cons, List.map_nil, hs, hx, hr]
    exact hK _ _ h
structure NInv (B : Nat) (lv : Value) (l : List Nat) (ov : Value) (dn : List Int) (w : World) : Prop where
  left : w.ownsRow B 3 1 lv l.length ((li l).map (Value.int .i64))
  out : w.ownsRow B 3 1 ov dn.length (dn.map (Value.int .i64))
  ne : ∀ b, ov.ownBlock = some b → lv.ownBlock ≠ some b
section
variable {B : Nat} {lv ov ov' : Value} {l : List Nat} {dn : List Int} {w w' : World}
theorem NInv.below (h : NInv B lv l ov dn w) (hb : Below w.heap.size w w') : NInv B lv l ov dn w' := ⟨own_below h.left hb, own_below h.out hb, h.ne⟩
theorem NInv.alloc (h : NInv B lv l ov dn w) (o : Obj) : NInv B lv l ov dn (w.alloc o) := ⟨h.left.alloc o, h.out.alloc o, h.ne⟩
theorem NInv.grownL (h : NInv B lv l ov dn w) (hg : w.grownBy w' lv.ownBlock) (hl : w'.ownsRow B 3 1 lv l.length ((li l).map (Value.int .i64))) : NInv B lv l ov dn w' :=
  ⟨hl, own_keep h.out fun k hk => hg.block k (own_lt h.out k hk) (fun e => h.ne k hk e.symm), h.ne⟩
theorem NInv.store {g c i n : Nat} (h : NInv B (.slice (some ⟨g, 0, none⟩) l.length c) l ov dn w) : NInv B (.slice (some ⟨g, 0, none⟩) l.length c) (l.set i n) ov dn (w.setCell ⟨g, i, none⟩ (.int .i64 (n : Int))) := by
  have hs := h.left.stored i (.int .i64 (n : Int))
  refine ⟨?_, own_keep h.out fun k hk => hs.2.block k (own_lt h.out k hk) (fun e => h.ne k hk (by rw [e]; rfl)), h.ne⟩
  have e1 := hs.1
  rw [← List.map_set, li_set] at e1
  simpa using e1
theorem NInv.push {x : Int} {o : Obj} (h : NInv B lv l ov dn w) (hown : w'.ownsRow B 3 1 ov' (dn.length + 1) (dn.map (Value.int .i64) ++ [.int .i64 x])) (hg : (w.alloc o).grownBy w' ov.ownBlock) (hat : ov'.ownBlock = ov.ownBlock ∨ ov'.ownBlock = some (w.alloc o).heap.size) : NInv B lv l ov' (dn ++ [x]) w' := by
  have hl := own_lt h.left
  refine ⟨own_keep h.left fun k hk => (hg.block k (by have := hl k hk; simp; omega) (fun e => h.ne k e.symm hk)).trans (Below.heap_alloc w o k (hl k hk)), by simpa using hown, fun b hb e => ?_⟩
  rcases hat with h1 | h1
  · exact h.ne b (by rw [← h1]; exact hb) e
  · rw [h1, World.size_alloc] at hb
    injection hb with hb
    have := hl b e
    omega
end
def NthPost (W : World) (lens : List Int) (k : Int) (e : Ending) (w' : World) : Prop :=
  Below W.heap.size W w' ∧ ∃ r, e = .returned (.tuple #[r, errV (nthOC lens k)]) ∧ w'.ownsRow W.heap.size 3 1 r (nthOL lens k).length ((nthOL lens k).map (Value.int .i64))
set_option maxRecDepth 100000 in
set_option maxHeartbeats 4000000 in
theorem inth_any (lens : List Int) (k : Int) (F : Nat → Prop) (v : Value) (w : World) (hF : ∀ b, F b → b < w.heap.size) (hv : IntsIn .i64 F w v lens) :
    Calls Tryd.prog 29 #[v, .int .i64 k] w (NthPost w lens k) := by
  have HF := hid hF
  have HV := hid hv
  obtain ⟨A, c, rfl, _, _⟩ := hv
  clear hF
  by_cases hc : interC lens = 0
  · obtain ⟨l0, hl0⟩ : ∃ l0, l0 = lens.map Int.toNat := ⟨_, rfl⟩
    have OK := hid (interC_ok hc)
    rw [← hl0] at OK
    have EL : Hid (li l0 = lens) := OK.out.2
    have HL := hid hl0
    have HC := hid hc
    have LN : Hid (l0.length = lens.length) := by show _ = _; rw [hl0, List.length_map]
    have l6 := OK.out.1.len
    have CS := cntO_small OK.out.1.sum
    have NC : Hid (nthOC lens k = if k < 0 ∨ ((cntO l0 : Nat) : Int) ≤ k then 1 else 0) := by show _ = _; unfold nthOC; rw [if_neg (by rw [HC.out]; simp), ← HL.out]
    obtain ⟨i0, hi, hz0, hz1, hz2⟩ := info_parts infoInt
    clear hc hl0
    go_enter Tryd.func29, Tryd.ntmps29
    go_wp2_with fail
    refine (iCount_any lens F _ w HF.out HV.out).mono ?_
    rintro e w0 ⟨rfl, rfl⟩
    rw [HC.out, errV_0, if_pos rfl, ← HL.out]
    obtain ⟨C0, hC0⟩ : ∃ C0, C0 = cntO l0 := ⟨_, rfl⟩
    have HC0 := hid hC0
    rw [← hC0] at CS NC ⊢
    clear hC0
    by_cases hk : k < 0 ∨ (C0 : Int) ≤ k
    · have N1 : Hid (nthOC lens k = 1) := by show _ = _; rw [NC.out, if_pos hk]
      have NL : Hid (nthOL lens k = []) := by show _ = _; unfold nthOL; rw [if_pos (by rw [N1.out]; decide)]
      go_wp2_with fail
      all_goals first | (exfalso; omega) | skip
      all_goals go_ret2
      all_goals exact ⟨Below.refl _ _, _, by rw [N1.out, errV_no (by decide)]; rfl, by rw [NL.out]; exact World.ownsRow_nil _ _ _ _⟩
    · obtain ⟨k0, rfl⟩ : ∃ k0 : Nat, k = k0 := ⟨k.toNat, by omega⟩
      have hk2 : k0 < C0 := by omega
      have k5 : ¬ ((k0 : Int) < 0) := by omega
      have k6 : ¬ ((C0 : Int) ≤ (k0 : Int)) := by omega
      have k7 : decide ((C0 : Int) ≤ (k0 : Int)) = false := decide_eq_false k6
      have N1 : Hid (nthOC lens (k0 : Int) = 0) := by show _ = _; rw [NC.out, if_neg (by omega)]
      obtain ⟨T, hT⟩ : ∃ T, T = sumN l0 := ⟨_, rfl⟩
      have HT := hid hT
      have T20 : T ≤ 20 := by rw [hT]; exact OK.out.1.sum
      have NL : Hid (nthOL lens (k0 : Int) = nthO T l0 k0) := by show _ = _; unfold nthOL; rw [if_neg (by rw [N1.out]; simp), ← HL.out, ← HT.out]; rfl
      clear hk hT NC k6
      go_wp2_with fail
      all_goals first | (exfalso; omega) | skip
      refine (clone_any lens F _ w0 HF.out HV.out (by have := LN.out; omega)).mono ?_
      rintro e w1 ⟨lv, rfl, hO, _, hb⟩
      have O1 : Hid (w1.ownsRow w0.heap.size 3 1 lv l0.length ((li l0).map (Value.int .i64))) := by show World.ownsRow _ _ _ _ _ _ _; rw [EL.out, LN.out]; exact hO
      have B1 := hid hb
      have N0 : Hid (NInv w0.heap.size lv l0 (.slice none 0 0) [] w1) := ⟨O1.out, World.ownsRow_nil _ _ _ _, fun b hb => by simp [Value.ownBlock] at hb⟩
      obtain ⟨LA, lc, rfl, lc1, lc2⟩ := own_sl O1.out
      obtain ⟨N, hN⟩ : ∃ N, N = l0.length := ⟨_, rfl⟩
      rw [← hN] at N0 l6 lc1 LN ⊢
      have HN := hid hN
      clear hO hb O1 hN
      go_wp2_with fail
      go_loopw [1, 6, 9] (fun kv nv ov wr => ∃ (m : Nat) (l : List Nat) (k : Nat) (dn : List Int), kv = .int .i64 k ∧ nv = .int .i64 ((cntO l : Nat) : Int) ∧ Hid (LenOk l) ∧ Hid (l.length = N) ∧ Hid (sumN l = m) ∧ k < cntO l ∧ Hid (NInv w0.heap.size (.slice LA N lc) l ov dn wr) ∧ Hid (dn ++ nthO m l k = nthO T l0 k0) ∧ dn.length + m = T ∧ Hid (Below w0.heap.size w0 wr)) (fun _ _ ov _ => T - lenV ov)
      case atStart => exact ⟨T, l0, k0, [], rfl, by rw [HC0.out], OK.out.1, HN.out.symm, HT.out.symm, by rw [← HC0.out]; exact hk2, N0, rfl, by simp, B1⟩
      case round =>
        clear N0 B1
        obtain ⟨m, l, k, dn, rfl, rfl, hOK, hLl, hS, hk, hI, hE, hdm, hB⟩ := hrel
        have sB := hB.out.size
        obtain ⟨OA, oc, rfl, _, _⟩ := own_sl hI.out.out
        have CK := cntO_small hOK.out.sum
        obtain ⟨C, hC⟩ : ∃ C, C = cntO l := ⟨_, rfl⟩
        have HCC := hid hC
        rw [← hC] at hk CK ⊢
        have CP : 1 ≤ C := by rw [hC]; exact cntO_pos l
        clear hC
        go_upto_region 8 with fail
        go_cut [37] (fun cv wx => cv = .bool (decide (0 < sumN l)) ∧ Hid (NInv w0.heap.size (.slice LA N lc) l (.slice OA dn.length oc) dn wx) ∧ Hid (Below w0.heap.size w0 wx))
        case first =>
          by_cases h1 : 1 < C
          · have SP : Hid (decide (0 < sumN l) = true) := by
              show _ = _
              apply decide_eq_true
              rcases Nat.eq_zero_or_pos (sumN l) with h | h
              · have := cntO_nil_sum h; rw [← HCC.out] at this; omega
              · exact h
            have n1 : decide ((1 : Int) < (C : Int)) = true := decide_eq_true (by omega)
            have n2 : (1 : Int) < (C : Int) := by omega
            go_wp2_with fail
            go_meet
            case rel => exact ⟨by rw [SP.out], hI, hB⟩
          · have n1 : decide ((1 : Int) < (C : Int)) = false := decide_eq_false (by omega)
            have n2 : ¬ (1 : Int) < (C : Int) := by omega
            have LL : l.length ≤ 6 := hOK.out.len
            have AP := run_app_one (P := Tryd.prog) (wr.alloc (.cells #[.int .i64 0] 3)) w0.heap.size 23 23 3 i0 (.int .i64 0) 8 Tryd.underlying23 hi hz0 hz1 hz2 rfl (.slice LA N lc) l.length _ (hI.out.left.alloc _) ⟨wr.heap.size, 0, none⟩ 1 (.int .i64 0) ((Has.cell (Has.new wr _) 0).trans rfl) rfl (by unfold maxLen; omega) (by omega) (by simp; omega)
            obtain ⟨v4, w4, hap, hown4, hg4, hk4⟩ := AP
            have I4 := hid ((hI.out.alloc (.cells #[.int .i64 0] 3)).grownL hg4 hk4)
            have B4 : Hid (Below w0.heap.size w0 w4) := (hB.out.alloc sB _).grown hg4 (by simp; omega) (own_ge (hI.out.left.alloc (.cells #[.int .i64 0] 3)))
            have WL := hid (li_wf hOK.out)
            have X4 : Hid (IntsIn .i64 (fun b => b < w4.heap.size) w4 v4 (li l ++ [0])) := hid ((ints_of_own (base := w0.heap.size) (n := l.length + 1) (e := 3) (by simpa using hown4) (by intro z hz; rw [List.mem_append] at hz; rcases hz with hz | hz; exact WL.out z hz; simp at hz; subst hz; decide)).more fun b h => h.2)
            obtain ⟨A4, c4, rfl, _, _⟩ := own_sl hown4
            clear hown4 hg4 hk4
            go_wp2_with (at_builtin; go_loud (refine wpList_app_runG (by first | rfl | simp [Region.wanted, yielded]) (.tmp 32) (.tmp 33) 23 rfl _ _ _ rfl rfl hap ?_))
            refine (max_any (li l ++ [0]) _ _ w4 X4.out (by simp)).mono ?_
            rintro e w5 ⟨⟨mx, rfl, hm1, hm2⟩, rfl⟩
            have MX := hid (max_li hm1 hm2)
            have SD : Hid (decide (0 < mx) = decide (0 < sumN l)) := by show _ = _; exact decide_eq_decide.2 MX.out
            clear hm1 hm2 hap
            go_wp2_with fail
            go_meet
            case rel => exact ⟨by rw [← SD.out], I4, B4⟩
        case rest =>
          obtain ⟨rfl, hI2, hB2⟩ := hcut
          clear hI hB
          have s2 := hB2.out.size
          by_cases hs0 : 0 < sumN l
          · have UA := hid (upO_all hs0)
            obtain ⟨m', rfl⟩ : ∃ m', m = m' + 1 := ⟨m - 1, by have := hS.out; omega⟩
            have NP : 0 < N := by
              obtain ⟨j, hj, _⟩ := sum_pos hs0
              have := hLl.out; omega
            rw [decide_eq_true hs0]
            clear hs0
            obtain ⟨g, cap, e1, gb, glt, gc1, gc2, _⟩ := own_open hI2.out.left (by have := hLl.out; omega)
            injection e1 with e1 e3 e2
            clear e3
            subst e1 e2
            obtain ⟨wx, hwx⟩ : ∃ wx, wx = wc := ⟨_, rfl⟩
            subst hwx
            go_wp2_with fail
            go_loopw [1, 6, 9, 40] (fun kc nc ov ic wr => ∃ (i : Nat) (nn : Int), ic = .int .i64 i ∧ i ≤ N ∧ kc = .int .i64 ((k - upO l i : Nat) : Int) ∧ nc = .int .i64 nn ∧ ov = .slice OA dn.length oc ∧ upO l i ≤ k ∧ Hid (NInv w0.heap.size (.slice (some ⟨g, 0, none⟩) N lc) l (.slice OA dn.length oc) dn wr) ∧ Hid (Below w0.heap.size w0 wr)) (fun _ _ _ ic _ => N - (intOf ic).toNat)
            case atStart => exact ⟨0, _, rfl, Nat.zero_le _, rfl, rfl, rfl, Nat.zero_le _, hI2, hB2⟩
            case round =>
              clear hI2 hB2 s2
              obtain ⟨i, nn, rfl, hiN, rfl, rfl, rfl, hu, hI, hB⟩ := hrel
              have sB2 := hB.out.size
              by_cases hit : i < N
              · have il : Hid (i < l.length) := by show i < l.length; rw [hLl.out]; exact hit
                have i1 : (i : Int) < (N : Int) := by omega
                have HL2 := hI.out.left
                rw [hLl.out] at HL2
                have c0 := (HL2.cellAt i (by omega)).trans (show _ = some (.int .i64 ((nAt l i : Nat) : Int)) by
                  have := li_at l i
                  unfold at0 at this
                  rw [List.getElem?_map, List.getElem?_eq_getElem (by rw [li_len]; exact il.out)]
                  rw [List.getD_eq_getElem?_getD, List.getElem?_eq_getElem (by rw [li_len]; exact il.out)] at this
                  simp only [Option.getD_some] at this
                  rw [Option.map_some, this])
                have f0 := HL2.frozenAt i
                clear HL2
                by_cases hz : nAt l i = 0
                · have UN : Hid (upO l (i + 1) = upO l i) := upO_no hz
                  rw [hz] at c0
                  clear hz
                  go_wp2_with fail
                  go_roundw
                  case rel => exact ⟨i + 1, nn, by go_num, by omega, by rw [UN.out], rfl, rfl, by rw [UN.out]; exact hu, hI, hB⟩
                  case measure => simp [intOf]; omega
                · obtain ⟨b, hb⟩ : ∃ b, nAt l i = b + 1 := ⟨nAt l i - 1, by omega⟩
                  have UY : Hid (upO l (i + 1) = upO l i + cntO (dec l i)) := upO_yes hz
                  have STP := fun hk => nthO_step (k := k) (m := m') il.out hS.out hz hu hk
                  have HSTP := hid STP
                  have DK : Hid (LenOk (dec l i)) := hOK.out.dec (by omega)
                  have DL : Hid ((dec l i).length = N) := by show _ = _; rw [dec_len, hLl.out]
                  have DS : Hid (sumN (dec l i) = m') := by show _ = _; have := dec_sum l i (by omega); have := hS.out; omega
                  have b8 : b ≤ 8 := by have := hOK.out.le i il.out; omega
                  have DE : Hid (dec l i = l.set i b) := by show _ = _; unfold dec; rw [hb]; rfl
                  have DB : Hid ((dec l i).set i (b + 1) = l) := by show _ = _; rw [← hb]; exact dec_back il.out
                  rw [hb] at c0
                  have c1 : wr.cell? ⟨g, i, none⟩ = some (.int .i64 ((b : Int) + 1)) := by rw [c0]; simp
                  have ND : Hid (NInv w0.heap.size (.slice (some ⟨g, 0, none⟩) N lc) (dec l i) (.slice OA dn.length oc) dn (wr.setCell ⟨g, i, none⟩ (.int .i64 (b : Int)))) := by
                    have h1 := hI.out
                    rw [← hLl.out] at h1
                    have h2 := h1.store (i := i) (n := b)
                    rw [hLl.out] at h2
                    show NInv _ _ _ _ _ _
                    rw [DE.out]; exact h2
                  have BD : Hid (Below w0.heap.size w0 (wr.setCell ⟨g, i, none⟩ (.int .i64 (b : Int)))) := hB.out.setCell gb _
                  have z1 : ((b : Int) + 1 == 0) = false := by rw [beq_eq_false_iff_ne]; omega
                  have z2 : decide ((b : Int) + 1 = 0) = false := decide_eq_false (by omega)
                  have z3 : ¬ (b : Int) + 1 = 0 := by omega
                  clear hz hb c0 STP
                  go_wp2_with fail
                  obtain ⟨wd, hwd⟩ : ∃ wd, wd = wr.setCell ⟨g, i, none⟩ (.int .i64 (b : Int)) := ⟨_, rfl⟩
                  rw [← hwd] at ND BD ⊢
                  have sD := BD.out.size
                  have WD : Hid (∀ z ∈ li (dec l i), (Lit.int .i64 z).wf = true) := li_wf DK.out
                  have XD := hid ((ints_of_own ND.out.left WD.out).more (F' := fun b => b < wd.heap.size) fun b h => h.2)
                  clear hwd c1 f0
                  refine (icount_any (dec l i) _ _ wd (fun b h => h) XD.out DK.out).mono ?_
                  rintro e w5 ⟨rfl, rfl⟩
                  have CD := cntO_small DK.out.sum
                  obtain ⟨n', hn'⟩ : ∃ n', n' = cntO (dec l i) := ⟨_, rfl⟩
                  have HN' := hid hn'
                  rw [← hn'] at CD UY HSTP ⊢
                  obtain ⟨kc, hkc⟩ : ∃ kc, kc = k - upO l i := ⟨_, rfl⟩
                  have HKC := hid hkc
                  rw [← hkc] at HSTP ⊢
                  have kcb : kc ≤ k := by omega
                  by_cases hkn : kc < n'
                  · have KE : Hid (nthO (m' + 1) l k = (i : Int) :: nthO m' (dec l i) kc) := HSTP.out (by omega)
                    have n1 : (kc : Int) < (n' : Int) := by omega
                    have n2 : decide ((kc : Int) < (n' : Int)) = true := decide_eq_true n1
                    have OW := hid (ND.out.out.alloc (.cells #[.int .i64 (i : Int)] 3))
                    have C1 := hid (cells_1 w5 (.int .i64 (i : Int)) 3 rfl)
                    clear hn' hkc
                    go_wp2_with (at_builtin; refine wpList_app _ rfl (.tmp 59) (.tmp 61) 23 rfl w0.heap.size 3 i0 (.int .i64 0) 1 8 Tryd.underlying23 hi hz0 hz1 hz2 rfl (by decide) _ _ _ rfl OW.out _ _ 1 _ rfl C1.out (by intro u hu; simp at hu; subst hu; rfl) (by unfold maxLen; omega) (by omega) (by simp; omega) ?_; intro v6 w6 hown6 hgrow6 hat6; have R6 := hid (ND.out.push hown6 hgrow6 hat6); have B6 : Hid (Below w0.heap.size w0 w6) := (BD.out.alloc sD _).grown hgrow6 (by simp; omega) (own_ge OW.out); have SL6 := hid (own_sl hown6); clear hown6 hgrow6 hat6)
                    obtain ⟨A6, c6, rfl, _, _⟩ := SL6.out
                    go_roundw
                    case rel => exact ⟨m', dec l i, kc, dn ++ [(i : Int)], rfl, by rw [HN'.out], DK, DL, DS, by rw [← HN'.out]; exact hkn, R6, by show _ = _; rw [List.append_assoc, List.singleton_append, ← KE.out]; exact hE.out, by rw [List.length_append, List.length_singleton]; omega, B6⟩
                    case measure => show T - (dn.length + 1) < T - dn.length; omega
                  · have n1 : ¬ (kc : Int) < (n' : Int) := by omega
                    have n2 : decide ((kc : Int) < (n' : Int)) = false := decide_eq_false n1
                    have HL3 := ND.out.left
                    rw [DL.out] at HL3
                    have c2 := (HL3.cellAt i (by omega)).trans (show _ = some (.int .i64 (b : Int)) by
                      rw [DE.out, ← li_set, List.map_set, List.getElem?_set_self (by rw [List.length_map, li_len]; exact il.out)])
                    have f2 := HL3.frozenAt i
                    have NB : Hid (NInv w0.heap.size (.slice (some ⟨g, 0, none⟩) N lc) l (.slice OA dn.length oc) dn (w5.setCell ⟨g, i, none⟩ (.int .i64 ((b : Int) + 1)))) := by
                      have h1 := ND.out
                      rw [← DL.out] at h1
                      have h2 := h1.store (i := i) (n := b + 1)
                      rw [DL.out, DB.out] at h2
                      show NInv _ _ _ _ _ _
                      simpa using h2
                    have BB : Hid (Below w0.heap.size w0 (w5.setCell ⟨g, i, none⟩ (.int .i64 ((b : Int) + 1)))) := BD.out.setCell gb _
                    have KS : Hid (((k - upO l (i + 1) : Nat) : Int) = (kc : Int) - (n' : Int) ∧ upO l (i + 1) ≤ k) := by
                      show _ ∧ _
                      rw [UY.out]; omega
                    have ks0 : (0 : Int) ≤ (kc : Int) - (n' : Int) := by omega
                    clear HL3 hn' hkc
                    go_wp2_with fail
                    go_roundw
                    case rel => exact ⟨i + 1, _, by go_num, by omega, by rw [KS.out.1], rfl, rfl, KS.out.2, NB, BB⟩
                    case measure => simp [intOf]; omega
              · exfalso
                obtain rfl : i = N := by omega
                have := UA.out
                rw [hLl.out, ← HCC.out] at this
                omega
          · have m0 : m = 0 := by have := hS.out; omega
            subst m0
            have DN : dn = nthO T l0 k0 := by have := hE.out; simpa [nthO] using this
            have DN := hid DN
            rw [decide_eq_false hs0]
            clear hs0
            go_wp2_with fail
            go_ret2
            exact ⟨hB2.out, _, by rw [N1.out, errV_0]; rfl, by rw [NL.out, ← DN.out]; exact hI2.out.out⟩
  · have HC := hid hc
    have N1 : Hid (nthOC lens k = interC lens) := by show _ = _; unfold nthOC; rw [if_pos hc]
    have NL : Hid (nthOL lens k = []) := by show _ = _; unfold nthOL; rw [if_pos (by rw [N1.out]; exact hc)]
    clear hc
    go_enter Tryd.func29, Tryd.ntmps29
    go_wp2_with fail
    refine (iCount_any lens F _ w HF.out HV.out).mono ?_
    rintro e w0 ⟨rfl, rfl⟩
    rw [errV_no HC.out]
    go_wp2_with fail
    go_ret2
    exact ⟨Below.refl _ _, _, by rw [N1.out, errV_no HC.out]; rfl, by rw [NL.out]; exact World.ownsRow_nil _ _ _ _⟩
end Go.Proofs.YtkiljnggphlomaaDoor
