/- The law CondOwn: it returns true, and all that the call was given reads as before. Conditions: the lists' reach; errors.errorType holds its handle. -/
import Derived.Test.YtmhledlcfbjfkaaDoorCdt
import Derived.Test.YtmhledlcfbjfkaaDoorIna
import Derived.Test.YtmhledlcfbjfkaaDoorSpo
import Derived.Test.YtmhledlcfbjfkaaDoorAst
namespace Go.Proofs.YtmhledlcfbjfkaaDoor
open Go.RowKit Go.Deep Go.Lib
def LawPost (W : World) (e : Ending) (w' : World) : Prop := e = .returned (.bool true) ∧ Below W.heap.size W w'
theorem infoBoolD : (Tryd.prog.info? 4).map (fun i => (i.zero, i.size, i.bytes)) = some (some (.bool false), 1, 1) := by kernel_rfl
theorem BoolsIn.cells {F : Nat → Prop} {w : World} {v : Value} {f : List Bool} (h : BoolsIn F w v f) : CellsIn F w 1 v f.length (f.map Value.bool) := by
  obtain ⟨A, c, rfl, _, _, h3⟩ := h
  refine ⟨A, c, rfl, by simp, fun hn => ?_⟩
  obtain ⟨b, off, rfl, hF, hc⟩ := h3 hn
  refine ⟨b, off, rfl, hF, fun j u hj => ?_⟩
  have hlt : j < f.length := by
    rcases Nat.lt_or_ge j f.length with h | h
    · exact h
    · rw [List.getElem?_eq_none (by simpa using h)] at hj; cases hj
  rw [hc j hlt]
  simp only [List.getElem?_map, List.getElem?_eq_getElem hlt, Option.map_some, Option.some.injEq] at hj
  rw [← hj]
  unfold bat
  rw [List.getD_eq_getElem?_getD, List.getElem?_eq_getElem hlt]; rfl
theorem bools_of_own {w : World} {base n : Nat} {e : TypeId} {v : Value} {f : List Bool} (h : w.ownsRow base e 1 v n (f.map Value.bool)) : BoolsIn (fun b => b < w.heap.size) w v f := by
  have hl : f.length = n := by have := h.1; simpa using this
  subst hl
  rcases h.2 with ⟨rfl, h0⟩ | ⟨g, cap, cur, rfl, hb, hh, hc1, hc2, _⟩
  · exact ⟨none, 0, by rw [h0], by omega, by unfold maxLen; omega, fun h => absurd h (by omega)⟩
  · refine ⟨_, cap, rfl, hc1, hc2, fun hn => ⟨g, 0, rfl, Has.lt hh, fun j hj => ?_⟩⟩
    rw [Nat.zero_add, h.cellAt j (by omega), List.getElem?_map, List.getElem?_eq_getElem hj]
    unfold bat
    rw [List.getD_eq_getElem?_getD, List.getElem?_eq_getElem hj]; rfl
theorem bools_one (f : List Bool) : ∀ u ∈ f.map Value.bool, u.oneCell' = true := by
  intro u hu; simp only [List.mem_map] at hu; obtain ⟨z, _, rfl⟩ := hu; rfl
theorem testsR_facts (n : Int) (f : List Bool) : (testsR n f).length ≤ 12 ∧ ∀ z ∈ testsR n f, (Lit.int .i64 z).wf = true := by
  unfold testsR
  split
  · rename_i hc
    obtain ⟨N, rfl, h1, h6, hl⟩ := chkC_ok hc
    rw [Int.toNat_natCast]
    refine ⟨?_, wf_inR h6 (tests_ok h6 hl).inR⟩
    have dl : ∀ (i : Nat) (T : List Int), (dropF N f i T).length ≤ T.length := by
      intro i
      induction i with
      | zero => intro T; rw [dropF]; exact Nat.le_refl _
      | succ i ih =>
        intro T
        rw [dropF]
        split
        · refine Nat.le_trans (ih _) ?_
          rw [List.length_append, List.length_take, List.length_drop]; omega
        · exact ih T
    have h2 := dl (compact (srt (out0 f N))).length (compact (srt (out0 f N)))
    have h3 := compact_len (srt (out0 f N))
    have h4 := out0_len f N
    rw [srt_len] at h3
    unfold testsF
    omega
  · simp
set_option maxRecDepth 100000 in
set_option maxHeartbeats 8000000 in
theorem condOwn_walk (n : Int) (f : List Bool) (fv : Value) (zs : List Int) (v : Value) (x : Int) (W : World) (hL : Laid W) (hf : BoolsIn (fun b => b < W.heap.size) W fv f) (hv : IntsIn .i64 (fun b => b < W.heap.size) W v zs) (hfz : f.length ≤ 140737488351232) (hz : zs.length * 8 ≤ 140737488351232) :
    Calls Tryd.prog 3 #[.int .i64 n, fv, v, .int .i64 x] W (LawPost W) := by
  have HL := hid hL
  have FV := hid hf
  have HV := hid hv
  have WF : Hid (∀ z ∈ zs, (Lit.int .i64 z).wf = true) := by obtain ⟨_, _, _, _, h, _⟩ := hv; exact h
  have l1 : zs.length ≤ 17592186043904 := by omega
  obtain ⟨Af, cf, rfl, _, _, fc⟩ := hf
  have FC := hid fc
  obtain ⟨A, c, rfl, _, _, _⟩ := hv
  have TA := hid (Tests_any n f)
  have CA := hid (Covers_any n f zs)
  obtain ⟨q, hq⟩ : ∃ q, q = testsR n f := ⟨_, rfl⟩
  have HQ := hid hq
  have QF := testsR_facts n f
  rw [← hq] at QF
  have q12 := QF.1
  have QW := hid QF.2
  obtain ⟨cT, hcT⟩ : ∃ cT, cT = chkC n f := ⟨_, rfl⟩
  have HCT := hid hcT
  obtain ⟨cC, hcC⟩ : ∃ cC, cC = covE n f zs := ⟨_, rfl⟩
  have HCC := hid hcC
  obtain ⟨cB, hcB⟩ : ∃ cB, cB = covB n f zs := ⟨_, rfl⟩
  have HCB := hid hcB
  have O0 := hid (World.ownsRow_lit (e := 4) (size := 1) (base := W.heap.size) W #[] 0 (Nat.le_refl _) (by unfold maxLen; omega) rfl)
  have C0 := hid (FV.out.cells.keep (w' := W.alloc (Obj.cells #[] 4)) (fun b hb => Below.heap_alloc _ _ _ hb))
  obtain ⟨ig, hi0, hz0, hz1, hz2⟩ := info_parts infoBoolD
  clear hL hz hq hcT hcC hcB QF fc
  go_enter Tryd.func3, Tryd.ntmps3
  go_wp2_with (at_builtin; refine wpList_app _ rfl (.tmp 27) (.tmp 28) 22 rfl W.heap.size 4 ig (.bool false) 1 1 Tryd.underlying22 hi0 hz0 hz1 hz2 rfl (by decide) _ 0 [] rfl O0.out _ _ f.length _ rfl C0.out (bools_one _) (by unfold maxLen; omega) (by omega) (by simp) ?_; intro v1 w1 hown hgrow hat; have B1 := hid (((Below.refl W.heap.size W).alloc (Nat.le_refl _) (.cells #[] 4)).grown hgrow (by simp) (own_ge O0.out)); have R1 := hid (show w1.ownsRow W.heap.size 4 1 v1 f.length (f.map Value.bool) from (by simpa using hown)); obtain ⟨A1, c1, rfl, _⟩ := own_sliceC R1.out; clear hat hown hgrow)
  refine (copy_any zs (fun b => b < W.heap.size) _ w1 (fun b h => by have := B1.out.size; omega) (HV.out.keep (Same.of_below B1.out fun b h => h)) (by omega)).mono ?_
  rintro e w2 ⟨v2, rfl, hO, hb⟩
  have B2 := hid (B1.out.trans (hb.mono B1.out.size))
  have F2 := hid (bools_of_own (own_below R1.out hb))
  have J2 := hid ((ints_of_own hO WF.out).more (F' := fun b => b < w2.heap.size) fun b h => h.2)
  obtain ⟨A2, c2, rfl, _⟩ := own_sliceC hO
  clear hO hb B1 R1 C0 O0
  go_wp2_with fail
  refine (TA.out (fun b => b < w2.heap.size) _ w2 (fun b h => h) F2.out).mono ?_
  rintro e w3 ⟨r3, rfl, hO, hb⟩
  rw [← HQ.out] at hO
  rw [← HCT.out]
  have s3 := hb.size
  have P3 := hid hb
  have O3 := hid hO
  obtain ⟨A3, c3, rfl, _⟩ := own_sliceC hO
  clear hb hO
  go_wp2_with fail
  refine (CA.out (fun b => b < w2.heap.size) _ _ w3 (fun b h => by omega) (F2.out.keep (Same.of_below P3.out fun b h => h)) (J2.out.keep (Same.of_below P3.out fun b h => h))).mono ?_
  rintro e w4 ⟨rfl, hb⟩
  rw [← HCC.out, ← HCB.out]
  have P4 := hid (P3.out.trans (hb.mono s3))
  have O4 := hid (own_below O3.out hb)
  have s4 := P4.out.size
  clear hb P3 O3
  have FL : Hid (BoolsIn (fun b => b < (w4.alloc (.cells #[.bool false, .bool true] 4)).heap.size) (w4.alloc (.cells #[.bool false, .bool true] 4)) (.slice (some ⟨w4.heap.size, 0, none⟩) 2 2) [false, true]) := by
    have X := Has.new w4 (.cells #[.bool false, .bool true] 4)
    refine ⟨_, 2, rfl, by simp, by unfold maxLen; omega, fun _ => ⟨w4.heap.size, 0, rfl, Has.lt X, fun j hj => ?_⟩⟩
    match j, hj with
    | 0, _ => exact (Has.cell X 0).trans rfl
    | 1, _ => exact (Has.cell X 1).trans rfl
  have P5 := hid (P4.out.alloc s4 (.cells #[.bool false, .bool true] 4))
  have O5 := hid (O4.out.alloc (.cells #[.bool false, .bool true] 4))
  obtain ⟨wl, hwl⟩ : ∃ wl, wl = w4.alloc (.cells #[.bool false, .bool true] 4) := ⟨_, rfl⟩
  have HWL := hid hwl
  rw [← hwl] at FL P5 O5
  clear hwl P4 O4
  go_wp2_with fail
  rw [← HWL.out]
  refine (Tests_any 1 [false, true] (fun b => b < wl.heap.size) _ wl (fun b h => h) FL.out).mono ?_
  rintro e w6 ⟨r6, rfl, o6, hb⟩
  rw [two_tests.2, errV_0]
  rw [two_tests.1] at o6
  obtain ⟨A6, c6, rfl, _⟩ := own_sliceC o6
  have P6 := hid (P5.out.trans (hb.mono P5.out.size))
  have O6 := hid (own_below O5.out hb)
  have s6 := P6.out.size
  clear hb o6 FL P5 O5 s4
  go_wp2_with fail
  refine (ints_any zs zs (fun _ => True) _ _ w6 ((J2.out.keep (Same.of_below P6.out fun b h => h)).more fun _ _ => trivial) ((HV.out.keep (Same.of_below (B2.out.trans (P6.out.mono B2.out.size)) fun b h => h)).more fun _ _ => trivial)).mono ?_
  rintro e w7 ⟨rfl, n7, rfl⟩
  rw [show decide (zs = zs) = true from decide_eq_true rfl]
  have P7 := hid (below_drewN P6.out n7)
  have O7 := hid (own_below O6.out (below_drewN (Below.refl _ _) n7))
  have s7 : w2.heap.size ≤ (w6.drewN n7).heap.size := s6
  generalize w6.drewN n7 = w7 at *
  clear P6 O6 s6
  go_wp2_with fail
  have F7 := hid (F2.out.keep (w' := w7) fun b hb => P7.out.block b hb)
  have V7 := hid (FV.out.keep (w' := w7) fun b hb => (P7.out.block b (by have := B2.out.size; omega)).trans (B2.out.block b hb))
  go_loopw [17, 18] (fun sv iv wr => ∃ i : Nat, i ≤ f.length ∧ sv = .bool true ∧ iv = .int .i64 i ∧ Hid (Below w7.heap.size w7 wr)) (fun _ iv _ => f.length - (intOf iv).toNat)
  case atStart => exact ⟨0, Nat.zero_le _, rfl, rfl, Below.refl _ _⟩
  case round =>
    obtain ⟨i, hi, rfl, rfl, hB⟩ := hrel
    obtain ⟨wo, rfl⟩ : ∃ wo : World, wo = wr := ⟨_, rfl⟩
    have so := hB.out.size
    by_cases hlt : i < f.length
    · obtain ⟨_, _, e1, _, _, h1⟩ := F7.out
      injection e1 with e1 _ e1c
      subst e1 e1c
      obtain ⟨b1, o1, rfl, _, hc1⟩ := h1 (by omega)
      obtain ⟨_, _, e2, _, _, h2⟩ := V7.out
      injection e2 with e2 _ e2c
      subst e2 e2c
      obtain ⟨b2, o2, rfl, _, hc2⟩ := h2 (by omega)
      have k1 := (hB.out.cell (p := ⟨b1, o1 + i, none⟩) (cell_lt (hc1 i hlt))).trans (hc1 i hlt)
      have k2 := (hB.out.cell (p := ⟨b2, o2 + i, none⟩) (cell_lt (hc2 i hlt))).trans (hc2 i hlt)
      have i1 : (i : Int) < (f.length : Int) := by omega
      have ff : f.length ≤ 9223372036854775807 := by omega
      obtain ⟨y, hy⟩ : ∃ y, y = bat f i := ⟨_, rfl⟩
      rw [← hy] at k1 k2
      clear hc1 hc2 h1 h2 hy
      cases y
      all_goals
        go_wp2_with fail
        go_upto_region 10 with fail
        go_quiet (fail)
        have B8 := hid (below_drewN hB.out nq)
        go_wp2_with fail
        go_roundw
        case rel => exact ⟨i + 1, by omega, rfl, by go_num, B8⟩
        case measure => simp [intOf]; omega
    · obtain rfl : i = f.length := by omega
      have P8 := hid (P7.out.trans (hB.out.mono s7))
      have O8 := hid (own_below O7.out hB.out)
      have s8 : w2.heap.size ≤ wo.heap.size := P8.out.size
      have I8 := hid ((ints_of_own O8.out QW.out).more (F' := fun b => b < wo.heap.size) fun b h => h.2)
      clear hB P7 O7 F7 V7
      go_wp2_with fail
      refine (copy_any q (fun b => b < wo.heap.size) _ wo (fun b h => h) I8.out (by omega)).mono ?_
      rintro e w9 ⟨v9, rfl, hO, hb⟩
      have s9 := hb.size
      have P9 := hid (P8.out.trans (hb.mono s8))
      have O9 := hid (own_below O8.out hb)
      have LO8 := hid (own_lt O8.out)
      have V9 := hid (ints_of_own hO QW.out)
      obtain ⟨A9, c9, rfl, _⟩ := own_sliceC hO
      clear hO hb I8 P8
      go_wp2_with fail
      refine (spoil_any x q w2.heap.size _ w9 O9.out (by omega)).mono ?_
      rintro e w10 ⟨rfl, _, hg⟩
      have s10 := hg.size
      have P10 := hid (P9.out.grown hg (by omega) (own_ge O9.out))
      have V10 := hid (V9.out.keep (w' := w10) fun b hb => hg.block b hb.2 (fun e => by have := LO8.out b e.symm; have := hb.1; omega))
      have B10 := hid (B2.out.trans (P10.out.mono B2.out.size))
      clear hg P9 O9 V9 LO8 O8
      go_wp2_with fail
      refine (TA.out (fun b => b < W.heap.size) _ w10 (fun b h => by have := B10.out.size; omega) (FV.out.keep (Same.of_below B10.out fun b h => h))).mono ?_
      rintro e w11 ⟨r11, rfl, hO, hb⟩
      rw [← HQ.out] at hO
      rw [← HCT.out]
      have B11 := hid (B10.out.trans (hb.mono B10.out.size))
      have N11 := hid (ints_of_own hO QW.out)
      have V11 := hid (V10.out.keep (Same.of_below hb fun b h => by have := h.2; omega))
      obtain ⟨A11, c11, rfl, _⟩ := own_sliceC hO
      clear hb hO
      go_wp2_with fail
      refine (ints_any q q (fun _ => True) _ _ w11 (N11.out.more fun _ _ => trivial) (V11.out.more fun _ _ => trivial)).mono ?_
      rintro e w12 ⟨rfl, n12, rfl⟩
      rw [show decide (q = q) = true from decide_eq_true rfl]
      have B12 := hid (below_drewN B11.out n12)
      generalize w11.drewN n12 = w12 at *
      clear B11
      go_wp2_with fail
      refine (stold_any cT cT w12 (HL.out.below B12.out)).mono ?_
      rintro e w13 ⟨rfl, hb⟩
      have B13 := hid (B12.out.trans (hb.mono B12.out.size))
      clear hb
      rw [show decide (cT = cT) = true from decide_eq_true rfl]
      go_wp2_with fail
      refine (CA.out (fun b => b < W.heap.size) _ _ w13 (fun b h => by have := B13.out.size; omega) (FV.out.keep (Same.of_below B13.out fun b h => h)) (HV.out.keep (Same.of_below B13.out fun b h => h))).mono ?_
      rintro e w14 ⟨rfl, hb⟩
      rw [← HCC.out, ← HCB.out]
      have B14 := hid (B13.out.trans (hb.mono B13.out.size))
      clear hb
      go_wp2_with fail
      refine (stold_any cC cC w14 (HL.out.below B14.out)).mono ?_
      rintro e w15 ⟨rfl, hb⟩
      have B15 := hid (B14.out.trans (hb.mono B14.out.size))
      clear hb
      rw [show decide (cC = cC) = true from decide_eq_true rfl]
      go_wp2_with fail
      go_ret
      exact ⟨rfl, B15.out⟩
end Go.Proofs.YtmhledlcfbjfkaaDoor
