/- The law CondLeast: it returns true, and all that the call was given reads as before. Condition: the tests' reach. -/
import Derived.Test.YtmhledlcfbjfkaaCdj
import Derived.Test.YtmhledlcfbjfkaaRin
namespace Go.Proofs.Ytmhledlcfbjfkaa
open Go.RowKit Go.Deep Go.Lib
def LawPost (W : World) (e : Ending) (w' : World) : Prop := e = .returned (.bool true) ∧ Below W.heap.size W w'
set_option maxRecDepth 100000 in
set_option maxHeartbeats 1000000 in
theorem Tests_any (n : Int) (f : List Bool) (F : Nat → Prop) (fv : Value) (w : World) (hF : ∀ b, F b → b < w.heap.size) (hf : BoolsIn F w fv f) :
    Calls Try.prog 4 #[.int .i64 n, fv] w (TestsPost n f w) := by
  by_cases hc : chkC n f = 0
  · obtain ⟨N, rfl, h1N, hN, hl⟩ := chkC_ok hc
    refine (tests_good N f F fv w hF hf h1N hN hl).mono ?_
    rintro e w' ⟨v, rfl, ho, hb⟩
    have e : testsR (N : Int) f = testsF N f := by unfold testsR; rw [if_pos hc, Int.toNat_natCast]
    exact ⟨v, by rw [hc]; rfl, by rw [e]; exact ho, hb⟩
  · have CK := hid (ccheck_any n f F fv w hf)
    have EV := hid (errV_no hc)
    have TE : Hid (testsR n f = []) := by show _ = _; unfold testsR; rw [if_neg hc]
    obtain ⟨Af, cf, rfl, _, _, _⟩ := hf
    have fin : Hid (∀ e w', e = .returned (.tuple #[.slice none 0 0, errV (chkC n f)]) → w' = w → TestsPost n f w e w') := fun e w' h1 h2 => by
      subst h1 h2
      exact ⟨_, rfl, by rw [TE.out]; exact World.ownsRow_nil _ _ _ _, Below.refl _ _⟩
    generalize chkC n f = cc at *
    clear hF hc TE
    go_enter Try.func4, Try.ntmps4
    go_wp2_with fail
    refine CK.out.mono ?_
    rintro e w1 ⟨rfl, rfl⟩
    rw [EV.out]
    go_wp2_with fail
    go_ret2
    exact fin.out _ _ (by rw [EV.out]; rfl) rfl
/-- the tests, each once -/
def onceF : List Int → List Int → List Int
  | acc, [] => acc
  | acc, z :: r => if z ∈ acc then onceF acc r else onceF (acc ++ [z]) r
theorem once_mem : ∀ (zs acc : List Int) (x : Int), x ∈ onceF acc zs ↔ x ∈ acc ∨ x ∈ zs
  | [], acc, x => by simp [onceF]
  | z :: r, acc, x => by
    rw [onceF]
    split
    · rename_i h
      rw [once_mem r acc x]
      simp only [List.mem_cons]
      constructor
      · rintro (h1 | h1)
        · exact .inl h1
        · exact .inr (.inr h1)
      · rintro (h1 | rfl | h1)
        · exact .inl h1
        · exact .inl h
        · exact .inr h1
    · rw [once_mem r (acc ++ [z]) x]
      simp only [List.mem_append, List.mem_cons, List.mem_singleton, List.not_mem_nil, or_false, or_assoc]
theorem once_take {zs : List Int} {i : Nat} (h : i < zs.length) (acc : List Int) : onceF acc (zs.take (i + 1)) = if zs[i] ∈ onceF acc (zs.take i) then onceF acc (zs.take i) else onceF acc (zs.take i) ++ [zs[i]] := by
  have key : ∀ (l acc : List Int) (z : Int), onceF acc (l ++ [z]) = if z ∈ onceF acc l then onceF acc l else onceF acc l ++ [z] := by
    intro l
    induction l with
    | nil => intro acc z; by_cases h : z ∈ acc <;> simp [onceF, h]
    | cons y r ih =>
      intro acc z
      rw [List.cons_append, onceF, onceF]
      split
      · exact ih acc z
      · exact ih _ z
  rw [List.take_succ_eq_append_getElem h, key]
theorem once_len : ∀ (zs acc : List Int), (onceF acc zs).length ≤ acc.length + zs.length
  | [], acc => by simp [onceF]
  | z :: r, acc => by
    rw [onceF]
    split
    · have := once_len r acc; simp; omega
    · have := once_len r (acc ++ [z]); simp at this ⊢; omega
/-- what the law says of tests that cover -/
theorem once_bound {N : Nat} {f : List Bool} {T : List Int} (hN : N ≤ 6) (hr : InR N T) (hc : cov N f T = true) (h0 : mats N f ≠ []) : (mats N f).length < (onceF [] T).length := by
  refine bound hN (fun t ht => hr t (by have := (once_mem T [] t).1 ht; simpa using this)) (fun i hi hm => ?_) h0
  have h1 := cov_has hc i hi hm
  unfold hasP at h1 ⊢
  rw [List.any_eq_true] at h1 ⊢
  obtain ⟨t, h2, h3⟩ := h1
  refine ⟨t, (once_mem T [] t).2 (.inr h2), ?_⟩
  unfold hasPt at h3 ⊢
  simp only [Bool.and_eq_true, decide_eq_true_eq] at h3 ⊢
  exact ⟨h3.1, (once_mem T [] _).2 (.inr h3.2)⟩
theorem two_tests : (testsR 1 [false, true]).length = 2 ∧ chkC 1 [false, true] = 0 := by
  have hc : chkC 1 [false, true] = 0 := by decide
  refine ⟨?_, hc⟩
  have e : testsR 1 [false, true] = testsF 1 [false, true] := by unfold testsR; rw [if_pos hc]; rfl
  rw [e]
  have hp : out0 [false, true] 1 = [0, 1] := by decide
  unfold testsF
  rw [hp]
  have hs : srt [0, 1] = [0, 1] := by unfold srt; first | rfl | simp [List.mergeSort, List.MergeSort.Internal.splitInTwo, List.merge] | exact List.mergeSort_of_pairwise (by simp)
  rw [hs]
  decide +kernel
def cntM (f : List Bool) (i : Nat) : Nat := ((List.range i).filter (mat f)).length
theorem cntM_succ (f : List Bool) (i : Nat) : cntM f (i + 1) = cntM f i + if mat f i then 1 else 0 := by
  unfold cntM
  rw [List.range_succ, List.filter_append, List.length_append]
  cases h : mat f i <;> simp [List.filter, h]
theorem cntM_le (f : List Bool) (i : Nat) : cntM f i ≤ i := by
  unfold cntM
  have := List.length_filter_le (mat f) (List.range i)
  simpa using this
set_option maxRecDepth 100000 in
set_option maxHeartbeats 8000000 in
theorem condLeast_walk (n : Int) (f : List Bool) (fv : Value) (zs : List Int) (v : Value) (W : World) (hf : BoolsIn (fun b => b < W.heap.size) W fv f) (h : IntsIn .i64 (fun b => b < W.heap.size) W v zs) (hz : zs.length * 8 ≤ 140737488351232) :
    Calls Try.prog 3 #[.int .i64 n, fv, v] W (LawPost W) := by
  have FV := hid hf
  have TV := hid h
  have CV := hid (Covers_any n f zs)
  have TT := hid (Tests_any n f)
  have CE : Hid (chkC n f ≠ 0 → covE n f zs ≠ 0) := fun h => by unfold covE; rw [if_pos h]; exact h
  have OKF : Hid (chkC n f = 0 → ∃ N : Nat, n = N ∧ 1 ≤ N ∧ N ≤ 6 ∧ f.length = 2 ^ N ∧ TOk N f (testsF N f) ∧ testsR n f = testsF N f ∧ (cntM f N = 0 → testsF N f = []) ∧ (cntM f N ≠ 0 → cntM f N < (testsF N f).length ∧ (covE n f zs = 0 → covB n f zs = true → cntM f N < (onceF [] zs).length))) := fun hc => by
    obtain ⟨N, rfl, h1, h6, hl⟩ := chkC_ok hc
    have tk := tests_ok (n := N) (f := f) h6 hl
    have e : testsR (N : Int) f = testsF N f := by unfold testsR; rw [if_pos hc, Int.toNat_natCast]
    refine ⟨N, rfl, h1, h6, hl, tk, e, fun h0 => tests_nil (List.eq_nil_of_length_eq_zero h0), fun h0 => ?_⟩
    have hm : mats N f ≠ [] := fun hh => h0 (by unfold cntM; unfold mats at hh; rw [hh]; rfl)
    refine ⟨bound h6 tk.inR tk.has hm, fun hce hcb => ?_⟩
    obtain ⟨N', e', _, _, _, hr, hcb'⟩ := cov_ok hce
    obtain rfl : N = N' := by omega
    rw [hcb'] at hcb
    exact once_bound h6 hr hcb hm
  obtain ⟨Af, cf, rfl, _, _, _⟩ := hf
  obtain ⟨At, ct, rfl, tl1, twf, tc⟩ := h
  have TC := hid tc
  have zl : zs.length ≤ 17592186043904 := by omega
  have HZ := hid hz
  have TWF := hid twf
  clear tc hz tl1 twf
  obtain ⟨Wl, hWl⟩ : ∃ Wl, Wl = W.alloc (.cells #[.bool false, .bool true] 4) := ⟨_, rfl⟩
  have BL : Hid (Below W.heap.size W Wl) := by show Below _ _ _; rw [hWl]; exact (Below.refl _ _).alloc (Nat.le_refl _) _
  have FL : Hid (BoolsIn (fun b => b < Wl.heap.size) Wl (.slice (some ⟨W.heap.size, 0, none⟩) 2 2) [false, true]) := by
    have X := Has.new W (.cells #[.bool false, .bool true] 4)
    rw [← hWl] at X
    refine ⟨_, 2, rfl, by simp, by unfold maxLen; omega, fun _ => ⟨W.heap.size, 0, rfl, Has.lt X, fun j hj => ?_⟩⟩
    match j, hj with
    | 0, _ => exact (Has.cell X 0).trans rfl
    | 1, _ => exact (Has.cell X 1).trans rfl
  have HWl := hid hWl
  have sl : W.heap.size < Wl.heap.size := by rw [hWl]; simp
  clear hWl
  go_enter Try.func3, Try.ntmps3
  go_wp2_with fail
  rw [← HWl.out]
  refine (Tests_any 1 [false, true] (fun b => b < Wl.heap.size) _ Wl (fun b h => h) FL.out).mono ?_
  rintro e w1 ⟨v1, rfl, o1, hb⟩
  rw [two_tests.2, errV_0]
  rw [two_tests.1] at o1
  obtain ⟨A1, c1, rfl, _⟩ := own_sliceC o1
  have B1 := hid (BL.out.trans (hb.mono BL.out.size))
  clear hb o1 FL
  go_wp2_with fail
  refine (CV.out (fun b => b < W.heap.size) _ _ w1 (fun b hb => by have := B1.out.size; omega) (FV.out.keep (Same.of_below B1.out fun b h => h)) (TV.out.keep (Same.of_below B1.out fun b h => h))).mono ?_
  rintro e w2 ⟨rfl, hb⟩
  have B2 := hid (B1.out.trans (hb.mono B1.out.size))
  clear hb
  go_wp2_with fail
  refine (TT.out (fun b => b < W.heap.size) _ w2 (fun b hb => by have := B2.out.size; omega) (FV.out.keep (Same.of_below B2.out fun b h => h))).mono ?_
  rintro e w3 ⟨v3, rfl, o3, hb⟩
  obtain ⟨A3, c3, rfl, _⟩ := own_sliceC o3
  have B3 := hid (B2.out.trans (hb.mono B2.out.size))
  clear hb o3
  by_cases hc : chkC n f = 0
  · rw [hc, errV_0]
    obtain ⟨N, rfl, h1N, hN, hl, _, tr, t0, tb⟩ := OKF.out hc
    have T0 := hid t0
    have TB := hid tb
    have HL := hid hl
    rw [tr]
    obtain ⟨ce, hce⟩ : ∃ ce, ce = covE N f zs := ⟨_, rfl⟩
    obtain ⟨cb, hcb⟩ : ∃ cb, cb = covB N f zs := ⟨_, rfl⟩
    have HCE := hid hce
    have HCB := hid hcb
    rw [← hce, ← hcb]
    clear hc t0 tb hl hce hcb tr OKF CE
    go_wp2_with fail
    go_loopw [13, 14] (fun mv iv wr => ∃ i : Nat, i ≤ N ∧ mv = .int .i64 (cntM f i : Nat) ∧ iv = .int .i64 i ∧ Hid (Below W.heap.size W wr)) (fun _ iv _ => N - (intOf iv).toNat)
    case atStart => exact ⟨0, Nat.zero_le _, rfl, rfl, B3⟩
    case round =>
      obtain ⟨i, hi, rfl, rfl, hB⟩ := hrel
      obtain ⟨wo, rfl⟩ : ∃ wo : World, wo = wr := ⟨_, rfl⟩
      by_cases hlt : i < N
      · have i1 : (i : Int) < (N : Int) := by omega
        have CS := hid (cntM_succ f i)
        have cl := cntM_le f i
        have MO := hid (matters_ok N i f (fun b => b < W.heap.size) _ wo (fun b hb => by have := hB.out.size; omega) (FV.out.keep (Same.of_below hB.out fun b h => h)) h1N hN HL.out hlt)
        obtain ⟨cm, hcm⟩ : ∃ cm, cm = cntM f i := ⟨_, rfl⟩
        rw [← hcm] at CS cl ⊢
        clear hcm
        go_wp2_with fail
        refine MO.out.mono ?_
        rintro e w4 ⟨rfl, hb⟩
        have B4 := hid (hB.out.trans (hb.mono hB.out.size))
        clear hb MO
        cases hm : mat f i with
        | false =>
          have CS2 : Hid (cntM f (i + 1) = cm) := by show _ = _; rw [CS.out, hm]; rfl
          clear hm
          go_wp2_with fail
          go_roundw
          case rel => exact ⟨i + 1, by omega, by rw [CS2.out], by go_num, B4⟩
          case measure => simp [intOf]; omega
        | true =>
          have CS2 : Hid (cntM f (i + 1) = cm + 1) := by show _ = _; rw [CS.out, hm]; rfl
          clear hm
          go_wp2_with fail
          go_roundw
          case rel => exact ⟨i + 1, by omega, by rw [CS2.out]; go_num, by go_num, B4⟩
          case measure => simp [intOf]; omega
      · obtain rfl : i = N := by omega
        have cl := cntM_le f i
        obtain ⟨cm, hcm⟩ : ∃ cm, cm = cntM f i := ⟨_, rfl⟩
        rw [← hcm] at T0 TB cl ⊢
        clear hcm
        by_cases h0 : cm = 0
        · have E0 := T0.out h0
          subst h0
          rw [E0]
          clear E0
          go_wp2_with fail
          go_ret
          exact ⟨rfl, hB.out⟩
        · obtain ⟨tb1, tb2⟩ := TB.out h0
          have TB2 := hid tb2
          obtain ⟨tl, htl⟩ : ∃ tl, tl = (testsF i f).length := ⟨_, rfl⟩
          rw [← htl] at tb1 ⊢
          have d1 : ((cm : Int) == 0) = false := by simp; exact h0
          have d2 : (cm == 0) = false := by simp; exact h0
          have OL := hid (once_len zs [])
          clear tb2 htl h0 TB T0
          obtain ⟨i0, hi0, hz0, hz1, hz2⟩ := info_parts infoInt
          have lW := hB.out.size
          go_wp2_with fail
          go_loopw [17, 18] (fun ov iv wr => ∃ (j : Nat) (A : Option Addr) (c : Nat), j ≤ zs.length ∧ ov = .slice A (onceF [] (zs.take j)).length c ∧ iv = .int .i64 j ∧ Hid (wr.ownsRow W.heap.size 3 1 (.slice A (onceF [] (zs.take j)).length c) (onceF [] (zs.take j)).length ((onceF [] (zs.take j)).map (Value.int .i64))) ∧ Hid (Below W.heap.size W wr)) (fun _ iv _ => zs.length - (intOf iv).toNat)
          case atStart => exact ⟨0, none, 0, Nat.zero_le _, by rw [List.take_zero]; rfl, rfl, by rw [List.take_zero]; exact World.ownsRow_nil _ _ _ _, hB⟩
          case round =>
            clear hB lW
            obtain ⟨j, A, c, hj, rfl, rfl, hO, hB⟩ := hrel
            obtain ⟨wi, rfl⟩ : ∃ wi : World, wi = wr := ⟨_, rfl⟩
            have lB := hB.out.size
            by_cases hjl : j < zs.length
            · obtain ⟨b, off, rfl, lb, hcl⟩ := TC.out (by omega)
              have k0 := (hB.out.cell (p := ⟨b, off + j, none⟩) lb).trans (hcl j hjl)
              have j1 : (j : Int) < (zs.length : Int) := by omega
              have OT := hid (once_take hjl [])
              have LO : Hid ((onceF [] (zs.take j)).length ≤ j) := by have := once_len (zs.take j) []; rw [List.length_take] at this; show _ ≤ _; simp at this ⊢; omega
              have WO : Hid (∀ z ∈ onceF [] (zs.take j), (Lit.int .i64 z).wf = true) := fun z hz => by
                have := (once_mem (zs.take j) [] z).1 hz
                simp at this
                exact TWF.out z (List.mem_of_mem_take this)
              rw [List.getD_eq_getElem?_getD, List.getElem?_eq_getElem hjl] at k0
              simp only [Option.getD_some] at k0
              obtain ⟨z, hz⟩ : ∃ z, z = zs[j] := ⟨_, rfl⟩
              rw [← hz] at k0 OT
              obtain ⟨L, hL⟩ : ∃ L, L = onceF [] (zs.take j) := ⟨_, rfl⟩
              rw [← hL] at hO OT LO WO ⊢
              have RI := hid (rin_any L z (fun b => b < wi.heap.size) _ wi ((ints_of_own hO.out WO.out).more fun b hb => hb.2))
              have HJ := hid hjl
              have ll : L.length ≤ 17592186043904 := by have := LO.out; omega
              clear hz hL hcl
              go_wp2_with fail
              refine RI.out.mono ?_
              rintro e w5 ⟨rfl, rfl⟩
              by_cases hin : z ∈ L
              · have OT2 : Hid (onceF [] (zs.take (j + 1)) = L) := by show _ = _; rw [OT.out, if_pos hin]
                rw [decide_eq_true hin]
                clear hin
                go_wp2_with fail
                go_roundw
                case rel => exact ⟨j + 1, A, c, by have := HJ.out; omega, by rw [OT2.out], by go_num, by rw [OT2.out]; exact hO, hB⟩
                case measure => have := HJ.out; simp [intOf]; omega
              · have OT2 : Hid (onceF [] (zs.take (j + 1)) = L ++ [z]) := by show _ = _; rw [OT.out, if_neg hin]
                rw [decide_eq_false hin]
                have AO := hid (hO.out.alloc (.cells #[.int .i64 z] 3))
                have CO := hid (show CellsIn (fun b => b = wi.heap.size) (wi.alloc (.cells #[.int .i64 z] 3)) 1 (.slice (some ⟨wi.heap.size, 0, none⟩) 1 1) 1 [.int .i64 z] from ⟨_, 1, rfl, rfl, fun _ => ⟨wi.heap.size, 0, rfl, rfl, fun j u hj => by
                  match j, hj with
                  | 0, hj => simp at hj; subst hj; simp⟩⟩)
                clear hin
                go_wp2_with (at_builtin; refine wpList_app _ rfl (.tmp 83) (.tmp 88) 23 rfl W.heap.size 3 i0 (.int .i64 0) 1 8 Try.underlying23 hi0 hz0 hz1 hz2 rfl (by decide) _ _ _ rfl AO.out _ _ 1 _ rfl CO.out (by intro u hu; simp at hu; subst hu; rfl) (by unfold maxLen; omega) (by omega) (by simp; omega) ?_; intro v6 w6 hown hgrow hat; obtain ⟨A6, c6, rfl, _⟩ := own_sliceC hown; have R1 := hid hown; have G1 := hid hgrow; clear hown hgrow hat)
                have B6 : Hid (Below W.heap.size W w6) := (hB.out.alloc lB (.cells #[.int .i64 z] 3)).grown G1.out (by simp; omega) (own_ge AO.out)
                have R2 : Hid (w6.ownsRow W.heap.size 3 1 (.slice A6 (onceF [] (zs.take (j + 1))).length c6) (onceF [] (zs.take (j + 1))).length ((onceF [] (zs.take (j + 1))).map (Value.int .i64))) := by
                  show World.ownsRow _ _ _ _ _ _ _
                  rw [OT2.out, List.length_append, List.map_append]; exact R1.out
                have EL : Hid ((onceF [] (zs.take (j + 1))).length = L.length + 1) := by show _ = _; rw [OT2.out, List.length_append]; rfl
                clear R1 G1 AO CO
                go_roundw
                case rel => exact ⟨j + 1, A6, c6, by have := HJ.out; omega, by rw [EL.out], by go_num, R2, B6⟩
                case measure => have := HJ.out; simp [intOf]; omega
            · obtain rfl : j = zs.length := by omega
              rw [List.take_length]
              obtain ⟨ol, hol⟩ : ∃ ol, ol = (onceF [] zs).length := ⟨_, rfl⟩
              rw [← hol] at TB2 ⊢
              have t1 : (cm : Int) < (tl : Int) := by omega
              have t2 : decide ((cm : Int) < (tl : Int)) = true := by simp; omega
              by_cases hce : ce = 0
              · have HB := hid (TB2.out (by rw [← HCE.out]; exact hce))
                subst hce
                rw [errV_0]
                cases cb with
                | false =>
                  clear hol
                  go_wp2_with fail
                  go_ret
                  exact ⟨rfl, hB.out⟩
                | true =>
                  have q1 := HB.out HCB.out.symm
                  have q2 : (cm : Int) < (ol : Int) := by omega
                  clear hol
                  go_wp2_with fail
                  go_ret
                  exact ⟨rfl, hB.out⟩
              · rw [errV_no hce]
                clear hol hce
                go_wp2_with fail
                go_ret
                exact ⟨rfl, hB.out⟩
  · have HCC := hid (CE.out hc)
    rw [errV_no hc, errV_no HCC.out]
    clear hc OKF
    go_wp2_with fail
    go_ret
    exact ⟨rfl, B3.out⟩
end Go.Proofs.Ytmhledlcfbjfkaa
