/- What gen's made does with Many: so many items one by one, or a panic where the chooser panics. Conditions: as for made. -/
import Derived.Test.YtopehfmppfibhaaDoorGnb
import Derived.Test.YtopehfmppfibhaaDoorGmm
namespace Go.Proofs.YtopehfmppfibhaaDoor
open Go.RowKit Go.Deep
set_option maxRecDepth 100000 in
set_option maxHeartbeats 4000000 in
theorem madeP_many (a b : Int) (y : Ge) (ihy : MadeOkP y) {S : Type} {B0 : Nat} (fid : FuncId) (caps : Array Value) (R : S → (Nat → Prop) → World → Prop) (f : S → Int → Except Int (S × Int)) (s : S) (D F : Nat → Prop) (u v x c : Value) (w : World)
    (hcf : ∀ (args : Array Value) (w : World), Sem.run Tryd.prog (callFunc fid args) w = .ok (.enter fid args) w) (hC : ChoosesP B0 fid caps R f) (hF : ∀ b, F b → b < w.heap.size ∧ ¬ D b) (hx : GeIn F w (.mk 4 a b [y]) u v x c) (hR : R s D w) (he : (Ge.mk 4 a b [y]).err = 0) (hw : (Ge.mk 4 a b [y]).wide) (hN : ∀ c, (Ge.mk 4 a b [y]).made.run f s = .error c → c ≠ 0) :
    Calls Tryd.prog 37 #[.func (Fn.func fid) #[] caps, .agg #[u, v, x, c]] w (MadeP R D ((Ge.mk 4 a b [y]).made.run f s) w) := by
  have HC := hid hC
  have HR := hid hR
  have lo0 := (hC.lo _ _ _ hR).1
  have HF := hid hF
  have PI := hid ihy
  have CF := hid hcf
  obtain ⟨A, cp, rfl, rfl, rfl, rfl, l1, l2, hs⟩ := hx.box
  obtain ⟨bl, off, rfl, hFb, hex⟩ := hs (by simp)
  have HX := hid hex
  have lb := HF.out bl hFb
  have EY := hid ((Ge.err_parts he).2 y (by simp))
  have aa : 0 ≤ a ∧ a ≤ 5 := by
    have h1 := (Ge.err_parts he).1
    unfold oneE at h1
    rw [if_neg (by omega), if_pos rfl] at h1
    split at h1
    · omega
    · omega
  obtain ⟨a0, a5⟩ := aa
  rw [Ge.wide] at hw
  have WY := hid (Ges.wide_mem hw.2 y (by simp))
  obtain ⟨i0, hi0, hz0, hz1, hz2⟩ := info_parts infoVal
  have RUN : Hid ((Ge.mk 4 a b [y]).made.run f s = thenR (f s a) fun st0 x0 => listR ((Ch.all (List.replicate x0.toNat y.made)).run f st0)) := by
    show _ = _
    rw [Ge.made]
    simp only [madeM, show ¬ ((4 : Int) = 1) by decide, show ¬ ((4 : Int) = 2) by decide, show ¬ ((4 : Int) = 3) by decide, if_false, if_true]
    rw [Ch.run]
    cases f s a with
    | error c => rfl
    | ok p =>
      obtain ⟨st0, x0⟩ := p
      simp only [thenR]
      rw [show (Ges.mades [y]).getD 0 (.done default) = y.made by simp [Ges.mades]]
      exact bind_list_run f _ st0
  rw [RUN.out] at hN ⊢
  have AN := hid (hC.ans s a)
  have NZ0 : Hid (∀ c, f s a = .error c → c ≠ 0) := fun c h => hN c (by rw [h]; rfl)
  have ASK := hid (hC.ask s a D)
  generalize f s a = r at *
  have W3 := hid (below3 w (.cells #[.int .i64 4, .int .i64 a, .int .i64 b, .slice (some ⟨bl, off, none⟩) 1 cp] 24) (.cells #[.bool false, .int .i64 0, .slice none 0 0] 47) (.cells #[.bool true, .int .i64 0, .slice none 0 0] 47))
  have X3 := hid (boxes3 w (.cells #[.int .i64 4, .int .i64 a, .int .i64 b, .slice (some ⟨bl, off, none⟩) 1 cp] 24) (.cells #[.bool false, .int .i64 0, .slice none 0 0] 47) (.cells #[.bool true, .int .i64 0, .slice none 0 0] 47))
  have DL := hid (HC.out.isIn _ _ _ HR.out)
  have RK := hid (HC.out.keep _ _ _ (((w.alloc (.cells #[.int .i64 4, .int .i64 a, .int .i64 b, .slice (some ⟨bl, off, none⟩) 1 cp] 24)).alloc (.cells #[.bool false, .int .i64 0, .slice none 0 0] 47)).alloc (.cells #[.bool true, .int .i64 0, .slice none 0 0] 47)) HR.out (fun b hb => W3.out.block b (DL.out b hb)) (fun b hb => W3.out.block b (by omega)) W3.out.size)
  clear hC hR hF ihy hs he hw hx hex RUN
  go_enter Tryd.func37, Tryd.ntmps37
  go_wp2_with fail
  refine (ASK.out _ RK.out a0 (by omega) NZ0.out).mono ?_
  rintro e w4 ⟨ho, he⟩
  cases r with
  | error cc =>
    simp only at he
    subst he
    exact ⟨rfl, (OutsD.below W3.out (Nat.le_refl _)).trans ho fun b h => .inl h, rfl⟩
  | ok p =>
  obtain ⟨st0, x0⟩ := p
  simp only at he
  obtain ⟨rfl, D0, hR0, hD0⟩ := he
  have hxb := AN.out st0 x0 rfl a0
  obtain ⟨X, rfl⟩ : ∃ X : Nat, x0 = X := ⟨x0.toNat, by omega⟩
  have X5 : X ≤ 5 := by omega
  simp only [thenR] at hN
  have GL : Hid (thenR (Except.ok (st0, (X : Int)) : Except Int (S × Int)) (fun st0 x0 => listR ((Ch.all (List.replicate x0.toNat y.made)).run f st0)) = listR ((Ch.all (List.replicate (X : Int).toNat y.made)).run f st0)) := rfl
  have E0 : Hid ((Ch.all (List.replicate (X : Int).toNat y.made)).run f st0 = glueR [] ((Ch.all (List.replicate (X - 0) y.made)).run f st0)) := by
    show _ = _
    rw [Int.toNat_natCast, Nat.sub_zero]
    cases (Ch.all (List.replicate X y.made)).run f st0 with
    | error c => rfl
    | ok p => rfl
  generalize (Ch.all (List.replicate (X : Int).toNat y.made)).run f st0 = r0 at hN E0 GL
  have NZ : Hid (∀ c, r0 = .error c → c ≠ 0) := fun c h => hN c (by rw [h]; rfl)
  clear hN
  have s4 := ho.1.size
  simp only [World.size_alloc] at s4
  have OB : Hid (∀ x, w.heap.size ≤ x → x < w.heap.size + 3 → w4.heap[x]? = (((w.alloc (.cells #[.int .i64 4, .int .i64 a, .int .i64 b, .slice (some ⟨bl, off, none⟩) 1 cp] 24)).alloc (.cells #[.bool false, .int .i64 0, .slice none 0 0] 47)).alloc (.cells #[.bool true, .int .i64 0, .slice none 0 0] 47)).heap[x]?) := fun x h1 h2 => ho.2 x (by simp; omega) (fun hd => by have := DL.out x hd; omega)
  have M0 : Hid (MInvP R D w 4 a b (some ⟨bl, off, none⟩) 1 cp st0 0 [] w4) :=
    ⟨rfl, D0, .slice none 0 0, [], hR0, fun x h => by rcases hD0 x h with h | h; exact .inl h; simp at h; exact .inr (by omega), World.ownsRow_nil _ _ _ _, (fun x h => by cases h), (OB.out _ (Nat.le_refl _) (by omega)).trans X3.out.1, (OB.out _ (by omega) (by omega)).trans X3.out.2.1, (OB.out _ (by omega) (by omega)).trans X3.out.2.2, (OutsD.below W3.out (Nat.le_refl _)).trans ho fun b h => .inl h, by omega, VaCells.nil_⟩
  clear ho hR0 hD0 hxb RK X3 ASK AN NZ0
  go_wp2_with fail
  go_loopw [53] (fun iv wr => ∃ (i : Nat) (st : S) (vs : List Va), i ≤ X ∧ iv = .int .i64 i ∧ Hid (r0 = glueR vs ((Ch.all (List.replicate (X - i) y.made)).run f st)) ∧ Hid (MInvP R D w 4 a b (some ⟨bl, off, none⟩) 1 cp st i vs wr)) (fun iv _ => X - (intOf iv).toNat)
  case atStart => exact ⟨0, st0, [], Nat.zero_le _, rfl, E0, M0⟩
  case round =>
    obtain ⟨i, st, vs, hi, rfl, hRn, hM⟩ := hrel
    obtain ⟨wo, rfl⟩ : ∃ wo : World, wo = wr := ⟨_, rfl⟩
    obtain ⟨Di, vi, cs, m1, m2, m3, m4, m5, m6, m7, m8, m9, m10⟩ := hM.out.ex
    have LN := hid hM.out.len
    obtain ⟨Av, cv, rfl⟩ := own_slice3 m3
    have M1 := hid m1
    have M2 := hid m2
    have M3 := hid m3
    have M4 := hid m4
    have M5 := hid m5
    have M6 := hid m6
    have M7 := hid m7
    have M8 := hid m8
    have M10 := hid m10
    have IN1 := hid (HC.out.isIn _ _ _ m1)
    clear m1 m2 m3 m4 m5 m6 m7 m8 m10 M0 E0
    by_cases hlt : i < X
    · obtain ⟨a1, b1, c1, d1, q1, q2, q3, q4, hy⟩ := (GesIn.keep (M8.out.same HF.out) [y] hFb HX.out).at_ (i := 0) (by simp)
      have HY := hid hy
      have i1 : (i : Int) < (X : Int) := by omega
      have RR : Hid (r0 = thenR (y.made.run f st) fun s1 x => glueR (vs ++ [x]) ((Ch.all (List.replicate (X - (i + 1)) y.made)).run f s1)) := by
        show _ = _
        rw [hRn.out, rep_cons _ hlt, all_cons_run]
        cases y.made.run f st with
        | error c => rfl
        | ok p => obtain ⟨s1, x⟩ := p; exact glue_glue _ _ _
      have NY : Hid (∀ c, y.made.run f st = .error c → c ≠ 0) := fun c h => NZ.out c (by rw [RR.out, h]; rfl)
      simp only [Nat.zero_mul, Nat.add_zero, List.getElem_cons_zero] at q1 q2 q3 q4 HY
      obtain ⟨⟨k1, n1, p1, s1⟩, hy0⟩ : ∃ z, z = y := ⟨_, rfl⟩
      have RT : Hid (∀ ys, List.replicate (X - (i + 1)) y.made = ys → r0 = thenR (y.made.run f st) fun s1 x => glueR (vs ++ [x]) ((Ch.all ys).run f s1)) := fun ys h => by rw [← h]; exact RR.out
      obtain ⟨ys, hys⟩ : ∃ ys, List.replicate (X - (i + 1)) y.made = ys := ⟨_, rfl⟩
      have RU : Hid (r0 = thenR (y.made.run f st) fun s1 x => glueR (vs ++ [x]) ((Ch.all ys).run f s1)) := RT.out ys hys
      have HYS := hid hys
      clear hys RR RT hRn
      rw [← hy0] at HY PI EY WY RU NY
      obtain ⟨A1, cp1, rfl, rfl, rfl, rfl, _, _, _⟩ := HY.out.box
      have PY := hid (PI.out S B0 fid caps R f st Di)
      generalize (Ge.mk k1 n1 p1 s1).made.run f st = ry at *
      have HY0 := hid hy0
      clear hy hy0
      have z0 := Has.cell M7.out 2
      have fz := Has.froz M7.out 2
      have w0 := Has.cell M5.out 3
      simp at z0 w0
      have FQ : Hid (∀ b, F b → b < wo.drew.heap.size ∧ ¬ Di b) := fun b hb => ⟨by show b < wo.heap.size; have := (HF.out b hb).1; omega, fun hd => by rcases M2.out b hd with h | h; exact (HF.out b hb).2 h; have := (HF.out b hb).1; omega⟩
      have RQ := hid (HC.out.keep _ _ _ wo.drew M1.out (fun b hb => rfl) (fun b hb => rfl) (Nat.le_refl _))
      have HYq := hid (GeIn.keep (w := wo) (w' := wo.drew) (fun _ _ => rfl) _ HY.out)
      have PQ := hid (PY.out F _ _ _ _ wo.drew CF.out HC.out FQ.out HYq.out RQ.out EY.out WY.out NY.out)
      have lF := hid lb
      have l9 := m9
      go_upto_region 16 with fail
      cases ry with
      | error cc =>
        have E1 : Hid (r0 = .error cc) := RU.out
        clear fz PY PI NY RU
        go_region_dies
        all_goals
          go_at_call 37
          refine PQ.out.mono ?_
          rintro e w5 ⟨ho, he⟩
          simp only at he
          subst he
          have FP : MadeP R D (listR r0) w (diesE cc) w5 := by
            rw [E1.out]
            refine ⟨⟨M8.out.1.trans (((Below.refl 0 wo).drew).trans ho.1), fun x hx hd => ?_⟩, rfl⟩
            have lx : x < wo.drew.heap.size := by show x < wo.heap.size; omega
            exact (ho.2 x lx (fun h => by rcases M2.out x h with h | h; exact hd h; omega)).trans (M8.out.2 x hx hd)
          exact ⟨rfl, by rw [GL.out]; exact FP⟩
      | ok py =>
        obtain ⟨st1, ⟨lv, nv, xs⟩⟩ := py
        have RN : Hid (r0 = glueR (vs ++ [.mk lv nv xs]) ((Ch.all ys).run f st1)) := RU.out
        clear PY PI NY RU
        go_region_law (first
          | (refine step_app _ (by rfl) (.tmp 56) (.tmp 63) 45 (by rfl) (w.heap.size + 3) 47 i0 (.agg #[.bool false, .int .i64 0, .slice none 0 0]) 3 40 Tryd.underlying45 hi0 hz0 hz1 hz2 rfl (by decide) (.slice Av i cv) i cs (by rfl) OW5.out _ _ 1 [.bool lv, .int .i64 nv, .slice Av5 xs.length cp5] (by rfl) (cells_three _ _ _ _ w5.heap.size (fun b => b = w5.heap.size) (by simp) (by simp) (by simp) rfl) (by intro u hu; simp at hu; rcases hu with rfl | rfl | rfl <;> rfl) (by unfold maxLen; omega) (by omega) (by simp; omega) ?_; intro v6 w6 hown6 hgrow6 hat6; obtain ⟨A6, c6, rfl⟩ := own_slice3 hown6; have MS := hid (minvP_step HC.out lo0 DL.out M2.out M3.out M4.out M5.out M6.out M7.out M8.out l9 HO.out.1 HO.out.2.1 HO.out.2.2.1 HO.out.2.2.2 M10.out LN.out (Nat.le_refl _) HV.out hown6 hgrow6 hat6); have Z9 := hid (Has.grown ZA.out hgrow6 (fun e => by have := own_ge M3.out _ e.symm; omega)); have z9 := Has.cell Z9.out 2; have f9 := Has.froz Z9.out 2; simp at z9; clear hown6 hgrow6 hat6)
          | (go_simp; go_at_call 37; refine PQ.out.mono ?_; rintro e w5 ⟨ho, he⟩; simp only at he; obtain ⟨D', c5, he, hR', hD', hv, hwf⟩ := he; obtain ⟨Av5, cp5, rfl⟩ := hv.slice; subst he; have HV := hid (hv.va (k := lv) hwf); have s5 : wo.heap.size ≤ w5.heap.size := ho.1.size; have HO : Hid ((∀ x, x < wo.heap.size → ¬ Di x → w5.heap[x]? = wo.heap[x]?) ∧ Below 0 wo w5 ∧ R st1 D' w5 ∧ ∀ x, D' x → Di x ∨ wo.heap.size ≤ x) := ⟨fun x hx hd => ho.2 x hx hd, (Below.refl 0 wo).drew.trans ho.1, hR', fun x hx => hD' x hx⟩; have Z8 := hid ((HO.out.1 (w.heap.size + 1 + 1) (by omega) (fun hd => by rcases M2.out _ hd with h | h; (have := DL.out _ h; omega); omega)).trans M7.out); have OW5 : Hid ((w5.alloc (.cells #[.bool lv, .int .i64 nv, .slice Av5 xs.length cp5] 47)).ownsRow (w.heap.size + 3) 47 3 (.slice Av i cv) i cs) := own_keep M3.out fun x hx => (Below.heap_alloc _ _ _ (by have := own_lt M3.out x hx; omega)).trans (HO.out.1 x (own_lt M3.out x hx) (M4.out x hx)); have ZA := hid (Has.alloc Z8.out (.cells #[.bool lv, .int .i64 nv, .slice Av5 xs.length cp5] 47)); have z8 := Has.cell Z8.out 2; have za := Has.cell ZA.out 2; simp at z8 za; clear ho hR' hD' hv hwf))
        all_goals
          go_wp2_with fail
          go_roundw
          case rel => exact ⟨i + 1, st1, _, by omega, by go_num, by rw [HYS.out]; exact RN, MS⟩
          case measure => simp [intOf]; omega
    · obtain rfl : i = X := by omega
      have RE : Hid (listR r0 = .ok (st, .mk true 0 vs)) := by
        show _ = _
        rw [hRn.out, Nat.sub_self, List.replicate_zero, Ch.all, Ch.run]
        simp [glueR, listR]
      have z0 := Has.cell M7.out 0
      have z1 := Has.cell M7.out 1
      have z2 := Has.cell M7.out 2
      have u0 := Has.cell M6.out 0
      have u1 := Has.cell M6.out 1
      have u2 := Has.cell M6.out 2
      have f0 := Has.froz M6.out 0
      have f1 := Has.froz M6.out 1
      have f2 := Has.froz M6.out 2
      simp at z0 z1 z2 u0 u1 u2
      have X6 := hid (set3 M6.out (.bool true) (.int .i64 0) (.slice Av i cv))
      have FIN := hid (minvP_end HC.out lo0 DL.out M1.out M2.out M8.out m9 M3.out M4.out M10.out LN.out X6.out)
      clear M5 hRn
      go_wp2_with fail
      exact ⟨rfl, _, made_results _ _ _ _ _ _ _ _ rfl ((Has.cell X6.out.1 0).trans rfl) ((Has.cell X6.out.1 1).trans rfl) ((Has.cell X6.out.1 2).trans rfl), by rw [GL.out, RE.out]; exact ⟨FIN.out.1, Di, _, rfl, FIN.out.2.1, FIN.out.2.2.1, FIN.out.2.2.2, by decide⟩⟩
end Go.Proofs.YtopehfmppfibhaaDoor
