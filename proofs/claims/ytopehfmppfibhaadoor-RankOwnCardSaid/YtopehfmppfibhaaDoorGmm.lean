/- What gen's made does with Many. Conditions: as for made. -/
import Derived.Test.YtopehfmppfibhaaDoorGmd
namespace Go.Proofs.YtopehfmppfibhaaDoor
open Go.RowKit Go.Deep
theorem rep_cons {α : Type} {X j : Nat} (c : α) (h : j < X) : List.replicate (X - j) c = c :: List.replicate (X - (j + 1)) c := by
  rw [show X - j = (X - (j + 1)) + 1 by omega, List.replicate_succ]
set_option maxRecDepth 100000 in
set_option maxHeartbeats 4000000 in
theorem made_many (a b : Int) (y : Ge) (ihy : MadeOk y) {S : Type} {B0 : Nat} (fid : FuncId) (caps : Array Value) (R : S → (Nat → Prop) → World → Prop) (f : S → Int → Except Int (S × Int)) (s s' : S) (va : Va) (D F : Nat → Prop) (u v x c : Value) (w : World)
    (hcf : ∀ (args : Array Value) (w : World), Sem.run Tryd.prog (callFunc fid args) w = .ok (.enter fid args) w) (hC : Chooses B0 fid caps R f) (hF : ∀ b, F b → b < w.heap.size ∧ ¬ D b) (hx : GeIn F w (.mk 4 a b [y]) u v x c) (hR : R s D w) (he : (Ge.mk 4 a b [y]).err = 0) (hw : (Ge.mk 4 a b [y]).wide) (hr : (Ge.mk 4 a b [y]).made.run f s = .ok (s', va)) :
    Calls Tryd.prog 37 #[.func (Fn.func fid) #[] caps, .agg #[u, v, x, c]] w (MadePost R D s' w) := by
  have HC := hid hC
  have HR := hid hR
  have lo0 := (hC.lo _ _ _ hR).1
  have HF := hid hF
  have PI := hid ihy
  have CF := hid hcf
  obtain ⟨A, cp, rfl, rfl, rfl, rfl, l1, l2, hs⟩ := hx.box
  obtain ⟨bl, off, rfl, hFb, hex⟩ := hs (by simp)
  have HX := hid hex
  have lb := HF.out bl hFb
  have EY := hid ((Ge.err_parts he).2 y (by simp))
  have aa : 0 ≤ a ∧ a ≤ 5 := by
    have h1 := (Ge.err_parts he).1
    unfold oneE at h1
    rw [if_neg (by omega), if_pos rfl] at h1
    split at h1
    · omega
    · omega
  obtain ⟨a0, a5⟩ := aa
  rw [Ge.wide] at hw
  have WY := hid (Ges.wide_mem hw.2 y (by simp))
  obtain ⟨i0, hi0, hz0, hz1, hz2⟩ := info_parts infoVal
  have RUN : Hid (∃ st0 x0, f s a = .ok (st0, x0) ∧ ∃ l0, (Ch.all (List.replicate x0.toNat y.made)).run f st0 = .ok (s', l0)) := by
    rw [Ge.made] at hr
    simp only [madeM, show ¬ ((4 : Int) = 1) by decide, show ¬ ((4 : Int) = 2) by decide, show ¬ ((4 : Int) = 3) by decide, if_false, if_true] at hr
    obtain ⟨st0, x0, h1, h2⟩ := ask_ok hr
    refine ⟨st0, x0, h1, ?_⟩
    have h3 := bind_done_ok h2
    rw [show (Ges.mades [y]).getD 0 (.done default) = y.made by simp [Ges.mades]] at h3
    exact h3
  have W3 := hid (below3 w (.cells #[.int .i64 4, .int .i64 a, .int .i64 b, .slice (some ⟨bl, off, none⟩) 1 cp] 24) (.cells #[.bool false, .int .i64 0, .slice none 0 0] 47) (.cells #[.bool true, .int .i64 0, .slice none 0 0] 47))
  have X3 := hid (boxes3 w (.cells #[.int .i64 4, .int .i64 a, .int .i64 b, .slice (some ⟨bl, off, none⟩) 1 cp] 24) (.cells #[.bool false, .int .i64 0, .slice none 0 0] 47) (.cells #[.bool true, .int .i64 0, .slice none 0 0] 47))
  have DL := hid (HC.out.isIn _ _ _ HR.out)
  have RK := hid (HC.out.keep _ _ _ (((w.alloc (.cells #[.int .i64 4, .int .i64 a, .int .i64 b, .slice (some ⟨bl, off, none⟩) 1 cp] 24)).alloc (.cells #[.bool false, .int .i64 0, .slice none 0 0] 47)).alloc (.cells #[.bool true, .int .i64 0, .slice none 0 0] 47)) HR.out (fun b hb => W3.out.block b (DL.out b hb)) (fun b hb => W3.out.block b (by omega)) W3.out.size)
  clear hC hR hF ihy hs he hr hw hx hex
  go_enter Tryd.func37, Tryd.ntmps37
  go_wp2_with fail
  refine (HC.out.ask s a D _ RK.out a0 (by omega) (by obtain ⟨st0, x0, h, _⟩ := RUN.out; exact ⟨st0, x0, h⟩)).mono ?_
  intro e w4 hp
  obtain ⟨st0, x0, hf0, hRn0⟩ := RUN.out
  obtain ⟨rfl, ho, D0, hR0, hD0⟩ := hp _ _ hf0
  have hxb := HC.out.ans _ _ _ _ hf0 a0
  obtain ⟨X, rfl⟩ : ∃ X : Nat, x0 = X := ⟨x0.toNat, by omega⟩
  have X5 : X ≤ 5 := by omega
  have RN0 := hid hRn0
  have s4 := ho.1.size
  simp only [World.size_alloc] at s4
  have OB : Hid (∀ x, w.heap.size ≤ x → x < w.heap.size + 3 → w4.heap[x]? = (((w.alloc (.cells #[.int .i64 4, .int .i64 a, .int .i64 b, .slice (some ⟨bl, off, none⟩) 1 cp] 24)).alloc (.cells #[.bool false, .int .i64 0, .slice none 0 0] 47)).alloc (.cells #[.bool true, .int .i64 0, .slice none 0 0] 47)).heap[x]?) := fun x h1 h2 => ho.2 x (by simp; omega) (fun hd => by have := DL.out x hd; omega)
  have M0 : Hid (MInv R D w 4 a b (some ⟨bl, off, none⟩) 1 cp st0 0 w4) :=
    ⟨D0, .slice none 0 0, [], hR0, fun x h => by rcases hD0 x h with h | h; exact .inl h; simp at h; exact .inr (by omega), World.ownsRow_nil _ _ _ _, (fun x h => by cases h), (OB.out _ (Nat.le_refl _) (by omega)).trans X3.out.1, (OB.out _ (by omega) (by omega)).trans X3.out.2.1, (OB.out _ (by omega) (by omega)).trans X3.out.2.2, (OutsD.below W3.out (Nat.le_refl _)).trans ho fun b h => .inl h, by omega⟩
  clear hp ho hR0 hD0 hf0 hRn0 hxb RUN RK X3
  go_wp2_with fail
  go_loopw [53] (fun iv wr => ∃ (i : Nat) (st : S), i ≤ X ∧ iv = .int .i64 i ∧ Hid (∃ l0, (Ch.all (List.replicate (X - i) y.made)).run f st = .ok (s', l0)) ∧ Hid (MInv R D w 4 a b (some ⟨bl, off, none⟩) 1 cp st i wr)) (fun iv _ => X - (intOf iv).toNat)
  case atStart => exact ⟨0, st0, Nat.zero_le _, rfl, by simpa using RN0, M0⟩
  case round =>
    obtain ⟨i, st, hi, rfl, hRn, hM⟩ := hrel
    obtain ⟨wo, rfl⟩ : ∃ wo : World, wo = wr := ⟨_, rfl⟩
    obtain ⟨Di, vi, cs, m1, m2, m3, m4, m5, m6, m7, m8, m9⟩ := hM.out.ex
    obtain ⟨Av, cv, rfl⟩ := own_slice3 m3
    have M1 := hid m1
    have M2 := hid m2
    have M3 := hid m3
    have M4 := hid m4
    have M5 := hid m5
    have M6 := hid m6
    have M7 := hid m7
    have M8 := hid m8
    have IN1 := hid (HC.out.isIn _ _ _ m1)
    clear m1 m2 m3 m4 m5 m6 m7 m8 M0
    by_cases hlt : i < X
    · obtain ⟨a1, b1, c1, d1, q1, q2, q3, q4, hy⟩ := (GesIn.keep (M8.out.same HF.out) [y] hFb HX.out).at_ (i := 0) (by simp)
      have HY := hid hy
      have i1 : (i : Int) < (X : Int) := by omega
      have RR : Hid (∃ st1 x1 l1, y.made.run f st = .ok (st1, x1) ∧ (Ch.all (List.replicate (X - (i + 1)) y.made)).run f st1 = .ok (s', l1)) := by
        obtain ⟨l0, h⟩ := hRn.out
        rw [rep_cons _ hlt] at h
        exact all_cons_ok h
      simp only [Nat.zero_mul, Nat.add_zero, List.getElem_cons_zero] at q1 q2 q3 q4 HY
      obtain ⟨⟨k1, n1, p1, s1⟩, hy0⟩ : ∃ z, z = y := ⟨_, rfl⟩
      rw [← hy0] at HY PI EY WY RR
      rw [← hy0] at hRn
      obtain ⟨A1, cp1, rfl, rfl, rfl, rfl, _, _, _⟩ := HY.out.box
      have HY0 := hid hy0
      clear hy hy0
      have z0 := Has.cell M7.out 2
      have fz := Has.froz M7.out 2
      have w0 := Has.cell M5.out 3
      simp at z0 w0
      have FQ : Hid (∀ b, F b → b < wo.drew.heap.size ∧ ¬ Di b) := fun b hb => ⟨by show b < wo.heap.size; have := (HF.out b hb).1; omega, fun hd => by rcases M2.out b hd with h | h; exact (HF.out b hb).2 h; have := (HF.out b hb).1; omega⟩
      have RQ := hid (HC.out.keep _ _ _ wo.drew M1.out (fun b hb => rfl) (fun b hb => rfl) (Nat.le_refl _))
      have HYq := hid (GeIn.keep (w := wo) (w' := wo.drew) (fun _ _ => rfl) _ HY.out)
      have lF := hid lb
      have l9 := m9
      go_upto_region 16 with fail
      go_region_law (first
        | (refine step_app _ (by rfl) (.tmp 56) (.tmp 63) 45 (by rfl) (w.heap.size + 3) 47 i0 (.agg #[.bool false, .int .i64 0, .slice none 0 0]) 3 40 Tryd.underlying45 hi0 hz0 hz1 hz2 rfl (by decide) (.slice Av i cv) i cs (by rfl) OW5.out _ _ 1 [.bool lv, .int .i64 nv, .slice Av5 len5 cp5] (by rfl) (cells_three _ _ _ _ w5.heap.size (fun b => b = w5.heap.size) (by simp) (by simp) (by simp) rfl) (by intro u hu; simp at hu; rcases hu with rfl | rfl | rfl <;> rfl) (by unfold maxLen; omega) (by omega) (by simp; omega) ?_; intro v6 w6 hown6 hgrow6 hat6; obtain ⟨A6, c6, rfl⟩ := own_slice3 hown6; have MS := hid (minv_step HC.out lo0 DL.out M2.out M3.out M4.out M5.out M6.out M7.out M8.out l9 HO.out.1 HO.out.2.1 HO.out.2.2.1 HO.out.2.2.2 hown6 hgrow6 hat6); have Z9 := hid (Has.grown ZA.out hgrow6 (fun e => by have := own_ge M3.out _ e.symm; omega)); have z9 := Has.cell Z9.out 2; have f9 := Has.froz Z9.out 2; simp at z9; clear hown6 hgrow6 hat6)
        | (go_simp; go_at_call 37; obtain ⟨st1, x1, l1', hr1, hr2⟩ := RR.out; have RN := hid hr2; refine (PI.out S B0 fid caps R f st st1 x1 Di F _ _ _ _ wo.drew CF.out HC.out FQ.out HYq.out RQ.out EY.out WY.out hr1).mono ?_; rintro e w5 ⟨lv, nv, Av5, len5, cp5, rfl, ho, D', hR', hD'⟩; have s5 : wo.heap.size ≤ w5.heap.size := ho.1.size; have HO : Hid ((∀ x, x < wo.heap.size → ¬ Di x → w5.heap[x]? = wo.heap[x]?) ∧ Below 0 wo w5 ∧ R st1 D' w5 ∧ ∀ x, D' x → Di x ∨ wo.heap.size ≤ x) := ⟨fun x hx hd => ho.2 x hx hd, (Below.refl 0 wo).drew.trans ho.1, hR', fun x hx => hD' x hx⟩; have Z8 := hid ((HO.out.1 (w.heap.size + 1 + 1) (by omega) (fun hd => by rcases M2.out _ hd with h | h; (have := DL.out _ h; omega); omega)).trans M7.out); have OW5 : Hid ((w5.alloc (.cells #[.bool lv, .int .i64 nv, .slice Av5 len5 cp5] 47)).ownsRow (w.heap.size + 3) 47 3 (.slice Av i cv) i cs) := own_keep M3.out fun x hx => (Below.heap_alloc _ _ _ (by have := own_lt M3.out x hx; omega)).trans (HO.out.1 x (own_lt M3.out x hx) (M4.out x hx)); have ZA := hid (Has.alloc Z8.out (.cells #[.bool lv, .int .i64 nv, .slice Av5 len5 cp5] 47)); have z8 := Has.cell Z8.out 2; have za := Has.cell ZA.out 2; simp at z8 za; clear ho hR' hD' hr1 hr2))
      all_goals
        go_wp2_with fail
        go_roundw
        case rel => exact ⟨i + 1, st1, by omega, by go_num, ⟨_, by rw [← HY0.out]; exact RN.out⟩, MS⟩
        case measure => simp [intOf]; omega
    · obtain rfl : i = X := by omega
      have es : st = s' := by
        obtain ⟨l0, h⟩ := hRn.out
        rw [Nat.sub_self] at h
        exact all_nil_ok h
      subst es
      have z0 := Has.cell M7.out 0
      have z1 := Has.cell M7.out 1
      have z2 := Has.cell M7.out 2
      have u0 := Has.cell M6.out 0
      have u1 := Has.cell M6.out 1
      have u2 := Has.cell M6.out 2
      have f0 := Has.froz M6.out 0
      have f1 := Has.froz M6.out 1
      have f2 := Has.froz M6.out 2
      simp at z0 z1 z2 u0 u1 u2
      have X6 := hid (set3 M6.out (.bool true) (.int .i64 0) (.slice Av i cv))
      have FIN := hid (minv_end HC.out lo0 DL.out M1.out M2.out M8.out m9 X6.out)
      clear M5
      go_wp2_with fail
      exact ⟨rfl, _, made_results _ _ _ _ _ _ _ _ rfl ((Has.cell X6.out.1 0).trans rfl) ((Has.cell X6.out.1 1).trans rfl) ((Has.cell X6.out.1 2).trans rfl), _, _, _, _, _, rfl, FIN.out.1, Di, FIN.out.2.1, FIN.out.2.2⟩
end Go.Proofs.YtopehfmppfibhaaDoor
