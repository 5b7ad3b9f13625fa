/- What mutate.all and All return: each expression in blocks of its own. Conditions: the package's lists; of all: at most 100 parts, and right. -/
import Derived.Test.YtanpmmpdolaiiaaDoorEfd
import Derived.Test.YtanpmmpdolaiiaaDoorKee
namespace Go.Proofs.YtanpmmpdolaiiaaDoor
open Go.RowKit Go.Deep
def AllFPost (x : Ex) (w : World) (e : Ending) (w' : World) : Prop := ∃ v, e = .returned v ∧ EFam (fun _ => True) w.heap.size v x.muts w' ∧ Below w.heap.size w w'
def AllFOk (x : Ex) : Prop := ∀ (F : Nat → Prop) (a b c : Value) (w : World), (∀ g, F g → g < w.heap.size) → ExIn F w x a b c → LaidE w → x.size ≤ 100 → x.err = 0 →
  Calls Tryd.prog 9 #[.agg #[a, b, c]] w (AllFPost x w)
set_option maxRecDepth 100000 in
set_option maxHeartbeats 4000000 in
theorem allF_step (k n : Int) (s : List Ex) (ih : ∀ y ∈ s, AllFOk y) : AllFOk (.mk k n s) := by
  intro F a b c w hF hx hL hsz he
  have HF := hid hF
  have IH := hid ih
  have HX := hid hx
  have HL := hid hL
  have HSZ := hid hsz
  have HE := hid he
  obtain ⟨A, cp, rfl, rfl, rfl, l1, l2, hs⟩ := hx.box
  have WF := hid hx.wf
  have HS := hid hs
  have SZ : Hid (∀ y ∈ s, y.size ≤ 100) := fun y hy => by have := Exs.size_mem hy; rw [Ex.size] at hsz; omega
  have ER := hid (Ex.err_parts he).2
  obtain ⟨i0, hi0, hz0, hz1, hz2⟩ := info_parts infoExpr
  have B0 : Hid (Below w.heap.size w (w.alloc (.cells #[.int .i64 k, .int .i64 n, .slice A s.length cp] 24))) := (Below.refl _ _).alloc (Nat.le_refl _) _
  have X0 := hid (Has.new w (.cells #[.int .i64 k, .int .i64 n, .slice A s.length cp] 24))
  clear hF ih hs hsz he hL
  go_enter Tryd.func9, Tryd.ntmps9
  go_wp2_with fail
  refine (chgF_any (.mk k n s) F _ _ _ _ (fun g hg => by have := HF.out g hg; simp; omega) (ExIn.keep (Same.of_below B0.out HF.out) _ HX.out) (HL.out.below B0.out) HSZ.out HE.out).mono ?_
  rintro e w1 ⟨v1, rfl, hE1, hb1⟩
  have E1 := hid (hE1.base (B' := w.heap.size + 1) (by simp))
  have B1 := hid (B0.out.trans (hb1.mono (by simp)))
  have X1 := hid (Has.below X0.out hb1 (by simp))
  have x2 := Has.cell X1.out 2
  simp at x2
  clear hE1 hb1 X0 B0
  go_wp2_with fail
  clear x2
  go_loopw [3, 14] (fun ov iv wr => ∃ (i : Nat) (v : Value), i ≤ s.length ∧ ov = v ∧ iv = .int .i64 i ∧ Hid (EFam (fun _ => True) (w.heap.size + 1) v (outI k n s i) wr) ∧ Hid (wr.heap[w.heap.size]? = some (.cells #[.int .i64 k, .int .i64 n, .slice A s.length cp] 24 (0, 0))) ∧ Hid (Below w.heap.size w wr)) (fun _ iv _ => s.length - (intOf iv).toNat)
  case atStart => exact ⟨0, _, Nat.zero_le _, rfl, rfl, by rw [outI_zero]; exact E1, X1, B1⟩
  case round =>
    obtain ⟨i, v, hi, rfl, rfl, hE, hX, hB⟩ := hrel
    obtain ⟨wo, rfl⟩ : ∃ wo : World, wo = wr := ⟨_, rfl⟩
    have lB := hB.out.size
    have lX := Has.lt hX.out
    clear E1 B1 X1
    by_cases hlt : i < s.length
    · obtain ⟨bl, off, rfl, hFb, hex⟩ := HS.out (by omega)
      have lb := HF.out bl hFb
      obtain ⟨a1, b1, c1, q1, q2, q3, hy⟩ := (ExsIn.keep (Same.of_below hB.out HF.out) s hFb hex).at_ hlt
      have HY := hid hy
      have PI := hid (IH.out s[i] (List.getElem_mem hlt))
      have i1 : (i : Int) < (s.length : Int) := by omega
      have SY := hid (SZ.out s[i] (List.getElem_mem hlt))
      have EY := hid (ER.out s[i] (List.getElem_mem hlt))
      have OI := hid (outI_succ (k := k) (n := n) hlt)
      have OL : Hid (∀ j, (outJ k n s i s[i].muts j).length ≤ 600) := fun j => outJ_len HSZ.out hlt
      have ML := muts_le s[i]
      obtain ⟨⟨k1, n1, s1⟩, hy0⟩ : ∃ y, y = s[i] := ⟨_, rfl⟩
      rw [← hy0] at HY PI SY EY OI OL ML
      have SYo := SY.out
      obtain ⟨A1, cp1, rfl, rfl, rfl, _, _, _⟩ := HY.out.box
      obtain ⟨ts, hts⟩ : ∃ ts, ts = (Ex.mk k1 n1 s1).muts := ⟨_, rfl⟩
      rw [← hts] at OI OL ML
      have HTS := hid hts
      have tl : ts.length ≤ 600 := by omega
      clear hex hy hy0 hts
      go_wp2_with fail
      refine (PI.out F _ _ _ _ (fun g hg => by have := HF.out g hg; simp; omega) (ExIn.keep (fun b hb => Below.heap_alloc _ _ _ (by have := HF.out b hb; omega)) _ HY.out) ((HL.out.below hB.out).below ((Below.refl _ _).alloc (Nat.le_refl _) _)) SY.out EY.out).mono ?_
      rintro e w2 ⟨tv, rfl, hE2, hb2⟩
      rw [← HTS.out] at hE2
      have s2 := hb2.size
      simp only [World.size_alloc] at hE2 hb2 s2
      have BO : Hid (Below wo.heap.size wo w2) := ((Below.refl _ _).alloc (Nat.le_refl _) _).trans (hb2.mono (by simp))
      have B2 := hid (hB.out.trans (BO.out.mono lB))
      have X2 := hid (Has.below hX.out BO.out lX)
      have OFF : Hid (Off u3 (wo.heap.size + 1) w2.heap.size) := fun g hg => by have := (hE.out.ownlt g hg).2; omega
      obtain ⟨tcs, t1, DT, t2, t3, t4⟩ := hE2
      have E3 : Hid (EFam (fun b => b < wo.heap.size ∨ (∃ j', j' < 0 ∧ DT j' b) ∨ w2.heap.size ≤ b) (w.heap.size + 1) u3 (outI k n s i) w2) := (hE.out.bound fun b _ _ h => .inl h).below BO.out
      obtain ⟨At, ct, rfl, tc1, tc2⟩ := own_slice t1
      unfold maxLen at tc2
      have TO := hid t1
      have TC := hid t2
      have TD : Hid (∀ i, i < ts.length → ∀ b, DT i b → wo.heap.size + 1 ≤ b ∧ b < w2.heap.size) := fun i hi b h => ⟨(t3 i hi b h).2.1, (t3 i hi b h).2.2.1⟩
      have TA := hid t4
      clear hb2 t1 t2 t3 t4 q1 q2 q3
      go_wp2_with fail
      go_loopw [3, 22] (fun ov jv wr => ∃ (j : Nat) (v : Value), j ≤ ts.length ∧ ov = v ∧ jv = .int .i64 j ∧ Hid (EFam (fun b => b < wo.heap.size ∨ (∃ j', j' < j ∧ DT j' b) ∨ w2.heap.size ≤ b) (w.heap.size + 1) v (outJ k n s i ts j) wr) ∧ Hid (Off v (wo.heap.size + 1) w2.heap.size) ∧ Hid (Same (fun b => wo.heap.size + 1 ≤ b ∧ b < w2.heap.size) w2 wr) ∧ w2.heap.size ≤ wr.heap.size ∧ Hid (wr.heap[w.heap.size]? = some (.cells #[.int .i64 k, .int .i64 n, .slice (some ⟨bl, off, none⟩) s.length cp] 24 (0, 0))) ∧ Hid (Below w.heap.size w wr)) (fun _ jv _ => ts.length - (intOf jv).toNat)
      case atStart => exact ⟨0, _, Nat.zero_le _, rfl, rfl, by rw [outJ_zero]; exact E3, OFF, Same.refl _ _, Nat.le_refl _, X2, B2⟩
      case round =>
        obtain ⟨j, v, hj, rfl, rfl, hEi, hOi, hSi, lwi, hXi, hBi⟩ := hrel
        obtain ⟨wi, rfl⟩ : ∃ wi : World, wi = wr := ⟨_, rfl⟩
        have lBi := hBi.out.size
        have lXi := Has.lt hXi.out
        clear E3 OFF X2 B2
        by_cases hjl : j < ts.length
        · obtain ⟨gt, capt, ea, hg1, hg2, _, _, hcl⟩ := own_open TO.out (by omega)
          injection ea with ea _ ec
          subst ea ec
          obtain ⟨a2, b2, c2, m1, m2, m3, hy1⟩ := TC.out.2 j hjl
          have r1 : wi.cell? ⟨gt, j * 3, none⟩ = some a2 := (hSi.out.cell (p := ⟨gt, j * 3, none⟩) ⟨hg1, hg2⟩).trans ((hcl _ (by omega)).trans m1)
          have r2 : wi.cell? ⟨gt, j * 3 + 1, none⟩ = some b2 := (hSi.out.cell (p := ⟨gt, j * 3 + 1, none⟩) ⟨hg1, hg2⟩).trans ((hcl _ (by omega)).trans m2)
          have r3 : wi.cell? ⟨gt, j * 3 + 2, none⟩ = some c2 := (hSi.out.cell (p := ⟨gt, j * 3 + 2, none⟩) ⟨hg1, hg2⟩).trans ((hcl _ (by omega)).trans m3)
          have HT := hid (ExIn.keep (fun b hb => hSi.out b (TD.out j hjl b hb)) _ hy1.1)
          have TDj := hid (TD.out j hjl)
          have TAj : Hid (∀ j' b, j' < j → DT j' b → ¬ DT j b) := fun j' b h1 h2 h3 => by have := TA.out j' j b (by omega) hjl h2 h3; omega
          clear m1 m2 m3 hcl
          have j1 : (j : Int) < (ts.length : Int) := by omega
          have OS := hid (outJ_succ (k := k) (n := n) (s := s) (i := i) hjl)
          have OLj := OL.out j
          obtain ⟨⟨k2, n2, s2'⟩, hy0⟩ : ∃ y, y = ts[j] := ⟨_, rfl⟩
          rw [← hy0] at HT OS
          obtain ⟨A2, cp2, rfl, rfl, rfl, _, _, _⟩ := HT.out.box
          have x0 := Has.cell hXi.out 0
          have x1 := Has.cell hXi.out 1
          have x2 := Has.cell hXi.out 2
          simp at x0 x1 x2
          have BT : Hid (Below wi.heap.size wi (wi.alloc (.cells #[.int .i64 k2, .int .i64 n2, .slice A2 s2'.length cp2] 24))) := (Below.refl _ _).alloc (Nat.le_refl _) _
          clear hy1 hy0
          go_wp2_with fail
          refine (copied_any (.mk k n s) F _ _ _ _ (fun g hg => by have := HF.out g hg; simp; omega) (ExIn.keep ((Same.of_below hBi.out HF.out).trans (fun b hb => Below.heap_alloc _ _ _ (by have := HF.out b hb; omega))) _ HX.out) HSZ.out).mono ?_
          rintro e w3 ⟨v3, he, hE3, hb3⟩
          simp only [Ex.k, Ex.n, Ex.s] at he hE3
          subst he
          have s3 := hb3.size
          simp only [World.size_alloc] at hE3 hb3 s3
          obtain ⟨cs3, u1, u2⟩ := hE3.row
          obtain ⟨g3, cap3, e3, ug1, ug2, ucap, _, ucell⟩ := own_open u1 (by omega)
          subst e3
          have E3 := hid hE3
          have lcs := u2.1
          have BT3 : Hid (Below wi.heap.size wi w3) := BT.out.trans (hb3.mono (by simp))
          have y0 : w3.cell? ⟨wi.heap.size, 0, none⟩ = some (.int .i64 k2) := (hb3.cell (p := ⟨wi.heap.size, 0, none⟩) (by simp)).trans (by simp)
          have y1 : w3.cell? ⟨wi.heap.size, 1, none⟩ = some (.int .i64 n2) := (hb3.cell (p := ⟨wi.heap.size, 1, none⟩) (by simp)).trans (by simp)
          have y2 : w3.cell? ⟨wi.heap.size, 2, none⟩ = some (.slice A2 s2'.length cp2) := (hb3.cell (p := ⟨wi.heap.size, 2, none⟩) (by simp)).trans (by simp)
          have ly : wi.heap.size < w3.heap.size := by omega
          obtain ⟨ta, tb, tc, tz0, tz1, tz2, _⟩ := u2.2 i hlt
          have z0 : w3.cell? ⟨g3, i * 3, none⟩ = some ta := (ucell _ (by omega)).trans tz0
          have z1 : w3.cell? ⟨g3, i * 3 + 1, none⟩ = some tb := (ucell _ (by omega)).trans tz1
          have z2 : w3.cell? ⟨g3, i * 3 + 2, none⟩ = some tc := (ucell _ (by omega)).trans tz2
          have f0 := u1.frozenAt (i * 3)
          have f1 := u1.frozenAt (i * 3 + 1)
          have f2 := u1.frozenAt (i * 3 + 2)
          have i3 : (i : Int) < (s.length : Int) := by omega
          have HTF : Hid (ExIn (DT j) w3 (.mk k2 n2 s2') (.int .i64 k2) (.int .i64 n2) (.slice A2 s2'.length cp2)) := ExIn.keep (fun b hb => BT3.out.block b (by have := (TDj.out b hb).2; omega)) _ HT.out
          have ES := hid (elt_set (i := i) (o0 := i * 3) (o1 := i * 3 + 1) (o2 := i * 3 + 2) (G := fun x => DT j x ∨ (wi.heap.size + 1 ≤ x ∧ x < w3.heap.size)) rfl rfl rfl (fun x h1 h2 => .inr ⟨h1, h2⟩) hE3 hlt (ExIn.more (fun x hx => ⟨.inl hx, by have := (TDj.out x hx).2; omega⟩) _ HTF.out) WF.out.1 WF.out.2)
          have B4 : Hid (Below wi.heap.size wi (((w3.setCell ⟨g3, i * 3, none⟩ (.int .i64 k2)).setCell ⟨g3, i * 3 + 1, none⟩ (.int .i64 n2)).setCell ⟨g3, i * 3 + 2, none⟩ (.slice A2 s2'.length cp2))) := ((BT3.out.setCell (by simp; omega) _).setCell (by simp; omega) _).setCell (by simp; omega) _
          have z4 : (((w3.setCell ⟨g3, i * 3, none⟩ (.int .i64 k2)).setCell ⟨g3, i * 3 + 1, none⟩ (.int .i64 n2)).setCell ⟨g3, i * 3 + 2, none⟩ (.slice A2 s2'.length cp2)).heap.size = w3.heap.size := by simp
          have Z4 := hid z4
          clear z4
          clear hb3 hE3 u1 u2 ucell r1 r2 r3 x0 x1 x2
          go_upto_region 10 with fail
          generalize ((w3.setCell ⟨g3, i * 3, none⟩ (.int .i64 k2)).setCell ⟨g3, i * 3 + 1, none⟩ (.int .i64 n2)).setCell ⟨g3, i * 3 + 2, none⟩ (.slice A2 s2'.length cp2) = w4 at *
          rw [← Z4.out]
          have lw4 : wi.heap.size + 1 ≤ w4.heap.size := by have := Z4.out; omega
          have ez1 : w4.heap.size ≤ w3.heap.size := by have := Z4.out; omega
          have ez2 : w3.heap.size ≤ w4.heap.size := by have := Z4.out; omega
          clear Z4 y0 y1 y2 z0 z1 z2 f0 f1 f2
          have X4 := hid (Has.below hXi.out B4.out lXi)
          have SM4 := hid (hSi.out.trans (fun b hb => B4.out.block b (by have := hb.2; omega)))
          have B5 := hid (hBi.out.trans (B4.out.mono lBi))
          obtain ⟨cs, ob⟩ := (hEi.out.bound (P' := fun b => (b < wo.heap.size ∨ (∃ j', j' < j ∧ DT j' b) ∨ w2.heap.size ≤ b) ∧ b < wi.heap.size) fun b hp _ h => ⟨hp, h⟩).below B4.out
          have OWi : Hid (∀ g, u3.ownBlock = some g → g < wi.heap.size) := fun g hg => (hEi.out.ownlt g hg).2
          have OW := hid ob.1
          have OC := hid ob
          have BA : Hid (Below w4.heap.size w4 ((w4.alloc (.cells #[.int .i64 k, .int .i64 n, .slice (some ⟨g3, 0, none⟩) s.length cap3] 24)).alloc (.cells #[.int .i64 k, .int .i64 n, .slice (some ⟨g3, 0, none⟩) s.length cap3] 24))) := ((Below.refl _ _).alloc (Nat.le_refl _) _).alloc (by simp) _
          have NX : Hid (Elt (fun x => DT j x ∨ (wi.heap.size + 1 ≤ x ∧ x < w3.heap.size)) ((w4.alloc (.cells #[.int .i64 k, .int .i64 n, .slice (some ⟨g3, 0, none⟩) s.length cap3] 24)).alloc (.cells #[.int .i64 k, .int .i64 n, .slice (some ⟨g3, 0, none⟩) s.length cap3] 24)) (.mk k n (s.set i (.mk k2 n2 s2'))) (.int .i64 k) (.int .i64 n) (.slice (some ⟨g3, 0, none⟩) s.length cap3)) :=
            ES.out.keep (fun b h => BA.out.block b (by rcases h with h | h; (have := TDj.out b h; omega); omega))
          have NP : Hid (∀ b, (DT j b ∨ (wi.heap.size + 1 ≤ b ∧ b < w3.heap.size)) → (b < wo.heap.size ∨ (∃ j', j' < j + 1 ∧ DT j' b) ∨ w2.heap.size ≤ b) ∧ w.heap.size + 1 ≤ b ∧ b < w4.heap.size ∧ u3.ownBlock ≠ some b) := fun b h => by
            rcases h with h | h
            · have h1 := TDj.out b h
              exact ⟨.inr (.inl ⟨j, by omega, h⟩), by omega, by omega, fun e => by have := hOi.out b e; omega⟩
            · exact ⟨.inr (.inr (by omega)), by omega, by omega, fun e => by have := OWi.out b e; omega⟩
          have NQ : Hid (∀ b, ((b < wo.heap.size ∨ (∃ j', j' < j ∧ DT j' b) ∨ w2.heap.size ≤ b) ∧ b < wi.heap.size) → ¬ (DT j b ∨ (wi.heap.size + 1 ≤ b ∧ b < w3.heap.size))) := fun b hp h => by
            rcases h with h | h
            · have h1 := TDj.out b h
              rcases hp.1 with h2 | ⟨j', h2, h3⟩ | h2
              · omega
              · exact TAj.out j' b h2 h3 h
              · omega
            · have := hp.2; omega
          have NR : Hid (∀ b, ((b < wo.heap.size ∨ (∃ j', j' < j ∧ DT j' b) ∨ w2.heap.size ≤ b) ∧ b < wi.heap.size) → (b < wo.heap.size ∨ (∃ j', j' < j + 1 ∧ DT j' b) ∨ w2.heap.size ≤ b)) := fun b hp => by
            rcases hp.1 with h2 | ⟨j', h2, h3⟩ | h2
            · exact .inl h2
            · exact .inr (.inl ⟨j', by omega, h3⟩)
            · exact .inr (.inr h2)
          clear ob
          go_wp2_with (at_builtin; refine wpList_app _ rfl _ _ 22 rfl (w.heap.size + 1) 24 i0 (.agg #[.int .i64 0, .int .i64 0, .slice none 0 0]) 3 40 Tryd.underlying22 hi0 hz0 hz1 hz2 rfl (by decide) u3 _ cs rfl (own_below OW.out BA.out) _ _ 1 [.int .i64 k, .int .i64 n, .slice (some ⟨g3, 0, none⟩) s.length cap3] rfl (cells_three _ _ _ _ (w4.heap.size + 1) (fun b => b = w4.heap.size + 1) (by simp) (by simp) (by simp) rfl) (by intro u hu; simp at hu; rcases hu with rfl | rfl | rfl <;> rfl) (by unfold maxLen; omega) (by omega) (by simp; omega) ?_; intro v5 w5 hown5 hgrow5 hat5; have s5 := hgrow5.size; have EB := hid (efam_snoc (P' := fun b => b < wo.heap.size ∨ (∃ j', j' < j + 1 ∧ DT j' b) ∨ w2.heap.size ≤ b) (x := .mk k n (s.set i (.mk k2 n2 s2'))) (by simp; omega) (OC.out.below BA.out) NX.out (fun b h => ⟨(NP.out b h).1, (NP.out b h).2.1, by have := (NP.out b h).2.2.1; simp; omega, (NP.out b h).2.2.2⟩) NQ.out NR.out hown5 hgrow5 hat5); have X5 := hid (Has.grown (Has.below X4.out BA.out (by omega)) hgrow5 (fun e => by have := own_ge OW.out _ e.symm; omega)); have SM5 : Hid (Same (fun b => wo.heap.size + 1 ≤ b ∧ b < w2.heap.size) w2 w5) := SM4.out.trans (fun b hb => (hgrow5.block b (by have := hb.2; simp; omega) (fun e => by have := hOi.out b e.symm; have := hb.1; have := hb.2; omega)).trans (BA.out.block b (by have := hb.2; omega))); have OF5 : Hid (Off v5 (wo.heap.size + 1) w2.heap.size) := (fun g hg => by rcases hat5 with h | h; (exact hOi.out g (by rw [← h]; exact hg)); (rw [h] at hg; injection hg with hg; simp at hg; omega)); clear hown5 hgrow5 hat5)
          go_roundw
          case rel => exact ⟨j + 1, v5, by omega, rfl, by go_num, by rw [OS.out]; exact EB.out.1, OF5, SM5, by simp at s5; omega, X5, (B5.out.trans (BA.out.mono (by omega))).trans (EB.out.2.mono (by omega))⟩
          case measure => simp [intOf]; omega
        · obtain rfl : j = ts.length := by omega
          go_wp2_with fail
          go_roundw
          case rel => exact ⟨i + 1, _, by omega, rfl, by go_num, by rw [OI.out]; exact hEi.out.bound fun _ _ _ _ => trivial, hXi, hBi⟩
          case measure => simp [intOf]; omega
    · obtain rfl : i = s.length := by omega
      go_wp2_with fail
      go_ret
      exact ⟨_, rfl, by rw [← outI_all]; exact hE.out.base (by omega), hB.out⟩
theorem allF_any : ∀ x, AllFOk x := Ex.ind allF_step
def AllFRPost (x : Ex) (w : World) (e : Ending) (w' : World) : Prop := ∃ v, e = .returned (.tuple #[v, errV (chkE x)]) ∧ EFam (fun _ => True) w.heap.size v (mutsR x) w' ∧ Below w.heap.size w w'
set_option maxRecDepth 100000 in
set_option maxHeartbeats 1000000 in
theorem allFR_any (x : Ex) (F : Nat → Prop) (a b c : Value) (w : World) (hF : ∀ g, F g → g < w.heap.size) (hx : ExIn F w x a b c) (hL : LaidE w) :
    Calls Tryd.prog 4 #[.agg #[a, b, c]] w (AllFRPost x w) := by
  have HX := hid hx
  have HF := hid hF
  have HL := hid hL
  obtain ⟨k, n, s⟩ := x
  obtain ⟨A, cp, rfl, rfl, rfl, l1, l2, _⟩ := hx.box
  have B0 : Hid (Below w.heap.size w (w.alloc (.cells #[.int .i64 k, .int .i64 n, .slice A s.length cp] 24))) := (Below.refl _ _).alloc (Nat.le_refl _) _
  have X0 := hid (Has.new w (.cells #[.int .i64 k, .int .i64 n, .slice A s.length cp] 24))
  clear hF hL
  go_enter Tryd.func4, Tryd.ntmps4
  go_wp2_with fail
  refine (echeck_any (.mk k n s) F _ _ _ _ (fun g hg => by have := HF.out g hg; simp; omega) (ExIn.keep (Same.of_below B0.out HF.out) _ HX.out) (HL.out.below B0.out)).mono ?_
  rintro e w1 ⟨rfl, hb1⟩
  have B1 := hid (B0.out.trans (hb1.mono (by simp)))
  have X1 := Has.below X0.out hb1 (by simp)
  have x0 := Has.cell X1 0
  have x1 := Has.cell X1 1
  have x2 := Has.cell X1 2
  simp at x0 x1 x2
  have s1 := B1.out.size
  clear hb1 X1
  by_cases hc : chkE (.mk k n s) = 0
  · have MR : Hid (mutsR (.mk k n s) = (Ex.mk k n s).muts) := by show _ = _; unfold mutsR; rw [if_pos hc]
    have E0 : Hid (errV (chkE (.mk k n s)) = .nilIface) := by show _ = _; rw [hc]; rfl
    have SZ := hid (size_le hc)
    have EZ := hid (err_zero hc)
    rw [E0.out]
    clear hc
    go_wp2_with fail
    refine (allF_any (.mk k n s) F _ _ _ _ (fun g hg => by have := HF.out g hg; omega) (ExIn.keep (Same.of_below B1.out HF.out) _ HX.out) (HL.out.below B1.out) (by have := SZ.out; omega) EZ.out).mono ?_
    rintro e w2 ⟨v, rfl, hE, hb2⟩
    have B2 := hid (B1.out.trans (hb2.mono s1))
    have E2 := hid (hE.base s1)
    clear hb2 hE
    go_wp2_with fail
    go_ret2
    exact ⟨_, by rw [E0.out]; rfl, by rw [MR.out]; exact E2.out, B2.out⟩
  · have MR : Hid (mutsR (.mk k n s) = []) := by show _ = _; unfold mutsR; rw [if_neg hc]
    rw [errV_no hc]
    have HC := hid hc
    clear hc
    go_wp2_with fail
    go_ret2
    exact ⟨_, by rw [errV_no HC.out]; rfl, by rw [MR.out]; exact EFam.nil_ _ _ _, B1.out⟩
end Go.Proofs.YtanpmmpdolaiiaaDoor
