/- What mutate.changed returns of a right expression of at most 100 parts: each in blocks of its own. Conditions: those, and the package's lists. -/
import Derived.Test.YtanpmmpdolaiiaaDoorEfm
namespace Go.Proofs.YtanpmmpdolaiiaaDoor
open Go.RowKit Go.Deep
def ChgFPost (x : Ex) (w : World) (e : Ending) (w' : World) : Prop := ∃ v, e = .returned v ∧ EFam (fun _ => True) w.heap.size v (chg x) w' ∧ Below w.heap.size w w'
set_option maxRecDepth 100000 in
set_option maxHeartbeats 1000000 in
theorem chgF_lit (n : Int) (s : List Ex) (F : Nat → Prop) (a b c : Value) (w : World) (hx : ExIn F w (.mk 1 n s) a b c) :
    Calls Tryd.prog 16 #[.agg #[a, b, c]] w (ChgFPost (.mk 1 n s) w) := by
  obtain ⟨A, cp, rfl, rfl, rfl, l1, l2, _⟩ := hx.box
  have CG : Hid (chg (.mk 1 n s) = [.mk 1 (wrap64 (n + 1)) [], .mk 1 (wrap64 (n - 1)) []]) := by show _ = _; simp [chg]
  have B0 : Hid (Below w.heap.size w (w.alloc (.cells #[.int .i64 1, .int .i64 n, .slice A s.length cp] 24))) := (Below.refl _ _).alloc (Nat.le_refl _) _
  have W1 : Hid (∀ (G : Nat → Prop) (wz : World) (m : Int), ExIn G wz (.mk 1 (wrap64 m) []) (.int .i64 1) (.int .i64 (wrap64 m)) (.slice none 0 0)) := fun G wz m => by
    rw [ExIn]; exact ⟨rfl, rfl, by decide, wf_wrap m, none, 0, rfl, by simp, by simp⟩
  go_enter Tryd.func16, Tryd.ntmps16
  go_wp2_with fail
  go_ret
  refine ⟨.slice (some ⟨w.heap.size + 1, 0, none⟩) 2 2, rfl, ?_, B0.out.alloc (by simp) _⟩
  rw [CG.out]
  have h9 := efam_lit (w := w.alloc (.cells #[.int .i64 1, .int .i64 n, .slice A s.length cp] 24)) (l := [.mk 1 (wrap64 (n + 1)) [], .mk 1 (wrap64 (n - 1)) []]) (D := fun _ _ => False) (cs := #[.int .i64 1, .int .i64 (wrap64 (n + 1)), .slice none 0 0, .int .i64 1, .int .i64 (wrap64 (n - 1)), .slice none 0 0]) (by simp) (by simp) w.heap.size (by simp) (by
    refine ⟨rfl, fun i hi => ?_⟩
    match i, hi with
    | 0, _ => exact ⟨_, _, _, rfl, rfl, rfl, Elt.leaf (by decide) (wf_wrap _)⟩
    | 1, _ => exact ⟨_, _, _, rfl, rfl, rfl, Elt.leaf (by decide) (wf_wrap _)⟩) (fun i _ b h => h.elim) (fun i j b _ _ h => h.elim)
  simp only [World.size_alloc] at h9
  exact h9
set_option maxRecDepth 100000 in
set_option maxHeartbeats 1000000 in
theorem chgF_not (n : Int) (y : Ex) (F : Nat → Prop) (a b c : Value) (w : World) (hF : ∀ g, F g → g < w.heap.size) (hx : ExIn F w (.mk 9 n [y]) a b c) (hsz : (Ex.mk 9 n [y]).size ≤ 100) :
    Calls Tryd.prog 16 #[.agg #[a, b, c]] w (ChgFPost (.mk 9 n [y]) w) := by
  have HF := hid hF
  obtain ⟨A, cp, rfl, rfl, rfl, l1, l2, hs⟩ := hx.box
  obtain ⟨bl, off, rfl, hFb, hex⟩ := hs (by simp)
  have lb := hF bl hFb
  have CG : Hid (chg (.mk 9 n [y]) = [y]) := by show _ = _; simp [chg]
  have SZ : Hid (y.size ≤ 100) := by show _ ≤ _; rw [Ex.size, Exs.size, Exs.size] at hsz; omega
  have B0 : Hid (Below w.heap.size w (w.alloc (.cells #[.int .i64 9, .int .i64 n, .slice (some ⟨bl, off, none⟩) 1 cp] 24))) := (Below.refl _ _).alloc (Nat.le_refl _) _
  have hex2 := ExsIn.keep (Same.of_below B0.out hF) _ hFb hex
  obtain ⟨a1, b1, c1, q1, q2, q3, hy⟩ := hex2.at_ (i := 0) (by simp)
  have HY := hid hy
  simp only [Nat.zero_mul, Nat.add_zero] at q1 q2 q3
  obtain ⟨k1, n1, s1⟩ := y
  obtain ⟨A1, cp1, rfl, rfl, rfl, _, _, _⟩ := HY.out.box
  have WF1 := hid HY.out.wf
  clear hF hs hex hex2 hy hsz
  go_enter Tryd.func16, Tryd.ntmps16
  go_wp2_with fail
  refine (copied_any (.mk k1 n1 s1) F _ _ _ _ (fun g hg => by have := HF.out g hg; simp; omega) HY.out SZ.out).mono ?_
  rintro e w1 ⟨v1, he, hE, hb⟩
  simp only [Ex.k, Ex.n, Ex.s] at he hE
  subst he
  have E1 := hid hE
  have B1 := hid (B0.out.trans (hb.mono (by simp)))
  have s1' := hb.size
  simp at s1'
  obtain ⟨A4, c4, rfl⟩ := hE.slice
  clear hE hb q1 q2 q3
  go_wp2_with fail
  go_ret
  refine ⟨_, rfl, ?_, B1.out.alloc (by omega) _⟩
  rw [CG.out]
  exact efam_lit (cs := #[.int .i64 k1, .int .i64 n1, .slice A4 s1.length c4]) (D := fun _ b => (w.alloc (.cells #[.int .i64 9, .int .i64 n, .slice (some ⟨bl, off, none⟩) 1 cp] 24)).heap.size ≤ b ∧ b < w1.heap.size) (by simp) (by simp) w.heap.size (by omega) (by
    refine ⟨rfl, fun i hi => ?_⟩
    match i, hi with
    | 0, _ => exact ⟨_, _, _, rfl, rfl, rfl, E1.out.elt WF1.out.1 WF1.out.2⟩) (fun i _ b h => ⟨by have := h.1; simp at this; omega, h.2⟩) (fun i j b hi hj _ _ => by simp at hi hj; omega)
set_option maxRecDepth 100000 in
set_option maxHeartbeats 2000000 in
theorem chgF_ops (k n : Int) (s : List Ex) (F : Nat → Prop) (a b c : Value) (w : World) (hF : ∀ g, F g → g < w.heap.size) (hx : ExIn F w (.mk k n s) a b c) (hL : LaidE w) (hsz : (Ex.mk k n s).size ≤ 100) (h1 : k ≠ 1) (h9 : k ≠ 9) :
    Calls Tryd.prog 16 #[.agg #[a, b, c]] w (ChgFPost (.mk k n s) w) := by
  have HF := hid hF
  have HL := hid hL
  have HX := hid hx
  have HSZ := hid hsz
  obtain ⟨A, cp, rfl, rfl, rfl, l1, l2, _⟩ := hx.box
  have WF := hid hx.wf
  have CG : Hid (chg (.mk k n s) = opsTo k n s (kindsOf k) (kindsOf k).length) := by show _ = _; simp [chg, opsTo, h1, h9]
  have d1 : (k == 1) = false := by simp [h1]
  have d2 : (k == 9) = false := by simp [h9]
  have B0 : Hid (Below w.heap.size w (w.alloc (.cells #[.int .i64 k, .int .i64 n, .slice A s.length cp] 24))) := (Below.refl _ _).alloc (Nat.le_refl _) _
  have X0 := hid (Has.new w (.cells #[.int .i64 k, .int .i64 n, .slice A s.length cp] 24))
  obtain ⟨ov, go1, go2⟩ := hL.ops
  obtain ⟨av, ga1, ga2⟩ := hL.asks
  have GO := hid go2
  have GA := hid ga2
  have lgo := cell_lt go1
  have lga := cell_lt ga1
  simp only at lgo lga
  obtain ⟨Ao, co, rfl, _, _, _⟩ := go2
  obtain ⟨Aa, ca, rfl, _, _, _⟩ := ga2
  have go3 : (w.alloc (.cells #[.int .i64 k, .int .i64 n, .slice A s.length cp] 24)).cell? ⟨1, 0, none⟩ = some _ := (B0.out.cell (p := ⟨_, 0, none⟩) lgo).trans go1
  have ga3 : (w.alloc (.cells #[.int .i64 k, .int .i64 n, .slice A s.length cp] 24)).cell? ⟨2, 0, none⟩ = some _ := (B0.out.cell (p := ⟨_, 0, none⟩) lga).trans ga1
  obtain ⟨i0, hi0, hz0, hz1, hz2⟩ := info_parts infoExpr
  have KW := kinds_wf k
  clear hF hL hx hsz h1 h9 go1 ga1
  go_enter Tryd.func16, Tryd.ntmps16
  go_wp2_with fail
  refine (contains_any asksL k (fun b => b < w.heap.size) _ _ (GA.out.keep (Same.of_below B0.out fun b h => h))).mono ?_
  rintro e w1 ⟨rfl, rfl⟩
  go_upto_if 35 with fail
  go_cut [4] (fun kv wx => (∃ Ak ck, kv = .slice Ak (kindsOf k).length ck ∧ Hid (IntsIn .i64 (fun b => b < w.heap.size) w (.slice Ak (kindsOf k).length ck) (kindsOf k))) ∧ wx = w.alloc (.cells #[.int .i64 k, .int .i64 n, .slice A s.length cp] 24))
  case first =>
    by_cases hk : k ∈ asksL
    · have KO : Hid (kindsOf k = asksL) := by show _ = _; unfold kindsOf; rw [if_pos hk]
      rw [decide_eq_true hk]
      clear hk
      go_wp2_with fail
      go_meet
      refine ⟨⟨Aa, ca, ?_, ?_⟩, rfl⟩
      · rw [KO.out]
      · show IntsIn _ _ _ _ _
        rw [KO.out]; exact GA.out
    · have KO : Hid (kindsOf k = opsL) := by show _ = _; unfold kindsOf; rw [if_neg hk]
      rw [decide_eq_false hk]
      clear hk
      go_wp2_with fail
      go_meet
      refine ⟨⟨Ao, co, ?_, ?_⟩, rfl⟩
      · rw [KO.out]
      · show IntsIn _ _ _ _ _
        rw [KO.out]; exact GO.out
  case rest =>
  obtain ⟨⟨Ak, ck, rfl, HK⟩, hwc⟩ := hcut
  subst wc
  obtain ⟨L, hLk⟩ : ∃ L, L = kindsOf k := ⟨_, rfl⟩
  rw [← hLk] at HK KW CG
  rw [← hLk]
  obtain ⟨kw1, kw2⟩ := KW
  have KV := hid kw2
  have HKC := hid (ints_cells HK.out)
  clear hLk kw2 go3 ga3 GA GO
  go_wp2_with fail
  go_loopw [3, 39] (fun ov iv wr => ∃ (i : Nat) (v : Value), i ≤ L.length ∧ ov = v ∧ iv = .int .i64 i ∧ Hid (EFam (fun _ => True) (w.heap.size + 1) v (opsTo k n s L i) wr) ∧ Hid (wr.heap[w.heap.size]? = some (.cells #[.int .i64 k, .int .i64 n, .slice A s.length cp] 24 (0, 0))) ∧ Hid (Below w.heap.size w wr)) (fun _ iv _ => L.length - (intOf iv).toNat)
  case atStart => exact ⟨0, _, Nat.zero_le _, rfl, rfl, by show EFam _ _ _ _ _; exact EFam.nil_ _ _ _, X0, B0⟩
  case round =>
    obtain ⟨i, v, hi, rfl, rfl, hE, hX, hB⟩ := hrel
    obtain ⟨wo, rfl⟩ : ∃ wo : World, wo = wr := ⟨_, rfl⟩
    have lB := hB.out.size
    have lX := Has.lt hX.out
    clear B0 X0
    by_cases hlt : i < L.length
    · obtain ⟨b1, o1, ea, hb1, hc1⟩ := HKC.out (by omega)
      subst ea
      have k1 : wo.cell? ⟨b1, o1 + i, none⟩ = some (.int .i64 (at0 L i)) := (hB.out.cell (p := ⟨b1, o1 + i, none⟩) hb1).trans (hc1 i hlt)
      have i1 : (i : Int) < (L.length : Int) := by omega
      have OS := hid (opsTo_succ (k := k) (n := n) (s := s) hlt)
      have KB := KV.out _ (mem_at hlt)
      have x0 := Has.cell hX.out 0
      have x1 := Has.cell hX.out 1
      have x2 := Has.cell hX.out 2
      simp at x0 x1 x2
      have OL := opsTo_len k n s L i
      generalize hj : at0 L i = j at *
      have HJ := hid hj
      clear hc1 hj
      by_cases hjk : j = k
      · have OS2 : Hid (opsTo k n s L (i + 1) = opsTo k n s L i) := by show _ = _; rw [OS.out, if_pos hjk]
        have e1 : (j != k) = false := by simp [hjk]
        clear hjk
        go_wp2_with fail
        go_roundw
        case rel => exact ⟨i + 1, _, by omega, rfl, by go_num, by rw [OS2.out]; exact hE, hX, hB⟩
        case measure => simp [intOf]; omega
      · have OS2 : Hid (opsTo k n s L (i + 1) = opsTo k n s L i ++ [.mk j n s]) := by show _ = _; rw [OS.out, if_neg hjk]
        have e1 : (j != k) = true := by simp [hjk]
        have WJ : Hid ((Lit.int .i64 j).wf = true) := WalkArith.wf_i64 (by omega)
        clear hjk
        go_wp2_with fail
        refine (copied_any (.mk k n s) F _ _ _ wo (fun g hg => by have := HF.out g hg; omega) (ExIn.keep (Same.of_below hB.out HF.out) _ HX.out) HSZ.out).mono ?_
        rintro e w2 ⟨v1, he, hE1, hb2⟩
        simp only [Ex.k, Ex.n, Ex.s] at he hE1
        subst he
        obtain ⟨A4, c4, rfl⟩ := hE1.slice
        have E1 := hid hE1
        have s2 := hb2.size
        have B2 := hid (hB.out.trans (hb2.mono lB))
        have X2 := hid (Has.below hX.out hb2 lX)
        obtain ⟨cs, ob⟩ := (hE.out.bound (P' := fun b => b < wo.heap.size) fun b _ _ h => h).below hb2
        have OC := hid ob
        have OW := hid ob.1
        have BA : Hid (Below w2.heap.size w2 ((w2.alloc (.cells #[.int .i64 j, .int .i64 n, .slice A4 s.length c4] 24)).alloc (.cells #[.int .i64 j, .int .i64 n, .slice A4 s.length c4] 24))) := ((Below.refl _ _).alloc (Nat.le_refl _) _).alloc (by simp) _
        have NX : Hid (Elt (fun b => wo.heap.size ≤ b ∧ b < w2.heap.size) ((w2.alloc (.cells #[.int .i64 j, .int .i64 n, .slice A4 s.length c4] 24)).alloc (.cells #[.int .i64 j, .int .i64 n, .slice A4 s.length c4] 24)) (.mk j n s) (.int .i64 j) (.int .i64 n) (.slice A4 s.length c4)) := (E1.out.elt WJ.out WF.out.2).keep fun b h => BA.out.block b h.2
        have OWL := hid (hE.out.ownlt)
        clear hb2 hE1 ob x0 x1 x2 k1
        go_wp2_with (at_builtin; refine wpList_app _ rfl _ _ 22 rfl (w.heap.size + 1) 24 i0 (.agg #[.int .i64 0, .int .i64 0, .slice none 0 0]) 3 40 Tryd.underlying22 hi0 hz0 hz1 hz2 rfl (by decide) u3 _ cs rfl (own_below OW.out BA.out) _ _ 1 [.int .i64 j, .int .i64 n, .slice A4 s.length c4] rfl (cells_three _ _ _ _ (w2.heap.size + 1) (fun b => b = w2.heap.size + 1) (by simp) (by simp) (by simp) rfl) (by intro u hu; simp at hu; rcases hu with rfl | rfl | rfl <;> rfl) (by unfold maxLen; omega) (by omega) (by simp; omega) ?_; intro v5 w5 hown5 hgrow5 hat5; have EB := hid (efam_snoc (P' := fun _ => True) (x := .mk j n s) (by simp; omega) (OC.out.below BA.out) NX.out (fun b h => ⟨trivial, by have := h.1; omega, by have := h.2; simp; omega, fun e => by have := (OWL.out b e).2; have := h.1; omega⟩) (fun b h h2 => by have := h2.1; omega) (fun _ _ => trivial) hown5 hgrow5 hat5); have X5 := hid (Has.grown (Has.below X2.out BA.out (by omega)) hgrow5 (fun e => by have := own_ge OW.out _ e.symm; omega)); clear hown5 hgrow5 hat5)
        go_roundw
        case rel => exact ⟨i + 1, _, by omega, rfl, by go_num, by rw [OS2.out]; exact EB.out.1, X5, (B2.out.trans (BA.out.mono (by omega))).trans (EB.out.2.mono (by omega))⟩
        case measure => simp [intOf]; omega
    · obtain rfl : i = L.length := by omega
      go_wp2_with fail
      go_ret
      exact ⟨_, rfl, by rw [CG.out]; exact hE.out.base (by omega), hB.out⟩
theorem chgF_any (x : Ex) (F : Nat → Prop) (a b c : Value) (w : World) (hF : ∀ g, F g → g < w.heap.size) (hx : ExIn F w x a b c) (hL : LaidE w) (hsz : x.size ≤ 100) (he : x.err = 0) :
    Calls Tryd.prog 16 #[.agg #[a, b, c]] w (ChgFPost x w) := by
  obtain ⟨k, n, s⟩ := x
  by_cases h1 : k = 1
  · subst h1; exact chgF_lit n s F a b c w hx
  · by_cases h9 : k = 9
    · subst h9
      have hb := (Ex.err_parts he).1
      have : s.length = 1 := by
        unfold headBad takesL at hb
        simp at hb; omega
      match s, this with
      | [y], _ => exact chgF_not n y F a b c w hF hx hsz
    · exact chgF_ops k n s F a b c w hF hx hL hsz h1 h9
end Go.Proofs.YtanpmmpdolaiiaaDoor
