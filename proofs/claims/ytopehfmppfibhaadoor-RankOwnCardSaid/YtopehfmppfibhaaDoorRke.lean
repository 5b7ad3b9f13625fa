/- What rank.Rank returns of a generator that can be counted and a tape that is one of its tapes. Conditions: those. -/
import Derived.Test.YtopehfmppfibhaaDoorRkd
import Derived.Test.YtopehfmppfibhaaDoorGrp
import Derived.BigRegion
import Derived.Deep.DeepCutAuto
import Derived.Lib.MinMax
import Derived.Lib.SliceRun
namespace Go.Proofs.YtopehfmppfibhaaDoor
open Go.RowKit Go.Deep
mutual
theorem GeIn.uniq {F F' : Nat → Prop} {w : World} : ∀ (g g' : Ge) {u v x c : Value}, GeIn F w g u v x c → GeIn F' w g' u v x c → g = g'
  | .mk k a b s, .mk k' a' b' s', u, v, x, c, h, h' => by
    rw [GeIn] at h h'
    obtain ⟨h1, h2, h3, _, _, _, A, cp, h7, _, h9⟩ := h
    obtain ⟨h1', h2', h3', _, _, _, A', cp', h7', _, h9'⟩ := h'
    rw [h1] at h1'; rw [h2] at h2'; rw [h3] at h3'; rw [h7] at h7'
    injection h1' with _ e1
    injection h2' with _ e2
    injection h3' with _ e3
    injection h7' with e4 e5 e6
    subst e1 e2 e3 e4 e6
    by_cases hn : 0 < s.length
    · obtain ⟨bl, off, e, _, hx⟩ := h9 hn
      obtain ⟨bl', off', e', _, hx'⟩ := h9' (by omega)
      rw [e] at e'
      injection e' with e'
      injection e' with e7 e8
      subst e7 e8
      rw [GesIn.uniq s s' e5 hx hx']
    · rw [List.eq_nil_of_length_eq_zero (l := s) (by omega), List.eq_nil_of_length_eq_zero (l := s') (by omega)]
theorem GesIn.uniq {F F' : Nat → Prop} {w : World} : ∀ (s s' : List Ge) {bl o : Nat}, s.length = s'.length → GesIn F w s bl o → GesIn F' w s' bl o → s = s'
  | [], [], _, _, _, _, _ => rfl
  | [], _ :: _, _, _, h, _, _ => by simp at h
  | _ :: _, [], _, _, h, _, _ => by simp at h
  | g :: r, g' :: r', bl, o, hl, h, h' => by
    rw [GesIn] at h h'
    obtain ⟨⟨u, v, x, c, h1, h2, h3, h4, h5⟩, h6⟩ := h
    obtain ⟨⟨u', v', x', c', h1', h2', h3', h4', h5'⟩, h6'⟩ := h'
    rw [h1] at h1'; rw [h2] at h2'; rw [h3] at h3'; rw [h4] at h4'
    injection h1' with e1
    injection h2' with e2
    injection h3' with e3
    injection h4' with e4
    subst e1 e2 e3 e4
    rw [GeIn.uniq g g' h5 h5', GesIn.uniq r r' (by simpa using hl) h6 h6']
end
theorem GesV.uniq {F F' : Nat → Prop} {w : World} {v : Value} {l l' : List Ge} (h : GesV F w v l) (h' : GesV F' w v l') : l = l' := by
  obtain ⟨A, c, e1, _, _, h4⟩ := h
  obtain ⟨A', c', e1', _, _, h4'⟩ := h'
  rw [e1] at e1'
  injection e1' with e2 e3 e4
  subst e2
  by_cases hn : 0 < l.length
  · obtain ⟨bl, off, e, _, hx⟩ := h4 hn
    obtain ⟨bl', off', e', _, hx'⟩ := h4' (by omega)
    rw [e] at e'
    injection e' with e'
    injection e' with e7 e8
    subst e7 e8
    exact GesIn.uniq l l' e3 hx hx'
  · rw [List.eq_nil_of_length_eq_zero (l := l) (by omega), List.eq_nil_of_length_eq_zero (l := l') (by omega)]
open Classical in
/-- the weight of what lies behind a slice -/
noncomputable def wtAt (v : Value) (w : World) : Nat := if h : ∃ l, GesV (fun _ => True) w v l then Ges.wt h.choose else 0
theorem wtAt_eq {F : Nat → Prop} {w : World} {v : Value} {l : List Ge} (h : GesV F w v l) : wtAt v w = Ges.wt l := by
  have h' : ∃ l, GesV (fun _ => True) w v l := ⟨l, h.more fun _ _ => trivial⟩
  unfold wtAt
  rw [dif_pos h', GesV.uniq h'.choose_spec h]
/-- the first of a list, and the others -/
theorem gesV_cons {F : Nat → Prop} {w : World} {A : Option Addr} {n c : Nat} {y : Ge} {r : List Ge} (h : GesV F w (.slice A n c) (y :: r)) : ∃ bl off, A = some ⟨bl, off, none⟩ ∧ n = r.length + 1 ∧ n ≤ c ∧ c ≤ 9223372036854775807 ∧ F bl ∧ (∃ u v x e, w.cell? ⟨bl, off, none⟩ = some u ∧ w.cell? ⟨bl, off + 1, none⟩ = some v ∧ w.cell? ⟨bl, off + 2, none⟩ = some x ∧ w.cell? ⟨bl, off + 3, none⟩ = some e ∧ GeIn F w y u v x e) ∧
    GesV F w (.slice (some ⟨bl, off + 4, none⟩) r.length (c - 1)) r := by
  obtain ⟨A', c', e, h1, h2, h4⟩ := h
  injection e with e1 e2 e3
  subst e1 e3
  obtain ⟨bl, off, e, hF, hx⟩ := h4 (by simp)
  subst e
  simp only [List.length_cons] at e2 h1
  rw [GesIn] at hx
  exact ⟨bl, off, rfl, e2, by omega, h2, hF, hx.1, ⟨_, _, rfl, by omega, by omega, fun _ => ⟨bl, off + 4, rfl, hF, hx.2⟩⟩⟩
structure RkInv (N R : Nat) (t : List Int) (td : List Ge) (n at_ : Nat) : Prop where
  at_le : at_ ≤ t.length
  rk : ∃ r, Rk td (t.drop at_) r ∧ n + r = R
  sum : n + Ges.prod td ≤ N
  good : ∀ y ∈ td, GoodG y
  wt : Ges.wt td ≤ 31 ^ 6
theorem RkInv.both {N R n at_ : Nat} {t : List Int} {a b : Int} {s rest : List Ge} (h : RkInv N R t (.mk 3 a b s :: rest) n at_) : RkInv N R t (s ++ rest) n at_ ∧ Ges.wt (s ++ rest) < Ges.wt (.mk 3 a b s :: rest) := by
  have hw : Ges.wt (s ++ rest) < Ges.wt (.mk 3 a b s :: rest) := by rw [wt_app, Ges.wt, Ge.wt, if_neg (by decide)]; omega
  refine ⟨⟨h.at_le, ?_, ?_, fun y hy => ?_, by have := h.wt; omega⟩, hw⟩
  · obtain ⟨r, h1, h2⟩ := h.rk
    generalize t.drop at_ = td at h1 ⊢
    cases h1 with
    | both h1 => exact ⟨r, h1, h2⟩
    | pick h1 h3 hj h => exact absurd rfl h3
  · have := h.sum
    rw [Ges.prod, Ge.ways, if_neg (by decide), if_pos rfl] at this
    rw [prod_app]; exact this
  · rcases List.mem_append.1 hy with hy | hy
    · exact (h.good (.mk 3 a b s) (by simp)).part y hy
    · exact h.good y (by simp [hy])
theorem RkInv.just {N R n at_ : Nat} {t : List Int} {a b : Int} {s rest : List Ge} (h : RkInv N R t (.mk 1 a b s :: rest) n at_) : RkInv N R t rest n at_ ∧ Ges.wt rest < Ges.wt (.mk 1 a b s :: rest) := by
  have hw : Ges.wt rest < Ges.wt (.mk 1 a b s :: rest) := by rw [Ges.wt]; have := wt_pos (.mk 1 a b s); omega
  refine ⟨⟨h.at_le, ?_, ?_, fun y hy => h.good y (by simp [hy]), by have := h.wt; omega⟩, hw⟩
  · obtain ⟨r, h1, h2⟩ := h.rk
    generalize t.drop at_ = td at h1 ⊢
    cases h1 with
    | just h1 => exact ⟨r, h1, h2⟩
    | pick h1 h3 hj h => exact absurd rfl h1
  · have := h.sum
    rw [Ges.prod, Ge.ways, if_neg (by decide), if_neg (by decide), if_neg (by decide), if_neg (by decide), Nat.one_mul] at this
    exact this
theorem RkInv.pick {N R n at_ : Nat} {t : List Int} {k a b : Int} {s rest : List Ge} (h : RkInv N R t (.mk k a b s :: rest) n at_) (k1 : k ≠ 1) (k3 : k ≠ 3) : ∃ (j : Nat) (hj : j < (Ge.mk k a b s).brs.length) (ht : at_ < t.length), t[at_] = (j : Int) ∧ (Ge.mk k a b s).brs.length ≤ 1001 ∧
    (∀ i, i < j → n + Ges.prod rest * sumTo (Ge.mk k a b s).brs i ≤ N) ∧ (∀ i (hi : i < (Ge.mk k a b s).brs.length), n + Ges.prod rest * sumTo (Ge.mk k a b s).brs i + Ges.prod rest * Ges.prod (Ge.mk k a b s).brs[i] ≤ N ∧ Ges.prod rest * Ges.prod (Ge.mk k a b s).brs[i] ≤ N ∧ Ges.prod (Ge.mk k a b s).brs[i] ≤ N ∧ ∀ y ∈ (Ge.mk k a b s).brs[i], GoodG y) ∧ Ges.prod rest ≤ N ∧
    RkInv N R t ((Ge.mk k a b s).brs[j] ++ rest) (n + Ges.prod rest * sumTo (Ge.mk k a b s).brs j) (at_ + 1) ∧ Ges.wt ((Ge.mk k a b s).brs[j] ++ rest) < Ges.wt (.mk k a b s :: rest) := by
  have hG := h.good (.mk k a b s) (by simp)
  have hr : ∀ y ∈ rest, GoodG y := fun y hy => h.good y (by simp [hy])
  obtain ⟨m, q1, q2, q3, q4, q5⟩ := brs_spec hG.right hG.wide k1 k3
  obtain ⟨r, h1, h2⟩ := h.rk
  have p1 := prod_pos rest fun y hy => (hr y hy).ways
  have hs := h.sum
  rw [Ges.prod] at hs
  have key : ∀ i, i ≤ m + 1 → n + Ges.prod rest * sumTo (Ge.mk k a b s).brs i ≤ N := fun i hi => by
    have h3 := sumTo_mono (Ge.mk k a b s).brs hi (by omega)
    rw [q3] at h3
    have := Nat.mul_le_mul_left (Ges.prod rest) h3
    rw [Nat.mul_comm (Ge.mk k a b s).ways] at hs
    omega
  have gp : ∀ i (hi : i < (Ge.mk k a b s).brs.length), ∀ y ∈ (Ge.mk k a b s).brs[i], GoodG y := fun i hi y hy => hG.part y (q5 _ (List.getElem_mem hi) y hy)
  have step : ∀ i (hi : i < (Ge.mk k a b s).brs.length), n + Ges.prod rest * sumTo (Ge.mk k a b s).brs i + Ges.prod rest * Ges.prod (Ge.mk k a b s).brs[i] ≤ N := fun i hi => by
    have := key (i + 1) (by omega)
    rw [sumTo_succ _ i hi, Nat.mul_add] at this
    omega
  generalize hd : t.drop at_ = td at h1
  cases h1 with
  | both h1 => exact absurd rfl k3
  | just h1 => exact absurd rfl k1
  | @pick _ _ _ _ _ t' r' j _ _ hj h1 =>
    have ht : at_ < t.length := by
      rcases Nat.lt_or_ge at_ t.length with h | h
      · exact h
      · rw [List.drop_eq_nil_of_le h] at hd; cases hd
    rw [List.drop_eq_getElem_cons ht] at hd
    injection hd with hd1 hd2
    have hw := brs_wt hG.right _ (List.getElem_mem hj)
    have hW : Ges.wt ((Ge.mk k a b s).brs[j] ++ rest) < Ges.wt (.mk k a b s :: rest) := by rw [wt_app, Ges.wt]; omega
    refine ⟨j, hj, ht, hd1, by omega, fun i hi => key i (by omega), fun i hi => ?_, ?_, ⟨by omega, ⟨r', by rw [hd2]; exact h1, by omega⟩, ?_, fun y hy => ?_, by have := h.wt; omega⟩, hW⟩
    · have s1 := step i hi
      have p2 := prod_pos _ fun y hy => (gp i hi y hy).ways
      have := Nat.le_mul_of_pos_left (Ges.prod (Ge.mk k a b s).brs[i]) p1
      exact ⟨s1, by omega, by omega, gp i hi⟩
    · have := Nat.le_mul_of_pos_left (Ges.prod rest) (hG.ways)
      omega
    · rw [prod_app, Nat.mul_comm (Ges.prod _) (Ges.prod rest)]
      exact step j hj
    · rcases List.mem_append.1 hy with hy | hy
      · exact gp j hj y hy
      · exact hr y hy
theorem GeIn.sub {F : Nat → Prop} {w : World} {k a b : Int} {s : List Ge} {u v x c : Value} (h : GeIn F w (.mk k a b s) u v x c) : GesV F w c s := by
  obtain ⟨A, cp, _, _, _, rfl, l1, l2, hs⟩ := h.box
  exact ⟨A, cp, rfl, l1, l2, hs⟩
theorem wrap_acc {n p m : Nat} (h : n + p * m ≤ 1048576) : wrap64 ((n : Int) + (p : Int) * (m : Int)) = (n : Int) + (p : Int) * (m : Int) := by
  have e : (p : Int) * (m : Int) = ((p * m : Nat) : Int) := (Int.natCast_mul p m).symm
  rw [e]
  generalize p * m = c at *
  unfold wrap64
  omega
theorem rk_nil {t : List Int} {r : Nat} (h : Rk [] t r) : t = [] ∧ r = 0 := by cases h; exact ⟨rfl, rfl⟩
set_option maxRecDepth 100000 in
set_option maxHeartbeats 4000000 in
theorem rank_ok (g : Ge) (t : List Int) (R : Nat) (z : Va) (F : Nat → Prop) (u v x c tv : Value) (w : World) (hF : ∀ b, F b → b < w.heap.size) (hx : GeIn F w g u v x c) (ht : IntsIn .i64 F w tv t) (hc : cntE g = 0) (hr : g.made.run (replayF t) 0 = .ok (t.length, z)) (hk : Rk [g] t R) :
    Calls Tryd.prog 16 #[.agg #[u, v, x, c], tv] w fun e w' => e = .returned (.tuple #[.int .i64 (R : Int), .nilIface]) ∧ Below w.heap.size w w' := by
  have HX := hid (GeIn.more (F' := fun b => b < w.heap.size) hF _ hx)
  have HT : Hid (IntsIn .i64 (fun b => b < w.heap.size) w tv t) := ht.more hF
  obtain ⟨c1, c2, c3⟩ := cnt_good hc
  have GG := hid c1
  have GW := hid c2
  have CA := hid (count_any g)
  have HC := hid hc
  have RA := hid (replay_ok g t z)
  have HR := hid hr
  have I0 : Hid (RkInv g.ways R t [g] 0 0) := ⟨Nat.zero_le _, ⟨R, by rw [List.drop_zero]; exact hk, by omega⟩, by rw [prod_one]; omega, fun y hy => by simp at hy; subst hy; exact c1, by
    have := wt_high g 6 c1.high (Ge.parts_wide g 0 (chkG_good (goodG_chk c1)).1) c1.right
    rw [Ges.wt, Ges.wt]; omega⟩
  obtain ⟨A1, cp1, rfl, tl1, _, tc⟩ := ht
  have TC := hid tc
  obtain ⟨tl1, tl2⟩ := tl1
  have tl3 : t.length ≤ 9223372036854775807 := by unfold maxLen at tl2; omega
  clear tl2
  generalize hG : g = G at HX GG GW CA HC RA HR I0
  obtain ⟨k, a, b, s⟩ := g
  obtain ⟨A, cp, rfl, rfl, rfl, rfl, _, _, _⟩ := hx.box
  obtain ⟨W, hW⟩ : ∃ W, W = w.alloc (.cells #[.int .i64 k, .int .i64 a, .int .i64 b, .slice A s.length cp] 24) := ⟨_, rfl⟩
  have SW : W.heap.size = w.heap.size + 1 := by rw [hW]; simp
  have BW : Hid (Below w.heap.size w W) := by show Below _ _ _; rw [hW]; exact (Below.refl _ _).alloc (Nat.le_refl _) _
  have X0 := hid (Has.new w (.cells #[.int .i64 k, .int .i64 a, .int .i64 b, .slice A s.length cp] 24))
  rw [← hW] at X0
  have HW := hid hW
  have HF := hid hF
  clear hF hx hc hr hk c1 c2 c3 hG hW tc
  go_enter Tryd.func16, Tryd.ntmps16
  go_wp2_with fail
  rw [← HW.out]
  refine (CA.out (fun b => b < w.heap.size) _ _ _ _ _ (fun q hq => by omega) (GeIn.keep (Same.of_below BW.out fun q hq => hq) _ HX.out)).mono ?_
  rintro e w1 ⟨rfl, hb1⟩
  rw [HC.out, errV_0]
  have B1 := hid hb1
  have X1 := Has.below X0.out hb1 (by omega)
  have x0 := Has.cell X1 0
  have x1 := Has.cell X1 1
  have x2 := Has.cell X1 2
  have x3 := Has.cell X1 3
  simp at x0 x1 x2 x3
  have s1 := hb1.size
  clear hb1 X1
  go_wp2_with fail
  refine (RA.out (fun b => b < w.heap.size) _ _ _ _ _ w1 (fun q hq => by omega) (GeIn.keep (fun q hq => (B1.out.block q (by omega)).trans (BW.out.block q hq)) _ HX.out) (HT.out.keep fun q hq => (B1.out.block q (by omega)).trans (BW.out.block q hq)) (goodG_chk GG.out) HR.out).mono ?_
  rintro e w2 ⟨vl, vn, vA, vlen, vcp, rfl, hb2⟩
  have B2 := hid ((B1.out.trans (hb2.mono s1)).alloc (by have := hb2.size; omega) (.cells #[.bool vl, .int .i64 vn, .slice vA vlen vcp] 47))
  clear x0 x1 x2 x3 hb2
  have X1 := Has.below X0.out B2.out (by omega)
  have x0 := Has.cell X1 0
  have x1 := Has.cell X1 1
  have x2 := Has.cell X1 2
  have x3 := Has.cell X1 3
  simp at x0 x1 x2 x3
  obtain ⟨wb, hwb⟩ : ∃ wb, wb = w2.alloc (.cells #[.bool vl, .int .i64 vn, .slice vA vlen vcp] 47) := ⟨_, rfl⟩
  have HWB := hid hwb
  go_wp2_with fail
  have sb : wb.heap.size = w2.heap.size + 1 := by rw [hwb]; simp
  have s2 := B2.out.size
  simp at s2
  obtain ⟨we, hwc⟩ : ∃ we, we = wb.alloc (.cells #[.int .i64 k, .int .i64 a, .int .i64 b, .slice A s.length cp] 24) := ⟨_, rfl⟩
  have sc : we.heap.size = w2.heap.size + 2 := by rw [hwc]; simp; omega
  have B3 : Hid (Below W.heap.size W we) := by show Below _ _ _; rw [hwc, hwb]; exact B2.out.alloc (by simp; omega) _
  have V0 : Hid (GesV (fun b => b < we.heap.size) we (.slice (some ⟨w2.heap.size + 1, 0, none⟩) 1 1) [G]) := by
    have X1 := Has.newAt (g := w2.heap.size + 1) wb (.cells #[.int .i64 k, .int .i64 a, .int .i64 b, .slice A s.length cp] 24) (by omega)
    rw [← hwc] at X1
    refine ⟨_, 1, rfl, by simp, by omega, fun _ => ⟨w2.heap.size + 1, 0, rfl, by omega, GesIn.mk_ fun j hj => ?_⟩⟩
    obtain rfl : j = 0 := by simpa using hj
    exact ⟨_, _, _, _, (Has.cell X1 0).trans rfl, (Has.cell X1 1).trans rfl, (Has.cell X1 2).trans rfl, (Has.cell X1 3).trans rfl, GeIn.more (fun q hq => by omega) _ (GeIn.keep (fun q hq => (B3.out.block q (by omega)).trans (BW.out.block q hq)) _ HX.out)⟩
  have HWC := hid hwc
  have NW := hid GW.out
  clear x0 x1 x2 x3 X1 hwb hwc
  go_loopw [10, 11, 12] (fun nv av tdv wr => ∃ (n at_ : Nat) (td : List Ge), nv = .int .i64 n ∧ av = .int .i64 at_ ∧ Hid (RkInv G.ways R t td n at_) ∧ Hid (GesV (fun b => b < wr.heap.size) wr tdv td) ∧ Hid (Below we.heap.size we wr)) (fun _ _ tdv wr => wtAt tdv wr)
  case atStart => rw [← HWB.out, ← HWC.out]; exact ⟨0, 0, [G], rfl, rfl, I0, V0, Below.refl _ _⟩
  case round =>
    obtain ⟨n, at_, td, rfl, rfl, hI, hV, hB⟩ := hrel
    obtain ⟨wo, rfl⟩ : ∃ wo : World, wo = wr := ⟨_, rfl⟩
    have lB := hB.out.size
    match td, hI, hV with
    | [], hI, hV =>
      obtain ⟨At, ct, ev, _, _, _⟩ := hV.out
      have hI1 := hI.out
      obtain ⟨r, h1, h2⟩ := hI1.rk
      obtain ⟨_, h3⟩ := rk_nil h1
      obtain rfl : n = R := by omega
      have BF := hid (BW.out.trans ((B3.out.trans (hB.out.mono (by omega))).mono (by omega)))
      rw [ev]
      clear h1 h2 hI1
      go_wp2_with fail
      go_ret2
      exact ⟨rfl, BF.out⟩
    | y :: rest, hI, hV =>
      obtain ⟨At, ct, ev, _, _, _⟩ := hV.out
      have hV1 := hV.out
      rw [ev] at hV1
      obtain ⟨bl, off, rfl, _, l3, l4, lb, ⟨u1, v1, x1, e1, q1, q2, q3, q4, hy⟩, hrest⟩ := gesV_cons hV1
      have HY := hid hy
      have HRS := hid hrest
      have HV1 := hid hV1
      have HI := hid hI.out
      have HRk := hid hI.out.rk
      have EV := hid ev
      rw [ev]
      rw [List.length_cons] at l3 ⊢
      generalize hyG : y = Y at HY HV1 HI HRk hI hV
      obtain ⟨yk, ya, yb, ys⟩ := y
      obtain ⟨A5, c5, rfl, rfl, rfl, rfl, _, _, _⟩ := hy.box
      clear hV1 hy hrest hI hV ev
      go_upto_region 10 with fail
      go_cut [13, 14] (fun pv rv wx => pv = .pointer (some ⟨wo.heap.size, 0, none⟩) ∧ Hid (GesV (fun b => b < wo.heap.size) wx rv rest) ∧ Hid (wx.heap[wo.heap.size]? = some (.cells #[.int .i64 yk, .int .i64 ya, .int .i64 yb, .slice A5 ys.length c5] 24 (0, 0))) ∧ Hid (Below wo.heap.size wo wx))
      case first => as_aux_lemma =>
        by_cases hct : ct = 1
        · have l0 : rest = [] := List.eq_nil_of_length_eq_zero (by omega)
          subst hct l0
          have d4 : (0 : Int) < ((([] : List Ge).length : Nat) : Int) + 1 := by simp
          have d5 : 0 < ([] : List Ge).length + 1 := by simp
          go_region
          go_wp2_with fail
          go_meet
          exact ⟨rfl, ⟨_, 0, rfl, by simp, by omega, fun h => absurd h (by simp)⟩, Has.new wo _, ((Below.refl _ _).alloc (Nat.le_refl _) _).drew⟩
        · have d1 : (ct = 1) = False := by simp [hct]
          have d2 : ((ct : Int) = 1) = False := by simp; omega
          have d3 : (1 : Int) ≤ (ct : Int) := by omega
          have d4 : (0 : Int) < (rest.length : Int) + 1 := by omega
          have d5 : 0 < rest.length + 1 := by omega
          go_region
          go_wp2_with fail
          go_meet
          exact ⟨rfl, HRS.out.keep (fun q hq => Below.heap_alloc _ _ _ hq), Has.new wo _, ((Below.refl _ _).alloc (Nat.le_refl _) _).drew⟩
      case rest =>
      obtain ⟨rfl, hRV, hXB, hBX⟩ := hcut
      obtain ⟨wx, rfl⟩ : ∃ wx : World, wx = wc := ⟨_, rfl⟩
      obtain ⟨Ar, cr, rfl, _, _, _⟩ := hRV.out
      have sx := hBX.out.size
      have sx2 : wo.heap.size < wx.heap.size := Has.lt hXB.out
      have z0 := Has.cell hXB.out 0
      have z1 := Has.cell hXB.out 1
      have z2 := Has.cell hXB.out 2
      have z3 := Has.cell hXB.out 3
      simp at z0 z1 z2 z3
      have HYX : Hid (GeIn (fun b => b < wo.heap.size) wx Y (.int .i64 yk) (.int .i64 ya) (.int .i64 yb) (.slice A5 ys.length c5)) := GeIn.keep (Same.of_below hBX.out fun q hq => hq) _ HY.out
      have WL : Hid (Ges.wt (Y :: rest) ≤ 887503681) := HI.out.wt
      have LR : Hid (rest.length ≤ 887503681) := by have h1 := len_wt (Y :: rest); have h2 := WL.out; rw [List.length_cons] at h1; show _ ≤ _; omega
      have ME : Hid (wtAt (.slice (some ⟨bl, off, none⟩) (rest.length + 1) ct) wo = Ges.wt (Y :: rest)) := by
        have := wtAt_eq HV1.out
        rw [List.length_cons] at this
        exact this
      clear q1 q2 q3 q4
      by_cases k3 : yk = 3
      · subst k3
        have hYe := hyG
        obtain ⟨cs1, cv1, cg1⟩ := (show GesV (fun b => b < wo.heap.size) wx (.slice A5 ys.length c5) ys by rw [← hyG] at HYX; exact HYX.out.sub).cells
        obtain ⟨cs2, cv2, cg2⟩ := hRV.out.cells
        have CV1 := hid cv1
        have CG1 := hid cg1
        have CV2 := hid cv2
        have CG2 := hid cg2
        have IB := hid (show RkInv G.ways R t (ys ++ rest) n at_ ∧ Ges.wt (ys ++ rest) < Ges.wt (Y :: rest) by rw [← hyG]; rw [← hyG] at HI; exact HI.out.both)
        have LY : Hid (ys.length + rest.length ≤ 887503681) := by
          have h1 := len_wt (ys ++ rest); rw [List.length_append] at h1
          have h2 := IB.out.2; have h3 := WL.out
          show _ ≤ _; omega
        have ly := LY.out
        have O0 := hid (World.ownsRow_lit (e := 24) (size := 4) (base := wx.heap.size) wx #[] 0 (Nat.le_refl _) (by unfold maxLen; omega) rfl)
        have C1 := hid (CV1.out.keep (w' := wx.alloc (Obj.cells #[] 24)) (fun b hb => Below.heap_alloc _ _ _ (by omega)))
        obtain ⟨ig, hi0, hz0, hz1, hz2⟩ := info_parts infoGe
        clear cv1 cg1 cv2 cg2 hyG hYe
        go_wp2_with (first
          | (at_builtin; refine wpList_app _ rfl (.tmp 49) (.tmp 51) 22 rfl wx.heap.size 24 ig (.agg #[.int .i64 0, .int .i64 0, .int .i64 0, .slice none 0 0]) 4 48 Tryd.underlying22 hi0 hz0 hz1 hz2 rfl (by decide) _ 0 [] rfl O0.out _ _ ys.length _ rfl C1.out CG1.out.ones (by unfold maxLen; omega) (by omega) (by simp) ?_; intro v1 w1 hown hgrow hat; have R1 := hid (show w1.ownsRow wx.heap.size 24 4 v1 ys.length cs1 from (by simpa using hown)); have G1 : Hid (Below wx.heap.size wx w1) := ((Below.refl _ _).alloc (Nat.le_refl _) _).grown hgrow (by simp) (own_ge O0.out); have C2 := hid (CV2.out.keep (w' := w1) (fun b hb => G1.out.block b (by omega))); have S1 := G1.out.size; obtain ⟨Av, cv, rfl⟩ := own_slice3 R1.out; clear hown hgrow hat)
          | (at_builtin; refine wpList_app _ rfl (.tmp 52) (.tmp 53) 22 rfl wx.heap.size 24 ig (.agg #[.int .i64 0, .int .i64 0, .int .i64 0, .slice none 0 0]) 4 48 Tryd.underlying22 hi0 hz0 hz1 hz2 rfl (by decide) _ ys.length cs1 rfl R1.out _ _ rest.length _ rfl C2.out CG2.out.ones (by unfold maxLen; omega) (by omega) S1 ?_; intro v2 w2' hown hgrow hat; have R2 := hid hown; have G2 := hid hgrow; clear hown hgrow hat))
        have B9 : Hid (Below wx.heap.size wx w2') := G1.out.grown G2.out S1 (own_ge R1.out)
        have BO : Hid (Below wo.heap.size wo w2') := hBX.out.trans (B9.out.mono sx)
        have V9 : Hid (GesV (fun b => b < w2'.heap.size) w2' v2 (ys ++ rest)) := by
          have SB : Same (fun b => b < wo.heap.size) wx w2' := fun q hq => B9.out.block q (by omega)
          have sz := BO.out.size
          exact gesV_own (F := fun b => b < wo.heap.size) (by rw [List.length_append]; exact R2.out) ((CG1.out.keep SB).append (CG2.out.keep SB)) (fun b hb => by omega) (own_lt R2.out)
        have NI := hid IB.out.1
        have NW := hid IB.out.2
        have BN := hid (hB.out.trans (BO.out.mono lB))
        clear R1 G1 C2 R2 G2 S1 O0 C1 CV1 CG1 CV2 CG2 B9
        go_roundw
        case rel => exact ⟨n, at_, ys ++ rest, rfl, rfl, NI, V9, BN⟩
        case measure => rw [wtAt_eq V9.out, ME.out]; exact NW.out
      · have GY := hid (HI.out.good Y (by simp))
        have WX : Hid (Below w.heap.size w wx) := BW.out.trans ((B3.out.trans ((hB.out.trans (hBX.out.mono lB)).mono (by omega))).mono (by omega))
        have BA := hid (branches_good Y GY.out (by rw [← hyG]; exact k3))
        go_wp2_with fail
        refine (BA.out _ _ _ _ wx (GeIn.more (fun q hq => by omega) _ HYX.out)).mono ?_
        rintro e w3 ⟨bv, rfl, hbv, hbn, hb3⟩
        have B4 := hid hb3
        have s3 := hb3.size
        have V3 := hid ((hRV.out.keep (fun q hq => hb3.block q (by omega))).more (F' := fun b => b < w3.heap.size) (fun q hq => by omega))
        have BO : Hid (Below wo.heap.size wo w3) := hBX.out.trans (hb3.mono sx)
        have BN := hid (hB.out.trans (BO.out.mono lB))
        clear z0 z1 z2 z3 hb3
        by_cases k1 : yk = 1
        · subst k1
          have e0 : Y.brs = [] := by rw [← hyG, Ge.brs, if_neg (by decide), if_neg (by decide), if_neg (by decide)]
          have IB := hid (show RkInv G.ways R t rest n at_ ∧ Ges.wt rest < Ges.wt (Y :: rest) by rw [← hyG]; rw [← hyG] at HI; exact HI.out.just)
          rw [hbn e0]
          clear hbn hbv e0 hyG
          have NI := hid IB.out.1
          have NW := hid IB.out.2
          have eqn := fun w => Lib.run_eql_slice_nil (P := Tryd.prog) w 66 22 none 0 0 0 0 Tryd.underlying66
          go_wp2_with fail
          go_roundw
          case rel => exact ⟨n, at_, rest, rfl, rfl, NI, V3, BN⟩
          case measure => rw [wtAt_eq V3.out, ME.out]; exact NW.out
        · have PK := hid (show ∃ (j : Nat) (hj : j < Y.brs.length) (ht : at_ < t.length), t[at_] = (j : Int) ∧ Y.brs.length ≤ 1001 ∧
              (∀ i, i < j → n + Ges.prod rest * sumTo Y.brs i ≤ G.ways) ∧ (∀ i (hi : i < Y.brs.length), n + Ges.prod rest * sumTo Y.brs i + Ges.prod rest * Ges.prod Y.brs[i] ≤ G.ways ∧ Ges.prod rest * Ges.prod Y.brs[i] ≤ G.ways ∧ Ges.prod Y.brs[i] ≤ G.ways ∧ ∀ y ∈ Y.brs[i], GoodG y) ∧ Ges.prod rest ≤ G.ways ∧
              RkInv G.ways R t (Y.brs[j] ++ rest) (n + Ges.prod rest * sumTo Y.brs j) (at_ + 1) ∧ Ges.wt (Y.brs[j] ++ rest) < Ges.wt (Y :: rest) by
            rw [← hyG] at HI
            subst hyG
            exact HI.out.pick k1 k3)
          have HGR := hid (fun y hy => HI.out.good y (List.mem_cons_of_mem _ hy) : ∀ y ∈ rest, GoodG y)
          generalize hbr : Y.brs = br at *
          obtain ⟨j, hj, ht, p1, p2, p3, p4, p5, p6, p7⟩ := PK.out
          obtain ⟨Ab, cb, rfl, b1, b2, b3⟩ := hbv
          obtain ⟨bb, bo, rfl, lbb, hbc⟩ := b3 (by omega)
          obtain ⟨tb, toff, rfl, ltb, htc⟩ := TC.out (by omega)
          have HBC := hid hbc
          have P3 := hid p3
          have P4 := hid p4
          have P5 := hid p5
          have P6 := hid p6
          have P7 := hid p7
          have HJ := hid hj
          have t0 : w3.cell? ⟨tb, toff + at_, none⟩ = some (.int .i64 (j : Int)) := by
            have h1 := htc at_ ht
            rw [List.getD_eq_getElem?_getD, List.getElem?_eq_getElem ht] at h1
            simp only [Option.getD_some, p1] at h1
            have l1 := HF.out _ ltb
            exact (B4.out.cell (p := ⟨tb, toff + at_, none⟩) (by show tb < _; omega)).trans ((WX.out.cell (p := ⟨tb, toff + at_, none⟩) l1).trans h1)
          have eqn := fun w => Lib.run_eql_slice_nil (P := Tryd.prog) w 66 22 (some ⟨bb, bo, none⟩) br.length cb 0 0 Tryd.underlying66
          clear hbn hbr hyG PK p1 p3 p4 p5 p6 p7 hbc htc b3 BA
          go_wp2_with fail
          refine (product_any rest HGR.out (Nat.le_trans P5.out GW.out) (fun b => b < w3.heap.size) _ w3 (fun q hq => hq) V3.out).mono ?_
          rintro e w4 ⟨rfl, hb4⟩
          have B5 := hid hb4
          have s4 := hb4.size
          have t1 := (B5.out.cell (p := ⟨tb, toff + at_, none⟩) (cell_lt t0)).trans t0
          have V4 := hid ((V3.out.keep (fun q hq => hb4.block q hq)).more (F' := fun b => b < w4.heap.size) (fun q hq => by omega))
          have d1 : (at_ : Int) < (t.length : Int) := by omega
          have d2 : (j : Int) ≤ (cb : Int) := by omega
          have HT4 := hid t1
          have HATl := hid ht
          obtain ⟨pr, hpr⟩ : ∃ pr, pr = Ges.prod rest := ⟨_, rfl⟩
          rw [← hpr] at P3 P4 P5 P6 ⊢
          clear hb4 t0 hpr
          go_wp2_with fail
          clear t1
          go_loopw [10, 69] (fun nv iv wr => ∃ i : Nat, i ≤ j ∧ nv = .int .i64 ((n + pr * sumTo br i : Nat) : Int) ∧ iv = .int .i64 i ∧ Hid (Below w4.heap.size w4 wr)) (fun _ iv _ => j - (intOf iv).toNat)
          case atStart => exact ⟨0, Nat.zero_le _, by rw [sumTo, Nat.mul_zero, Nat.add_zero], rfl, Below.refl _ _⟩
          case round =>
            obtain ⟨i, hi, rfl, rfl, hBi⟩ := hrel
            obtain ⟨wi, rfl⟩ : ∃ wi : World, wi = wr := ⟨_, rfl⟩
            have si := hBi.out.size
            have B6 := hid (B5.out.trans (hBi.out.mono s4))
            by_cases hlt : i < j
            · have hib := Nat.lt_trans hlt hj
              obtain ⟨r, c1, v1⟩ := HBC.out i hib
              obtain ⟨g1, g2, g3, g4⟩ := P4.out i hib
              have V1 := hid ((v1.keep (w' := wi) (fun q hq => B6.out.block q hq)).more (F' := fun b => b < wi.heap.size) (fun q hq => by omega))
              have c2 := (B6.out.cell (p := ⟨bb, bo + i, none⟩) lbb).trans c1
              obtain ⟨Ai, ci, rfl, -, -, -⟩ := v1
              have PM := hid (product_any (br[i]'hib) g4 (Nat.le_trans g3 GW.out))
              have SS : Hid (((n + pr * sumTo br (i + 1) : Nat) : Int) = ((n + pr * sumTo br i : Nat) : Int) + (pr : Int) * ((Ges.prod (br[i]'hib) : Nat) : Int)) := by
                show _ = _
                rw [sumTo_succ br i hib, Nat.mul_add, ← Nat.add_assoc, Int.natCast_add, Int.natCast_mul]
              have w1' := wrap_prod (Nat.le_trans P5.out (Nat.le_trans GW.out (by omega : 1048576 ≤ 1048577))) (Nat.le_trans g3 (Nat.le_trans GW.out (by omega : 1048576 ≤ 1048577)))
              have w2' := wrap_acc (Nat.le_trans g1 GW.out)
              have i1 : (i : Int) < (j : Int) := by omega
              obtain ⟨x, hx⟩ : ∃ x, x = br[i]'hib := ⟨_, rfl⟩
              rw [← hx] at V1 PM SS w1' w2' c2
              generalize n + pr * sumTo br i = ni at *
              generalize hxm : Ges.prod x = xm at *
              clear hx c1 g1 g2 g3 g4 hib hxm
              go_wp2_with fail
              refine (PM.out (fun b => b < wi.heap.size) _ wi (fun q hq => hq) V1.out).mono ?_
              rintro e w5 ⟨rfl, hb5⟩
              have B7 := hid (hBi.out.trans (hb5.mono si))
              clear hb5 c2
              go_wp2_with fail
              go_roundw
              case rel => exact ⟨i + 1, by omega, by rw [SS.out]; first | rfl | rw [w2'], by go_num, B7⟩
              case measure => simp [intOf]; omega
            · obtain rfl : i = j := by omega
              have t1 := (hBi.out.cell (p := ⟨tb, toff + at_, none⟩) (cell_lt HT4.out)).trans HT4.out
              obtain ⟨r, c1, v1⟩ := HBC.out i hj
              have c2 := (B6.out.cell (p := ⟨bb, bo + i, none⟩) lbb).trans c1
              have V1 := hid ((v1.keep (w' := wi) (fun q hq => B6.out.block q hq)))
              have V2 := hid ((V3.out.keep (w' := wi) (fun q hq => B6.out.block q hq)))
              obtain ⟨Ai, ci, rfl, -, -, -⟩ := v1
              have LY : Hid ((br[i]'hj).length + rest.length ≤ 887503681) := by
                have h1 := len_wt (br[i]'hj ++ rest); rw [List.length_append] at h1
                have h2 := P7.out; have h3 := WL.out
                show _ ≤ _; omega
              obtain ⟨x, hx⟩ : ∃ x, x = br[i]'hj := ⟨_, rfl⟩
              rw [← hx] at V1 LY P6 P7 c2
              generalize hni : n + pr * sumTo br i = ni at *
              obtain ⟨cs1, cv1, cg1⟩ := V1.out.cells
              obtain ⟨cs2, cv2, cg2⟩ := V2.out.cells
              have CV1 := hid cv1
              have CG1 := hid cg1
              have CV2 := hid cv2
              have CG2 := hid cg2
              have ly := LY.out
              have O0 := hid (World.ownsRow_lit (e := 24) (size := 4) (base := wi.heap.size) wi #[] 0 (Nat.le_refl _) (by unfold maxLen; omega) rfl)
              have C1 := hid (CV1.out.keep (w' := wi.alloc (Obj.cells #[] 24)) (fun b hb => Below.heap_alloc _ _ _ (by omega)))
              obtain ⟨ig, hi0, hz0, hz1, hz2⟩ := info_parts infoGe
              have i1 : (i : Int) < (br.length : Int) := by omega
              have ltb2 : tb < wi.heap.size := cell_lt t1
              have lbb2 : bb < wi.heap.size := cell_lt c2
              clear cv1 cg1 cv2 cg2 hx hni c1
              go_wp2_with (first
                | (at_builtin; refine wpList_app _ rfl (.tmp 80) (.tmp 87) 22 rfl wi.heap.size 24 ig (.agg #[.int .i64 0, .int .i64 0, .int .i64 0, .slice none 0 0]) 4 48 Tryd.underlying22 hi0 hz0 hz1 hz2 rfl (by decide) _ 0 [] rfl O0.out _ _ x.length _ rfl C1.out CG1.out.ones (by unfold maxLen; omega) (by omega) (by simp) ?_; intro v1 w1 hown hgrow hat; have R1 := hid (show w1.ownsRow wi.heap.size 24 4 v1 x.length cs1 from (by simpa using hown)); have G1 : Hid (Below wi.heap.size wi w1) := ((Below.refl _ _).alloc (Nat.le_refl _) _).grown hgrow (by simp) (own_ge O0.out); have C2 := hid (CV2.out.keep (w' := w1) (fun b hb => G1.out.block b (by omega))); have S1 := G1.out.size; obtain ⟨Av, cv, rfl⟩ := own_slice3 R1.out; clear hown hgrow hat)
                | (at_builtin; refine wpList_app _ rfl (.tmp 88) (.tmp 89) 22 rfl wi.heap.size 24 ig (.agg #[.int .i64 0, .int .i64 0, .int .i64 0, .slice none 0 0]) 4 48 Tryd.underlying22 hi0 hz0 hz1 hz2 rfl (by decide) _ x.length cs1 rfl R1.out _ _ rest.length _ rfl C2.out CG2.out.ones (by unfold maxLen; omega) (by omega) S1 ?_; intro v2 w2' hown hgrow hat; have R2 := hid hown; have G2 := hid hgrow; clear hown hgrow hat))
              have B9 : Hid (Below wi.heap.size wi w2') := G1.out.grown G2.out S1 (own_ge R1.out)
              have V9 : Hid (GesV (fun b => b < w2'.heap.size) w2' v2 (x ++ rest)) := by
                have SB : Same (fun b => b < w3.heap.size) wi w2' := fun q hq => B9.out.block q (by omega)
                have sz := B9.out.size
                exact gesV_own (F := fun b => b < w3.heap.size) (by rw [List.length_append]; exact R2.out) ((CG1.out.keep SB).append (CG2.out.keep SB)) (fun b hb => by omega) (own_lt R2.out)
              have BQ := hid (BN.out.trans ((B6.out.trans (B9.out.mono B6.out.size)).mono BN.out.size))
              clear R1 G1 C2 R2 G2 S1 O0 C1 CV1 CG1 CV2 CG2 B9 c2 t1
              go_roundw
              case rel => exact ⟨ni, at_ + 1, x ++ rest, rfl, by go_num, P6, V9, BQ⟩
              case measure => rw [wtAt_eq V9.out, ME.out]; exact P7.out
end Go.Proofs.YtopehfmppfibhaaDoor
