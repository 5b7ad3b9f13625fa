/- What rank.Nth returns. No conditions. -/
import Derived.Test.YtopehfmppfibhaaDoorRkf
import Derived.Test.YtopehfmppfibhaaDoorNtl
import Derived.Test.YtopehfmppfibhaaDoorGrp
import Derived.BigRegion
import Derived.Deep.DeepCutAuto
import Derived.Lib.SliceRun
namespace Go.Proofs.YtopehfmppfibhaaDoor
open Go.RowKit Go.Deep
def NthPost (g : Ge) (i : Int) (w : World) (e : Ending) (w' : World) : Prop := ∃ v, e = .returned (.tuple #[v, errV (nthE g i)]) ∧ w'.ownsRow w.heap.size 3 1 v (nthL g i).length ((nthL g i).map (Value.int .i64)) ∧ Below w.heap.size w w'
/-- a row of the call's own, and the one block that it may lie in -/
structure OutAt (B d : Nat) (v : Value) (zs : List Int) (w : World) : Prop where
  own : w.ownsRow B 3 1 v zs.length (zs.map (Value.int .i64))
  lt : d < w.heap.size
  ge : B ≤ d
  at_ : ∀ b, v.ownBlock = some b → b = d
theorem OutAt.below {B d : Nat} {v : Value} {zs : List Int} {w w' : World} (h : OutAt B d v zs w) (hb : Below w.heap.size w w') : OutAt B d v zs w' :=
  ⟨own_below h.own hb, Nat.lt_of_lt_of_le h.lt hb.size, h.ge, h.at_⟩
theorem OutAt.snoc {B d : Nat} {v v5 : Value} {zs : List Int} {z : Int} {w w5 : World} (hB : B ≤ w.heap.size) (h : OutAt B d v zs w) (hown : w5.ownsRow B 3 1 v5 (zs.length + 1) (zs.map (Value.int .i64) ++ [.int .i64 z])) (hgrow : w.grownBy w5 v.ownBlock) (hat : v5.ownBlock = v.ownBlock ∨ v5.ownBlock = some w.heap.size) :
    ∃ d', OutAt B d' v5 (zs ++ [z]) w5 ∧ (∀ b, b < w.heap.size ∧ b ≠ d → b < w5.heap.size ∧ b ≠ d') ∧ Same (fun b => b < w.heap.size ∧ b ≠ d) w w5 ∧ Below B w w5 := by
  have s5 := hgrow.size
  have SM : Same (fun b => b < w.heap.size ∧ b ≠ d) w w5 := fun b hb => hgrow.block b hb.1 fun e => hb.2 (h.at_ b e.symm)
  have BB : Below B w w5 := (Below.refl _ _).grown hgrow hB fun k hk => own_ge h.own k hk
  have hown' : w5.ownsRow B 3 1 v5 (zs ++ [z]).length ((zs ++ [z]).map (Value.int .i64)) := by
    rw [List.length_append, List.map_append]; exact hown
  rcases hat with ha | ha
  · exact ⟨d, ⟨hown', Nat.lt_of_lt_of_le h.lt s5, h.ge, fun b hb => h.at_ b (ha.symm.trans hb)⟩, fun b hb => ⟨by omega, hb.2⟩, SM, BB⟩
  · exact ⟨w.heap.size, ⟨hown', own_lt hown _ ha, hB, fun b hb => by rw [ha] at hb; injection hb with hb; exact hb.symm⟩, fun b hb => ⟨by omega, by omega⟩, SM, BB⟩
set_option maxRecDepth 100000 in
set_option maxHeartbeats 4000000 in
theorem nth_ok (g : Ge) (i0 : Nat) (t : List Int) (F : Nat → Prop) (u v x c : Value) (w : World) (hF : ∀ b, F b → b < w.heap.size) (hx : GeIn F w g u v x c) (hc : cntE g = 0) (hi : i0 < g.ways) (hk : Rk [g] t i0) :
    Calls Tryd.prog 17 #[.agg #[u, v, x, c], .int .i64 (i0 : Int)] w fun e w' => ∃ v, e = .returned (.tuple #[v, .nilIface]) ∧ w'.ownsRow w.heap.size 3 1 v t.length (t.map (Value.int .i64)) ∧ Below w.heap.size w w' := by
  have HX := hid (GeIn.more (F' := fun b => b < w.heap.size) hF _ hx)
  obtain ⟨c1, c2, c3⟩ := cnt_good hc
  have GG := hid c1
  have GW := hid c2
  have GN := hid c3
  have CA := hid (count_any g)
  have HC := hid hc
  have HI0 := hid hi
  have hgood : ∀ y ∈ [g], GoodG y := fun y hy => by simp at hy; subst hy; exact c1
  have hwt : Ges.wt [g] ≤ 31 ^ 6 := by
    have := wt_high g 6 c1.high (Ge.parts_wide g 0 (chkG_good (goodG_chk c1)).1) c1.right
    rw [Ges.wt, Ges.wt]; omega
  have TL : Hid (t.length ≤ 887503681) := by have h1 := (rk_lt hk hgood).2.1; show _ ≤ _; omega
  have I0 : Hid (NtInv g.ways t [g] i0 0) := ⟨Nat.zero_le _, by rw [List.drop_zero]; exact hk, by rw [prod_one]; exact Nat.le_refl _, hgood, hwt⟩
  have tl := TL.out
  clear hgood hwt hk hi
  generalize hG : g = G at HX GG GW GN CA HC HI0 I0
  obtain ⟨k, a, b, s⟩ := g
  obtain ⟨A, cp, rfl, rfl, rfl, rfl, _, _, _⟩ := hx.box
  obtain ⟨W, hW⟩ : ∃ W, W = w.alloc (.cells #[.int .i64 k, .int .i64 a, .int .i64 b, .slice A s.length cp] 24) := ⟨_, rfl⟩
  have SW : W.heap.size = w.heap.size + 1 := by rw [hW]; simp
  have BW : Hid (Below w.heap.size w W) := by show Below _ _ _; rw [hW]; exact (Below.refl _ _).alloc (Nat.le_refl _) _
  have X0 := hid (Has.new w (.cells #[.int .i64 k, .int .i64 a, .int .i64 b, .slice A s.length cp] 24))
  rw [← hW] at X0
  have HW := hid hW
  have HF := hid hF
  have n1 : (i0 : Int) < (G.ways : Int) := by have := HI0.out; omega
  have n2 : ¬ ((G.ways : Int) ≤ (i0 : Int)) := by omega
  have n3 : ¬ ((i0 : Int) < 0) := by omega
  clear hF hx hc c1 c2 c3 hG hW
  go_enter Tryd.func17, Tryd.ntmps17
  go_wp2_with fail
  rw [← HW.out]
  refine (CA.out (fun b => b < w.heap.size) _ _ _ _ _ (fun q hq => by omega) (GeIn.keep (Same.of_below BW.out fun q hq => hq) _ HX.out)).mono ?_
  rintro e w1 ⟨rfl, hb1⟩
  rw [HC.out, errV_0, GN.out]
  have B1 := hid hb1
  have X1 := Has.below X0.out hb1 (by omega)
  have x0 := Has.cell X1 0
  have x1 := Has.cell X1 1
  have x2 := Has.cell X1 2
  have x3 := Has.cell X1 3
  simp at x0 x1 x2 x3
  have s1 := hb1.size
  clear hb1 X1
  go_wp2_with fail
  have d0 : decide ((i0 : Int) < 0) = false := decide_eq_false (by omega)
  have d9 : decide (G.ways ≤ i0) = false := decide_eq_false (by have := HI0.out; omega)
  simp only [d0, d9, Bool.or_false]
  clear d0 d9 n1 n2 n3
  obtain ⟨we, hwc⟩ : ∃ we, we = w1.alloc (.cells #[.int .i64 k, .int .i64 a, .int .i64 b, .slice A s.length cp] 24) := ⟨_, rfl⟩
  have sc : we.heap.size = w1.heap.size + 1 := by rw [hwc]; simp
  have B3 : Hid (Below W.heap.size W we) := by show Below _ _ _; rw [hwc]; exact B1.out.alloc s1 _
  have V0 : Hid (GesV (fun b => b < we.heap.size ∧ b ≠ w.heap.size) we (.slice (some ⟨w1.heap.size, 0, none⟩) 1 1) [G]) := by
    have X1 := Has.newAt (g := w1.heap.size) w1 (.cells #[.int .i64 k, .int .i64 a, .int .i64 b, .slice A s.length cp] 24) (by omega)
    rw [← hwc] at X1
    refine ⟨_, 1, rfl, by simp, by omega, fun _ => ⟨w1.heap.size, 0, rfl, ⟨by omega, by omega⟩, GesIn.mk_ fun j hj => ?_⟩⟩
    obtain rfl : j = 0 := by simpa using hj
    exact ⟨_, _, _, _, (Has.cell X1 0).trans rfl, (Has.cell X1 1).trans rfl, (Has.cell X1 2).trans rfl, (Has.cell X1 3).trans rfl, GeIn.more (fun q hq => ⟨by omega, by omega⟩) _ (GeIn.keep (fun q hq => (B3.out.block q (by omega)).trans (BW.out.block q hq)) _ HX.out)⟩
  have O00 : Hid (OutAt w.heap.size w.heap.size (.slice none 0 0) [] we) := ⟨World.ownsRow_nil _ _ _ _, by omega, Nat.le_refl _, fun b hb => by cases hb⟩
  have HWC := hid hwc
  clear x0 x1 x2 x3 hwc
  go_loopw [1, 8, 9] (fun nv ov tdv wr => ∃ (n m d : Nat) (td : List Ge) (tm : List Int), nv = .int .i64 n ∧ Hid (tm = t.take m) ∧ Hid (OutAt w.heap.size d ov tm wr) ∧ Hid (NtInv G.ways t td n m) ∧ Hid (GesV (fun b => b < wr.heap.size ∧ b ≠ d) wr tdv td) ∧ Hid (Below w.heap.size w wr)) (fun _ _ tdv wr => wtAt tdv wr)
  case atStart => rw [← HWC.out]; exact ⟨i0, 0, w.heap.size, [G], [], rfl, rfl, O00, I0, V0, BW.out.trans (B3.out.mono (by omega))⟩
  case round =>
    obtain ⟨n, m, d, td, tm, rfl, hTM, hO, hI, hV, hB⟩ := hrel
    obtain ⟨wo, rfl⟩ : ∃ wo : World, wo = wr := ⟨_, rfl⟩
    have lB := hB.out.size
    obtain ⟨Ao, co, rfl⟩ := own_slice3 hO.out.own
    match td, hI, hV with
    | [], hI, hV =>
      obtain ⟨At, ct, ev, _, _, _⟩ := hV.out
      have h1 := hI.out.rk
      have h2 := (rk_nil h1).1
      have h3 : t.take m = t := List.take_of_length_le (by rw [List.drop_eq_nil_iff] at h2; exact h2)
      have FO := hid hO.out.own
      have h4 := hTM.out
      rw [h3] at h4
      subst h4
      rw [ev]
      clear h1 h2 h3 hTM
      go_wp2_with fail
      go_ret2
      exact ⟨_, rfl, FO.out, hB.out⟩
    | y :: rest, hI, hV =>
      obtain ⟨At, ct, ev, _, _, _⟩ := hV.out
      have hV1 := hV.out
      rw [ev] at hV1
      obtain ⟨bl, off, rfl, _, l3, l4, lb, ⟨u1, v1, x1, e1, q1, q2, q3, q4, hy⟩, hrest⟩ := gesV_cons hV1
      have LBB := hid lb
      have HY := hid hy
      have HRS := hid hrest
      have HV1 := hid hV1
      have HI := hid hI.out
      have EV := hid ev
      rw [ev]
      rw [List.length_cons] at l3 ⊢
      generalize hyG : y = Y at HY HV1 HI hI hV
      obtain ⟨yk, ya, yb, ys⟩ := y
      obtain ⟨A5, c5, rfl, rfl, rfl, rfl, _, _, _⟩ := hy.box
      have dlt := hO.out.lt
      have dge := hO.out.ge
      replace lb := lb.1
      clear hV1 hy hrest hI hV ev
      go_upto_region 9 with fail
      go_cut [10, 11] (fun pv rv wx => pv = .pointer (some ⟨wo.heap.size, 0, none⟩) ∧ Hid (GesV (fun b => b < wo.heap.size ∧ b ≠ d) wx rv rest) ∧ Hid (wx.heap[wo.heap.size]? = some (.cells #[.int .i64 yk, .int .i64 ya, .int .i64 yb, .slice A5 ys.length c5] 24 (0, 0))) ∧ Hid (Below wo.heap.size wo wx))
      case first => as_aux_lemma =>
        by_cases hct : ct = 1
        · have l0 : rest = [] := List.eq_nil_of_length_eq_zero (by omega)
          subst hct l0
          have d4 : (0 : Int) < ((([] : List Ge).length : Nat) : Int) + 1 := by simp
          have d5 : 0 < ([] : List Ge).length + 1 := by simp
          go_region
          go_wp2_with fail
          go_meet
          exact ⟨rfl, ⟨_, 0, rfl, by simp, by omega, fun h => absurd h (by simp)⟩, Has.new wo _, ((Below.refl _ _).alloc (Nat.le_refl _) _).drew⟩
        · have d1 : (ct = 1) = False := by simp [hct]
          have d2 : ((ct : Int) = 1) = False := by simp; omega
          have d3 : (1 : Int) ≤ (ct : Int) := by omega
          have d4 : (0 : Int) < (rest.length : Int) + 1 := by omega
          have d5 : 0 < rest.length + 1 := by omega
          go_region
          go_wp2_with fail
          go_meet
          exact ⟨rfl, HRS.out.keep (fun q hq => Below.heap_alloc _ _ _ hq.1), Has.new wo _, ((Below.refl _ _).alloc (Nat.le_refl _) _).drew⟩
      case rest =>
      obtain ⟨rfl, hRV, hXB, hBX⟩ := hcut
      obtain ⟨wx, rfl⟩ : ∃ wx : World, wx = wc := ⟨_, rfl⟩
      obtain ⟨Ar, cr, rfl, _, _, _⟩ := hRV.out
      have sx := hBX.out.size
      have sx2 : wo.heap.size < wx.heap.size := Has.lt hXB.out
      have z0 := Has.cell hXB.out 0
      have z1 := Has.cell hXB.out 1
      have z2 := Has.cell hXB.out 2
      have z3 := Has.cell hXB.out 3
      simp at z0 z1 z2 z3
      have HYX : Hid (GeIn (fun b => b < wo.heap.size ∧ b ≠ d) wx Y (.int .i64 yk) (.int .i64 ya) (.int .i64 yb) (.slice A5 ys.length c5)) := GeIn.keep (Same.of_below hBX.out fun q hq => hq.1) _ HY.out
      have OX := hid (hO.out.below hBX.out)
      have WL : Hid (Ges.wt (Y :: rest) ≤ 887503681) := HI.out.wt
      have LR : Hid (rest.length ≤ 887503681) := by have h1 := len_wt (Y :: rest); have h2 := WL.out; rw [List.length_cons] at h1; show _ ≤ _; omega
      have ME : Hid (wtAt (.slice (some ⟨bl, off, none⟩) (rest.length + 1) ct) wo = Ges.wt (Y :: rest)) := by
        have := wtAt_eq HV1.out
        rw [List.length_cons] at this
        exact this
      clear q1 q2 q3 q4
      by_cases k3 : yk = 3
      · subst k3
        obtain ⟨cs1, cv1, cg1⟩ := (show GesV (fun b => b < wo.heap.size ∧ b ≠ d) wx (.slice A5 ys.length c5) ys by rw [← hyG] at HYX; exact HYX.out.sub).cells
        obtain ⟨cs2, cv2, cg2⟩ := hRV.out.cells
        have CV1 := hid cv1
        have CG1 := hid cg1
        have CV2 := hid cv2
        have CG2 := hid cg2
        have IB := hid (show NtInv G.ways t (ys ++ rest) n m ∧ Ges.wt (ys ++ rest) < Ges.wt (Y :: rest) by rw [← hyG]; rw [← hyG] at HI; exact HI.out.both)
        have LY : Hid (ys.length + rest.length ≤ 887503681) := by
          have h1 := len_wt (ys ++ rest); rw [List.length_append] at h1
          have h2 := IB.out.2; have h3 := WL.out
          show _ ≤ _; omega
        have ly := LY.out
        have O0 := hid (World.ownsRow_lit (e := 24) (size := 4) (base := wx.heap.size) wx #[] 0 (Nat.le_refl _) (by unfold maxLen; omega) rfl)
        have C1 := hid (CV1.out.keep (w' := wx.alloc (Obj.cells #[] 24)) (fun b hb => Below.heap_alloc _ _ _ (by omega)))
        obtain ⟨ig, hi0, hz0, hz1, hz2⟩ := info_parts infoGe
        clear cv1 cg1 cv2 cg2 hyG
        go_wp2_with (first
          | (at_builtin; refine wpList_app _ rfl (.tmp 45) (.tmp 47) 22 rfl wx.heap.size 24 ig (.agg #[.int .i64 0, .int .i64 0, .int .i64 0, .slice none 0 0]) 4 48 Tryd.underlying22 hi0 hz0 hz1 hz2 rfl (by decide) _ 0 [] rfl O0.out _ _ ys.length _ rfl C1.out CG1.out.ones (by unfold maxLen; omega) (by omega) (by simp) ?_; intro v1 w1 hown hgrow hat; have R1 := hid (show w1.ownsRow wx.heap.size 24 4 v1 ys.length cs1 from (by simpa using hown)); have G1 : Hid (Below wx.heap.size wx w1) := ((Below.refl _ _).alloc (Nat.le_refl _) _).grown hgrow (by simp) (own_ge O0.out); have C2 := hid (CV2.out.keep (w' := w1) (fun b hb => G1.out.block b (by omega))); have S1 := G1.out.size; obtain ⟨Av, cv, rfl⟩ := own_slice3 R1.out; clear hown hgrow hat)
          | (at_builtin; refine wpList_app _ rfl (.tmp 48) (.tmp 49) 22 rfl wx.heap.size 24 ig (.agg #[.int .i64 0, .int .i64 0, .int .i64 0, .slice none 0 0]) 4 48 Tryd.underlying22 hi0 hz0 hz1 hz2 rfl (by decide) _ ys.length cs1 rfl R1.out _ _ rest.length _ rfl C2.out CG2.out.ones (by unfold maxLen; omega) (by omega) S1 ?_; intro v2 w2' hown hgrow hat; have R2 := hid hown; have G2 := hid hgrow; clear hown hgrow hat))
        have B9 : Hid (Below wx.heap.size wx w2') := G1.out.grown G2.out S1 (own_ge R1.out)
        have BO : Hid (Below wo.heap.size wo w2') := hBX.out.trans (B9.out.mono sx)
        have V9 : Hid (GesV (fun b => b < w2'.heap.size ∧ b ≠ d) w2' v2 (ys ++ rest)) := by
          have SB : Same (fun b => b < wo.heap.size ∧ b ≠ d) wx w2' := fun q hq => B9.out.block q (by omega)
          have sz := BO.out.size
          exact gesV_own (F := fun b => b < wo.heap.size ∧ b ≠ d) (by rw [List.length_append]; exact R2.out) ((CG1.out.keep SB).append (CG2.out.keep SB)) (fun b hb => ⟨by omega, hb.2⟩) (fun b hb => ⟨own_lt R2.out b hb, by have := own_ge R2.out b hb; omega⟩)
        have NI := hid IB.out.1
        have NW := hid IB.out.2
        have BN := hid (hB.out.trans (BO.out.mono lB))
        have O9 := hid (OX.out.below B9.out)
        clear R1 G1 C2 R2 G2 S1 O0 C1 CV1 CG1 CV2 CG2 B9
        go_roundw
        case rel => exact ⟨n, m, d, ys ++ rest, tm, rfl, hTM, O9, NI, V9, BN⟩
        case measure => rw [wtAt_eq V9.out, ME.out]; exact NW.out
      · have GY := hid (HI.out.good Y (by simp))
        have HGR := hid (fun y hy => HI.out.good y (List.mem_cons_of_mem _ hy) : ∀ y ∈ rest, GoodG y)
        have P5 : Hid (Ges.prod rest ≤ G.ways) := by
          have h1 := HI.out.sum
          rw [Ges.prod] at h1
          have h2 := Nat.le_mul_of_pos_left (Ges.prod rest) GY.out.ways
          show _ ≤ _; omega
        have BA := hid (branchesD_good Y GY.out (by rw [← hyG]; exact k3))
        have V2 := hid (hRV.out.more (F' := fun b => b < wx.heap.size) (fun q hq => by omega))
        go_wp2_with fail
        refine (product_any rest HGR.out (Nat.le_trans P5.out GW.out) (fun b => b < wx.heap.size) _ wx (fun q hq => hq) V2.out).mono ?_
        rintro e w2 ⟨rfl, hb2⟩
        have B4 := hid hb2
        have s2 := hb2.size
        have XB2 := Has.below hXB.out hb2 sx2
        have y0 := Has.cell XB2 0
        have y1 := Has.cell XB2 1
        have y2 := Has.cell XB2 2
        have y3 := Has.cell XB2 3
        simp at y0 y1 y2 y3
        have HY2 : Hid (GeIn (fun b => b < w2.heap.size ∧ b ≠ d) w2 Y (.int .i64 yk) (.int .i64 ya) (.int .i64 yb) (.slice A5 ys.length c5)) := GeIn.more (fun q hq => ⟨by omega, hq.2⟩) _ (GeIn.keep (fun q hq => hb2.block q (by omega)) _ HYX.out)
        clear z0 z1 z2 z3 hb2 XB2
        go_wp2_with fail
        refine (BA.out _ _ _ _ w2 d (by omega) HY2.out).mono ?_
        rintro e w3 ⟨bv, rfl, hbv, hbn, hb3⟩
        have B5 := hid (B4.out.trans (hb3.mono s2))
        have s3 := hb3.size
        have V3 := hid ((hRV.out.keep (fun q hq => B5.out.block q (by omega))).more (F' := fun b => b < w3.heap.size ∧ b ≠ d) (fun q hq => ⟨by omega, hq.2⟩))
        have BO : Hid (Below wo.heap.size wo w3) := hBX.out.trans (B5.out.mono sx)
        have BN := hid (hB.out.trans (BO.out.mono lB))
        have O3 := hid (OX.out.below B5.out)
        clear y0 y1 y2 y3 hb3 hbn
        obtain ⟨pr, hpr⟩ : ∃ pr, pr = Ges.prod rest := ⟨_, rfl⟩
        rw [← hpr]
        by_cases k1 : yk = 1
        · subst k1
          have e0 : Y.brs = [] := by rw [← hyG, Ge.brs, if_neg (by decide), if_neg (by decide), if_neg (by decide)]
          have IB := hid (show NtInv G.ways t rest n m ∧ Ges.wt rest < Ges.wt (Y :: rest) by rw [← hyG]; rw [← hyG] at HI; exact HI.out.just)
          obtain ⟨Ab, cb, rfl, b1, b2, b3⟩ := hbv
          rw [e0, List.length_nil]
          clear e0 hyG b3
          have NI := hid IB.out.1
          have NW := hid IB.out.2
          go_wp2_with fail
          go_loopw [1, 8, 9, 57] (fun nv ov tdv iv wr => nv = .int .i64 n ∧ ov = .slice Ao tm.length co ∧ tdv = .slice Ar rest.length cr ∧ iv = .int .i64 0 ∧ wr = w3) (fun _ _ _ _ _ => 0)
          case atStart => exact ⟨rfl, rfl, rfl, rfl, rfl⟩
          case round =>
            obtain ⟨rfl, rfl, rfl, rfl, rfl⟩ := hrel
            go_wp2_with fail
            go_roundw
            case rel => exact ⟨n, m, d, rest, tm, rfl, hTM, O3, NI, V3, BN⟩
            case measure => rw [wtAt_eq V3.out, ME.out]; exact NW.out
        · have PK := hid (show ∃ (j : Nat) (hj : j < Y.brs.length) (ht : m < t.length), t[m] = (j : Int) ∧ Y.brs.length ≤ 1001 ∧ n ≤ G.ways ∧
              (∀ i (hi : i < Y.brs.length), Ges.prod Y.brs[i] ≤ G.ways ∧ Ges.prod rest * Ges.prod Y.brs[i] ≤ G.ways ∧ ∀ y ∈ Y.brs[i], GoodG y) ∧
              (∀ i (hi : i < Y.brs.length), i < j → Ges.prod rest * sumTo Y.brs i + Ges.prod rest * Ges.prod Y.brs[i] ≤ n) ∧
              n < Ges.prod rest * sumTo Y.brs j + Ges.prod rest * Ges.prod Y.brs[j] ∧ Ges.prod rest * sumTo Y.brs j ≤ n ∧ Ges.prod rest ≤ G.ways ∧
              NtInv G.ways t (Y.brs[j] ++ rest) (n - Ges.prod rest * sumTo Y.brs j) (m + 1) ∧ Ges.wt (Y.brs[j] ++ rest) < Ges.wt (Y :: rest) by
            rw [← hyG] at HI
            subst hyG
            exact HI.out.pick k1 k3)
          rw [← hpr] at PK P5
          generalize hbr : Y.brs = br at *
          obtain ⟨j, hj, ht, p1, p2, p3, p4, p5, p6, p6', _, p7, p8⟩ := PK.out
          obtain ⟨Ab, cb, rfl, b1, b2, b3⟩ := hbv
          obtain ⟨bb, bo, rfl, lbb, hbc⟩ := b3 (by omega)
          have HBC := hid hbc
          have LBB2 := hid lbb
          have P3 := hid p3
          have P4 := hid p4
          have PL := hid p5
          have P6 := hid p6
          have P6' := hid p6'
          have P7 := hid p7
          have P8 := hid p8
          have HJ := hid hj
          have HT := hid ht
          have E1 := hid p1
          clear hbr hyG PK p1 p3 p4 p5 p6 p6' p7 p8 hbc b3 BA hpr lbb
          go_wp2_with fail
          go_loopw [1, 8, 9, 57] (fun nv ov tdv iv wr => ∃ i nq : Nat, i ≤ j ∧ Hid (nq = n - pr * sumTo br i) ∧ nv = .int .i64 (nq : Int) ∧ ov = .slice Ao tm.length co ∧ tdv = .slice Ar rest.length cr ∧ iv = .int .i64 i ∧ Hid (Below w3.heap.size w3 wr)) (fun _ _ _ iv _ => j - (intOf iv).toNat)
          case atStart => exact ⟨0, n, Nat.zero_le _, by show _ = _; rw [sumTo, Nat.mul_zero, Nat.sub_zero], rfl, rfl, rfl, rfl, Below.refl _ _⟩
          case round =>
            obtain ⟨i, nq, hi, hNQ, rfl, rfl, rfl, rfl, hBi⟩ := hrel
            obtain ⟨wi, rfl⟩ : ∃ wi : World, wi = wr := ⟨_, rfl⟩
            have si := hBi.out.size
            have hib := Nat.lt_of_le_of_lt hi hj
            obtain ⟨r, cc1, vv1⟩ := HBC.out i hib
            obtain ⟨g3, g2, g4⟩ := P4.out i hib
            have V1 := hid ((vv1.keep (w' := wi) (fun q hq => hBi.out.block q hq.1)).more (F' := fun b => b < wi.heap.size ∧ b ≠ d) (fun q hq => ⟨by omega, hq.2⟩))
            have V1a := hid (V1.out.more (F' := fun b => b < wi.heap.size) (fun q hq => hq.1))
            have cc2 := (hBi.out.cell (p := ⟨bb, bo + i, none⟩) LBB2.out.1).trans cc1
            obtain ⟨Ai, ci, rfl, -, -, -⟩ := vv1
            have PM := hid (product_any (br[i]'hib) g4 (Nat.le_trans g3 GW.out))
            have w1' := wrap_prod (Nat.le_trans P5.out (Nat.le_trans GW.out (by omega : 1048576 ≤ 1048577))) (Nat.le_trans g3 (Nat.le_trans GW.out (by omega : 1048576 ≤ 1048577)))
            have i1 : (i : Int) < (br.length : Int) := by omega
            by_cases hlt : i < j
            · have SL := hid (PL.out i hib hlt)
              have SS : Hid (pr * sumTo br (i + 1) = pr * sumTo br i + pr * Ges.prod (br[i]'hib)) := by
                show _ = _
                rw [sumTo_succ br i hib, Nat.mul_add]
              have em : (pr : Int) * ((Ges.prod (br[i]'hib) : Nat) : Int) = ((pr * Ges.prod (br[i]'hib) : Nat) : Int) := (Int.natCast_mul _ _).symm
              obtain ⟨x, hx⟩ : ∃ x, x = br[i]'hib := ⟨_, rfl⟩
              rw [← hx] at V1a PM SS SL w1' cc2 em
              obtain ⟨px, hpx⟩ : ∃ px, px = Ges.prod x := ⟨_, rfl⟩
              have PX := hid hpx
              rw [← hpx] at SS SL w1' em
              obtain ⟨ym, hym⟩ : ∃ ym, ym = pr * px := ⟨_, rfl⟩
              rw [← hym] at SS SL em
              rw [em] at w1'
              have w1'' : Hid (wrap64 ((pr : Int) * (px : Int)) = (ym : Int)) := by show _ = _; rw [em]; exact w1'
              have NN : Hid (n - pr * sumTo br (i + 1) = nq - ym) := by
                have h1 := SS.out; have h2 := hNQ.out
                show _ = _; omega
              have d1 : ym ≤ nq := by
                have h1 := SL.out; have h2 := hNQ.out
                omega
              have D2 : Hid (wrap64 ((nq : Int) - (ym : Int)) = ((nq - ym : Nat) : Int)) := by
                have h1 := SL.out; have h2 := hNQ.out; have := GW.out; have := P3.out
                show _ = _; unfold wrap64; omega
              obtain ⟨nr, hnr⟩ : ∃ nr, nr = nq - ym := ⟨_, rfl⟩
              rw [← hnr] at D2 NN
              have d1' : (ym : Int) ≤ (nq : Int) := by omega
              have DD := hid d1'
              clear hym w1' d1 d1'
              clear hx cc1 g2 g3 g4 hib em V1 hpx hnr SL SS
              go_wp2_with fail
              refine (PM.out (fun b => b < wi.heap.size) _ wi (fun q hq => hq) V1a.out).mono ?_
              rintro e w5 ⟨rfl, hb5⟩
              have B7 := hid (hBi.out.trans (hb5.mono si))
              rw [← PX.out]
              have e1 := w1''.out
              have e2 := D2.out
              have e3 := DD.out
              clear hb5 cc2
              go_wp2_with fail
              go_roundw
              case rel => exact ⟨i + 1, nr, by omega, NN.out.symm, by rw [D2.out], rfl, rfl, by go_num, B7⟩
              case measure => simp [intOf]; omega
            · obtain rfl : i = j := by omega
              have SM : Hid (nq < pr * Ges.prod (br[i]'hib)) := by
                have h1 := P6.out; have h2 := hNQ.out; have h3 := P6'.out
                clear w1'
                show nq < pr * Ges.prod (br[i]'hib)
                revert h1 h2 h3
                generalize pr * sumTo br i = q1
                generalize pr * Ges.prod (br[i]'hib) = q2
                intro h1 h2 h3
                omega
              have em : (pr : Int) * ((Ges.prod (br[i]'hib) : Nat) : Int) = ((pr * Ges.prod (br[i]'hib) : Nat) : Int) := (Int.natCast_mul _ _).symm
              have LY : Hid ((br[i]'hib).length + rest.length ≤ 887503681) := by
                have h1 := len_wt (br[i]'hib ++ rest); rw [List.length_append] at h1
                have h2 := P8.out; have h3 := WL.out
                show _ ≤ _; omega
              have NQ7 : Hid (NtInv G.ways t (br[i]'hib ++ rest) nq (m + 1)) := by
                have h1 := P7.out; have h2 := hNQ.out
                rw [← h2] at h1; exact h1
              have TM1 : Hid (tm ++ [(i : Int)] = t.take (m + 1)) := by
                have h1 := hTM.out; have h2 := E1.out
                show _ = _
                rw [h1, List.take_succ_eq_append_getElem HT.out, h2]
              obtain ⟨x, hx⟩ : ∃ x, x = br[i]'hib := ⟨_, rfl⟩
              rw [← hx] at V1 V1a PM SM w1' cc2 em LY NQ7 P8
              obtain ⟨px, hpx⟩ : ∃ px, px = Ges.prod x := ⟨_, rfl⟩
              have PX := hid hpx
              rw [← hpx] at SM w1' em
              obtain ⟨ym, hym⟩ : ∃ ym, ym = pr * px := ⟨_, rfl⟩
              rw [← hym] at SM em
              rw [em] at w1'
              have w1'' : Hid (wrap64 ((pr : Int) * (px : Int)) = (ym : Int)) := by show _ = _; rw [em]; exact w1'
              have d1' : ¬ ((ym : Int) ≤ (nq : Int)) := by have := SM.out; omega
              have DD := hid d1'
              have TML : Hid (tm.length ≤ 887503681) := by
                have h1 := hTM.out; have h2 := TL.out
                show _ ≤ _; rw [h1, List.length_take]; omega
              clear hx cc1 g2 g3 g4 em hpx hym w1' d1'
              go_wp2_with fail
              refine (PM.out (fun b => b < wi.heap.size) _ wi (fun q hq => hq) V1a.out).mono ?_
              rintro e w5 ⟨rfl, hb5⟩
              have B7 := hid (hBi.out.trans (hb5.mono si))
              have s5 := hb5.size
              rw [← PX.out]
              have e1 := w1''.out
              have e3 := DD.out
              have O5 := hid (O3.out.below B7.out)
              have OA := hid (O5.out.below ((Below.refl w5.heap.size w5).alloc (Nat.le_refl _) (.cells #[.int .i64 (i : Int)] 3)))
              have CO := hid (cells_oneG w5 (.int .i64 (i : Int)) 3 rfl)
              have VX := hid (V1.out.keep (w' := w5) (fun q hq => hb5.block q hq.1))
              have VR := hid (V3.out.keep (w' := w5) (fun q hq => B7.out.block q hq.1))
              obtain ⟨ii, ki0, kz0, kz1, kz2⟩ := info_parts infoInt
              obtain ⟨ig, hi0, hz0, hz1, hz2⟩ := info_parts infoGe
              have tml := TML.out
              have ly := LY.out
              have wle := lB
              clear hb5 cc2
              go_wp2_with (first
                | (at_builtin; refine wpList_app _ rfl (.tmp 72) (.tmp 74) 25 rfl w.heap.size 3 ii (.int .i64 0) 1 8 Tryd.underlying25 ki0 kz0 kz1 kz2 rfl (by decide) _ tm.length (tm.map (Value.int .i64)) rfl OA.out.own _ _ 1 [.int .i64 (i : Int)] rfl CO.out (by intro u hu; simp at hu; subst hu; rfl) (by unfold maxLen; omega) (by omega) (by simp; omega) ?_; intro v6 w6 hown hgrow hat; have SN := hid (OutAt.snoc (z := (i : Int)) (by simp; omega) OA.out hown hgrow hat); clear hown hgrow hat; obtain ⟨d', o6, f6, sm6, b6⟩ := SN.out; have O6 := hid o6; have F6 := hid f6; have SM6 := hid sm6; have B6 := hid b6; clear o6 f6 sm6 b6; have s6 : w5.heap.size + 1 ≤ w6.heap.size := (by have h := B6.out; have := SN.out; have h3 := O6.out.lt; have h4 := h.size; simpa using h4); have KX := hid (((VX.out.keep (w' := w5.alloc (.cells #[.int .i64 (i : Int)] 3)) (fun q hq => Below.heap_alloc _ _ _ (by omega))).more (F' := fun b => b < (w5.alloc (.cells #[.int .i64 (i : Int)] 3)).heap.size ∧ b ≠ d) (fun q hq => ⟨by simp; omega, hq.2⟩)).keep SM6.out); have KR := hid (((VR.out.keep (w' := w5.alloc (.cells #[.int .i64 (i : Int)] 3)) (fun q hq => Below.heap_alloc _ _ _ (by omega))).more (F' := fun b => b < (w5.alloc (.cells #[.int .i64 (i : Int)] 3)).heap.size ∧ b ≠ d) (fun q hq => ⟨by simp; omega, hq.2⟩)).keep SM6.out); obtain ⟨cs1, cv1, cg1⟩ := (KX.out.more F6.out).cells; obtain ⟨cs2, cv2, cg2⟩ := (KR.out.more F6.out).cells; have CV1 := hid cv1; have CG1 := hid cg1; have CV2 := hid cv2; have CG2 := hid cg2; clear cv1 cg1 cv2 cg2; have O0 := hid (World.ownsRow_lit (e := 24) (size := 4) (base := w6.heap.size) w6 #[] 0 (Nat.le_refl _) (by unfold maxLen; omega) rfl); have C1 := hid (CV1.out.keep (w' := w6.alloc (Obj.cells #[] 24)) (fun q hq => Below.heap_alloc _ _ _ hq.1)); clear KX KR)
                | (at_builtin; refine wpList_app _ rfl (.tmp 76) (.tmp 77) 22 rfl w6.heap.size 24 ig (.agg #[.int .i64 0, .int .i64 0, .int .i64 0, .slice none 0 0]) 4 48 Tryd.underlying22 hi0 hz0 hz1 hz2 rfl (by decide) _ 0 [] rfl O0.out _ _ x.length _ rfl C1.out CG1.out.ones (by unfold maxLen; omega) (by omega) (by simp) ?_; intro v1 w7 hown hgrow hat; have R1 := hid (show w7.ownsRow w6.heap.size 24 4 v1 x.length cs1 from (by simpa using hown)); have G1 : Hid (Below w6.heap.size w6 w7) := ((Below.refl _ _).alloc (Nat.le_refl _) _).grown hgrow (by simp) (own_ge O0.out); have C2 := hid (CV2.out.keep (w' := w7) (fun q hq => G1.out.block q hq.1)); have S1 := G1.out.size; obtain ⟨Av, cv, rfl⟩ := own_slice3 R1.out; clear hown hgrow hat)
                | (at_builtin; refine wpList_app _ rfl (.tmp 78) (.tmp 79) 22 rfl w6.heap.size 24 ig (.agg #[.int .i64 0, .int .i64 0, .int .i64 0, .slice none 0 0]) 4 48 Tryd.underlying22 hi0 hz0 hz1 hz2 rfl (by decide) _ x.length cs1 rfl R1.out _ _ rest.length _ rfl C2.out CG2.out.ones (by unfold maxLen; omega) (by omega) S1 ?_; intro v2 w8 hown hgrow hat; have R2 := hid hown; have G2 := hid hgrow; clear hown hgrow hat))
              have B9 : Hid (Below w6.heap.size w6 w8) := G1.out.grown G2.out S1 (own_ge R1.out)
              have V9 : Hid (GesV (fun b => b < w8.heap.size ∧ b ≠ d') w8 v2 (x ++ rest)) := by
                have SB : Same (fun b => b < w6.heap.size ∧ b ≠ d') w6 w8 := fun q hq => B9.out.block q hq.1
                have sz := B9.out.size
                have dl := O6.out.lt
                exact gesV_own (F := fun b => b < w6.heap.size ∧ b ≠ d') (by rw [List.length_append]; exact R2.out) ((CG1.out.keep SB).append (CG2.out.keep SB)) (fun b hb => ⟨by omega, hb.2⟩) (fun b hb => ⟨own_lt R2.out b hb, by have := own_ge R2.out b hb; omega⟩)
              have O9 := hid (O6.out.below B9.out)
              have BQ := hid (((BN.out.trans (B7.out.mono BN.out.size)).alloc (by have := BN.out.size; have := B7.out.size; omega) (.cells #[.int .i64 (i : Int)] 3)).trans (B6.out.trans (B9.out.mono (by omega))))
              clear R1 G1 C2 R2 G2 S1 O0 C1 CV1 CG1 CV2 CG2 B9
              go_roundw
              case rel => exact ⟨nq, m + 1, d', x ++ rest, tm ++ [(i : Int)], rfl, TM1, O9, NQ7, V9, BQ⟩
              case measure => rw [wtAt_eq V9.out, ME.out]; exact P8.out
end Go.Proofs.YtopehfmppfibhaaDoor
