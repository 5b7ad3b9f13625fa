/- The law PairsOwn: it returns true, and all that the call was given reads as before. Condition: errors.errorType holds its handle. -/
import Derived.Test.YtkiljnggphlomaaDoorPub
import Derived.Test.YtkiljnggphlomaaDoorMsm
import Derived.Test.YtkiljnggphlomaaDoorRcp
import Derived.Test.YtkiljnggphlomaaDoorSmr
import Derived.Test.YtkiljnggphlomaaDoorAst
namespace Go.Proofs.YtkiljnggphlomaaDoor
open Go.RowKit Go.Deep
def LawPost (W : World) (e : Ending) (w' : World) : Prop := e = .returned (.bool true) ∧ Below W.heap.size W w'
theorem fact22 : pairsC [2, 2] = 0 ∧ (rowsG [2, 2]).length = 4 := ⟨by decide, by unfold rowsG; rw [if_pos (by decide)]; exact (two_ok 2 2 (by omega) (by omega) (by omega) (by omega)).1⟩
theorem lit2 (a b : Int) (W : World) (ha : (Lit.int .i64 a).wf = true) (hb : (Lit.int .i64 b).wf = true) : IntsIn .i64 (fun k => k < W.heap.size + 1) (W.alloc (.cells #[.int .i64 a, .int .i64 b] 3)) (.slice (some ⟨W.heap.size, 0, none⟩) 2 2) [a, b] :=
  have N := Has.new W (.cells #[.int .i64 a, .int .i64 b] 3)
  ⟨_, 2, rfl, by simp [maxLen], by intro n hn; simp at hn; rcases hn with rfl | rfl; exact ha; exact hb, fun _ => ⟨W.heap.size, 0, rfl, by omega, fun i hi => by
    match i, hi with
    | 0, _ => simp
    | 1, _ => simp⟩⟩
set_option maxRecDepth 100000 in
set_option maxHeartbeats 4000000 in
theorem pairsOwn_walk (l : List Int) (v : Value) (ll : List (List Int)) (u : Value) (x : Int) (W : World) (hL : Laid W) (hv : IntsIn .i64 (fun b => b < W.heap.size) W v l) (hu : RowsIn (fun b => b < W.heap.size) W u ll) (hz : l.length * 8 ≤ 140737488351232) (hz2 : ∀ x ∈ ll, x.length * 8 ≤ 140737488351232) (hz3 : ll.length * 24 ≤ 140737488351232) :
    Calls Tryd.prog 4 #[v, u, .int .i64 x] W (LawPost W) := by
  have HL := hid hL
  have HV := hid hv
  have HU := hid hu
  have WF : Hid (∀ z ∈ l, (Lit.int .i64 z).wf = true) := by obtain ⟨_, _, _, _, h, _⟩ := hv; exact h
  have Z2 : Hid (∀ x ∈ ll, x.length * 8 ≤ 140737488355328) := fun x hx => by have := hz2 x hx; omega
  have ln : l.length ≤ 17592186043904 := by omega
  have lln : ll.length ≤ 5864062014634 := by omega
  obtain ⟨A, c, rfl, _, _, _⟩ := hv
  obtain ⟨A', c', rfl, _, _⟩ := hu
  clear hL hz hz2 hz3
  obtain ⟨G, hG⟩ : ∃ G, G = rowsG l := ⟨_, rfl⟩
  have HG := hid hG
  have GL : G.length ≤ 3600 := by rw [hG]; exact rowsG_le l
  obtain ⟨cP, hcP⟩ : ∃ cP, cP = pairsC l := ⟨_, rfl⟩
  have HCP := hid hcP
  obtain ⟨cM, hcM⟩ : ∃ cM, cM = missC l ll := ⟨_, rfl⟩
  have HCM := hid hcM
  clear hG hcP hcM
  go_enter Tryd.func4, Tryd.ntmps4
  go_wp2_with fail
  refine (copy_any l (fun b => b < W.heap.size) _ W (fun b h => h) HV.out (by omega)).mono ?_
  rintro e w1 ⟨v1, rfl, hO, hb⟩
  have s1 := hb.size
  have B1 := hid hb
  have I1 := hid ((ints_of_own hO WF.out).more (F' := fun b => b < w1.heap.size) fun b h => h.2)
  obtain ⟨A1, c1, rfl, _, _⟩ := own_sl hO
  clear hO hb
  go_wp2_with fail
  refine (rcopy_any ll (fun b => b < W.heap.size) _ w1 (fun b h => by omega) (HU.out.keep (Same.of_below B1.out fun b h => h)) (by omega) Z2.out).mono ?_
  rintro e w2 ⟨v2, rfl, hR, hb⟩
  have s2 := hb.size
  have B2 := hid (B1.out.trans (hb.mono s1))
  have I2 := hid ((I1.out.keep (Same.of_below hb fun b h => h)).more (F' := fun b => b < w2.heap.size) fun b h => by omega)
  have R2 := hid (hR.more (F' := fun b => b < w2.heap.size) fun b h => h.2)
  obtain ⟨A2, c2, rfl, _, _⟩ := hR
  clear hb I1 B1
  go_wp2_with fail
  refine (prows_u l (fun b => b < w2.heap.size) _ w2 (fun b h => h) I2.out).mono ?_
  rintro e w3 ⟨r3, bs, rfl, hR3, hb⟩
  rw [← HG.out] at hR3
  rw [← HCP.out]
  have s3 := hb.size
  have P3 := hid hb
  have R3 := hid hR3
  obtain ⟨A3, c3, rfl, _, _⟩ := own_sl hR3.own
  clear hb hR3
  go_wp2_with fail
  refine (missing_any l ll (fun b => b < w2.heap.size) _ _ w3 (fun b h => by omega) (I2.out.keep (Same.of_below P3.out fun b h => h)) (R2.out.keep (Same.of_below P3.out fun b h => h))).mono ?_
  rintro e w4 ⟨hb, r4, rfl⟩
  rw [← HCM.out]
  have s4 := hb.size
  have P4 := hid (P3.out.trans (hb.mono s3))
  have R4 := hid (R3.out.below hb)
  have s4' := P4.out.size
  clear hb P3 R3
  go_wp2_with fail
  refine (prows_u [2, 2] (fun k => k < w4.heap.size + 1) _ _ (fun k hk => by simpa using hk) (lit2 2 2 w4 (by decide) (by decide))).mono ?_
  rintro e w5 ⟨r5, bs5, rfl, hR5, hb⟩
  have P5a := hid (((Below.refl w4.heap.size w4).alloc (Nat.le_refl _) (.cells #[.int .i64 2, .int .i64 2] 3)).trans (hb.mono (by simp)))
  have P5 := hid (P4.out.trans (P5a.out.mono s4'))
  have R5 := hid (R4.out.below P5a.out)
  have s5 := P5.out.size
  obtain ⟨A5, c5, rfl, _, _⟩ := own_sl hR5.own
  rw [fact22.1, errV_0, fact22.2]
  clear hb hR5 R4 P4 P5a s4 s4' s3
  go_wp2_with fail
  refine (ints_any l l (fun _ => True) _ _ w5 ((I2.out.keep (Same.of_below P5.out fun b h => h)).more fun _ _ => trivial) ((HV.out.keep (Same.of_below (B2.out.trans (P5.out.mono (by omega))) fun b h => h)).more fun _ _ => trivial)).mono ?_
  rintro e w6 ⟨rfl, q, rfl⟩
  rw [show decide (l = l) = true from decide_eq_true rfl]
  have P6 := hid (below_drewN P5.out q)
  have R6 := hid (R5.out.below (below_drewN (Below.refl _ _) q))
  have s6 : w2.heap.size ≤ (w5.drewN q).heap.size := s5
  generalize w5.drewN q = w6 at *
  clear P5 R5 s5
  go_wp2_with fail
  refine (rows_any ll ll (fun _ => True) _ _ w6 ((R2.out.keep (Same.of_below P6.out fun b h => h)).more fun _ _ => trivial) ((HU.out.keep (Same.of_below (B2.out.trans (P6.out.mono (by omega))) fun b h => h)).more fun _ _ => trivial)).mono ?_
  rintro e w7 ⟨rfl, q, rfl⟩
  rw [show decide (ll = ll) = true from decide_eq_true rfl]
  have P7 := hid (below_drewN P6.out q)
  have R7 := hid (R6.out.below (below_drewN (Below.refl _ _) q))
  have s7 : w2.heap.size ≤ (w6.drewN q).heap.size := s6
  generalize w6.drewN q = w7 at *
  have G12 : Hid (0 < G.length → l.length ≤ 12) := fun h => by
    by_cases h0 : pairsC l = 0
    · exact (pairsC_ok h0).len
    · rw [HG.out] at h; unfold rowsG at h; rw [if_neg h0] at h; simp at h
  have ML : l.length ≤ maxLen := by unfold maxLen; omega
  have GR7 := hid (R7.out.rows ML)
  have GX : Hid (∀ x ∈ G, x.length * 8 ≤ 140737488355328) := fun x hx => by rw [R7.out.row_le x hx]; omega
  clear P6 R6 s6
  go_wp2_with fail
  refine (rcopy_any G (fun b => b < w7.heap.size) _ w7 (fun b h => h) GR7.out (by omega) GX.out).mono ?_
  rintro e w8 ⟨v8, rfl, hR, hb⟩
  have s8 := hb.size
  have P8 := hid (P7.out.trans (hb.mono s7))
  have R8 := hid (R7.out.below hb)
  have R7s := hid R7.out.at_.lo
  have V8 := hid hR
  obtain ⟨A8, c8, rfl, _, _⟩ := hR
  clear hb GR7
  go_upto_if 57 with fail
  go_cut [] (fun wx => Hid (Below w2.heap.size w2 wx) ∧ w8.heap.size ≤ wx.heap.size ∧ Hid (TailIn wx (.slice A3 G.length c3) G) ∧ Hid (RowsIn (fun b => w7.heap.size ≤ b ∧ b < w8.heap.size) wx (.slice A8 G.length c8) G))
  case first =>
    by_cases h0 : 0 < G.length
    · obtain ⟨b0, g, cc, e0, e1, k0, k1, k2, k3, k4⟩ := R8.out.head ML h0
      injection e1 with e1 _ e2
      subst e1 e2
      have E0 := hid e0
      have K1 := hid k1
      have K2 := hid k2
      have n1 : decide ((0 : Int) < (G.length : Int)) = true := by simp; omega
      have n3 : (0 : Int) < (G.length : Int) := by omega
      have l12 := G12.out h0
      have b07 : b0 < w7.heap.size := (R7s.out b0 (List.mem_of_getElem? e0)).2
      clear e0 k1 k2
      go_wp2_with fail
      refine (spoil_at x (rowAt G 0) l.length w2.heap.size _ w8 K2.out K1.out (by omega)).mono ?_
      rintro e w9 ⟨rfl, _, hg⟩
      have s9 := hg.size
      have P9 := hid (P8.out.grown hg (by omega) fun k hk => by have := own_ge K1.out k hk; omega)
      have T9 : Hid (TailIn w9 (.slice (some ⟨g, 0, none⟩) G.length c3) G) := R8.out.tail ML (by rw [E0.out]; exact hg)
      have V9 := hid (V8.out.keep (w' := w9) fun b hb => hg.block b hb.2 (fun e => by simp [Value.ownBlock] at e; omega))
      clear hg k0
      go_wp2_with fail
      go_meet
      case rel => exact ⟨P9, s9, T9, V9⟩
    · have gz : G.length = 0 := by omega
      have n1 : decide ((0 : Int) < (G.length : Int)) = false := by rw [gz]; decide
      have T9 : Hid (TailIn w8 (.slice A3 G.length c3) G) := fun i h1 hi => by omega
      have s9 : w8.heap.size ≤ w8.heap.size := Nat.le_refl _
      go_wp2_with fail
      go_meet
      case rel => exact ⟨P8, s9, T9, V8⟩
  case rest =>
    obtain ⟨hP9, s9, hT9, hV9⟩ := hcut
    have B9 := hid (B2.out.trans (hP9.out.mono (by omega)))
    have w29 : w2.heap.size ≤ wc.heap.size := hP9.out.size
    obtain ⟨wx, hwx⟩ : ∃ wx, wx = wc := ⟨_, rfl⟩
    subst hwx
    clear R8 V8 P8 P7 R7
    go_wp2_with fail
    go_loopw [18] (fun iv wr => ∃ i q : Nat, 1 ≤ i ∧ i ≤ G.length + 1 ∧ iv = .int .i64 i ∧ wr = wx.drewN q) (fun iv _ => G.length - (intOf iv).toNat)
    case atStart => exact ⟨1, 0, Nat.le_refl _, by omega, rfl, rfl⟩
    case round =>
      obtain ⟨i, q, h1i, hi, rfl, hq⟩ := hrel
      have HQ := hid hq
      by_cases hlt : i < G.length
      · obtain ⟨g, cc, r1, e1, k1, k2⟩ := hT9.out i h1i hlt
        injection e1 with e1 _ e2
        subst e1 e2
        obtain ⟨Ax, cx, e3, _, hv3⟩ := hV9.out
        injection e3 with e3 _ e4
        subst e3 e4
        obtain ⟨g2, o2, e5, _, hc2⟩ := hv3 (by omega)
        subst e5
        obtain ⟨r2, m1, m2⟩ := hc2 i hlt
        have J1 : Hid (IntsIn .i64 (fun _ => True) wr r1 (rowAt G i)) := by rw [hq]; exact (k2.keep (fun _ _ => rfl)).more fun _ _ => trivial
        have J2 : Hid (IntsIn .i64 (fun _ => True) wr r2 (rowAt G i)) := by rw [hq]; exact (m2.keep (fun _ _ => rfl)).more fun _ _ => trivial
        have q1 : wr.cell? ⟨g, i, none⟩ = some r1 := by rw [hq]; exact k1
        have q2 : wr.cell? ⟨g2, o2 + i, none⟩ = some r2 := by rw [hq]; exact m1
        have i1 : (i : Int) < (G.length : Int) := by omega
        clear k1 k2 m1 m2 hc2 hv3 hq
        go_upto_region 14 with fail
        go_quiet ((go_at_call 14; exact Calls.quiet_of (ints_any (rowAt G i) (rowAt G i) (fun _ => True) _ _ _ (J1.out.keep fun _ _ => rfl) (J2.out.keep fun _ _ => rfl))))
        rw [show decide (rowAt G i = rowAt G i) = true from decide_eq_true rfl]
        go_wp2_with fail
        go_roundw
        case rel => exact ⟨i + 1, q + nq, by omega, by omega, by go_num, by rw [HQ.out]; simp only [World.drewN_drewN]⟩
        case measure => simp [intOf]; omega
      · have i1 : decide ((i : Int) < (G.length : Int)) = false := decide_eq_false (by omega)
        have i2 : ¬ (i : Int) < (G.length : Int) := by omega
        have PA : Hid (Below w2.heap.size w2 wr) := by show Below _ _ _; rw [hq]; exact below_drewN hP9.out q
        have BA : Hid (Below W.heap.size W wr) := by show Below _ _ _; rw [hq]; exact below_drewN B9.out q
        have VA : Hid (RowsIn (fun b => b < wr.heap.size) wr (.slice A8 G.length c8) G) := by
          show RowsIn _ _ _ _
          rw [hq]
          exact (hV9.out.keep (w' := wx.drewN q) (fun _ _ => rfl)).more fun b hb => by show b < wx.heap.size; omega
        have sA : w2.heap.size ≤ wr.heap.size := PA.out.size
        clear hq hT9 hV9 hP9 B9
        obtain ⟨wo, hwo⟩ : ∃ wo, wo = wr := ⟨_, rfl⟩
        subst hwo
        go_wp2_with fail
        refine (prows_u l (fun b => b < W.heap.size) _ wo (fun b h => by omega) (HV.out.keep (Same.of_below BA.out fun b h => h))).mono ?_
        rintro e w10 ⟨r10, bs10, rfl, hR10, hb⟩
        rw [← HG.out] at hR10
        rw [← HCP.out]
        have s10 := hb.size
        have B10 := hid (BA.out.trans (hb.mono (by omega)))
        have N10 := hid (hR10.rows ML)
        have V10 := hid (VA.out.keep (Same.of_below hb fun b h => h))
        obtain ⟨A10, c10, rfl, _, _⟩ := own_sl hR10.own
        clear hb hR10
        go_wp2_with fail
        refine (rows_any G G (fun _ => True) _ _ w10 (N10.out.more fun _ _ => trivial) (V10.out.more fun _ _ => trivial)).mono ?_
        rintro e w11 ⟨rfl, q, rfl⟩
        rw [show decide (G = G) = true from decide_eq_true rfl]
        have B11 := hid (below_drewN B10.out q)
        have s11 : wo.heap.size ≤ (w10.drewN q).heap.size := s10
        generalize w10.drewN q = w11 at *
        clear B10
        go_wp2_with fail
        refine (stold_any cP cP w11 (HL.out.below B11.out)).mono ?_
        rintro e w12 ⟨rfl, hb⟩
        have B12 := hid (B11.out.trans (hb.mono (by have := B11.out.size; omega)))
        clear hb
        rw [show decide (cP = cP) = true from decide_eq_true rfl]
        go_wp2_with fail
        refine (missing_any l ll (fun b => b < W.heap.size) _ _ w12 (fun b h => by have := B12.out.size; omega) (HV.out.keep (Same.of_below B12.out fun b h => h)) (HU.out.keep (Same.of_below B12.out fun b h => h))).mono ?_
        rintro e w13 ⟨hb, r13, rfl⟩
        rw [← HCM.out]
        have B13 := hid (B12.out.trans (hb.mono (by have := B12.out.size; omega)))
        clear hb
        go_wp2_with fail
        refine (stold_any cM cM w13 (HL.out.below B13.out)).mono ?_
        rintro e w14 ⟨rfl, hb⟩
        have B14 := hid (B13.out.trans (hb.mono (by have := B13.out.size; omega)))
        clear hb
        rw [show decide (cM = cM) = true from decide_eq_true rfl]
        go_wp2_with fail
        go_ret
        exact ⟨rfl, B14.out⟩
end Go.Proofs.YtkiljnggphlomaaDoor
