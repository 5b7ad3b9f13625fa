/- The law TableAll: it returns true, and all that the call was given reads as before. Condition: errors.errorType holds its handle. -/
import Derived.Test.YtkiljnggphlomaaDoorTtm
import Derived.Test.YtkiljnggphlomaaDoorAse
namespace Go.Proofs.YtkiljnggphlomaaDoor
open Go.RowKit Go.Deep
def LawPost (W : World) (e : Ending) (w' : World) : Prop := e = .returned (.bool true) ∧ Below W.heap.size W w'
theorem fact_which : whichD 1 1 [(1, 7)] = 7 ∧ whichC 1 1 [(1, 7)] = 0 := by decide
theorem lit_rule (W : World) : RulesIn 1 (fun b => b < W.heap.size + 1 + 1) ((W.alloc (.cells #[.int .i64 1] 3)).alloc (.cells #[.slice (some ⟨W.heap.size, 0, none⟩) 1 1, .int .i64 7] 51)) (.slice (some ⟨W.heap.size + 1, 0, none⟩) 1 1) [(1, 7)] := by
  have X := Has.newAt (g := W.heap.size + 1) (W.alloc (.cells #[.int .i64 1] 3)) (.cells #[.slice (some ⟨W.heap.size, 0, none⟩) 1 1, .int .i64 7] 51) (by simp)
  have Y := Has.alloc (Has.new W (.cells #[.int .i64 1] 3)) (.cells #[.slice (some ⟨W.heap.size, 0, none⟩) 1 1, .int .i64 7] 51)
  refine ⟨_, 1, rfl, by simp [maxLen], fun _ => ⟨W.heap.size + 1, 0, rfl, by omega, fun i hi => ?_⟩⟩
  match i, hi with
  | 0, _ =>
    refine ⟨.slice (some ⟨W.heap.size, 0, none⟩) 1 1, (Has.cell X 0).trans rfl, ?_, (Has.cell X 1).trans rfl⟩
    exact ints1 (by omega) ((Has.cell Y 0).trans rfl) (by decide)
theorem cells_2 (w : World) (x y : Value) (t : TypeId) {g : Nat} (hg : g = w.heap.size) : CellsIn (fun b => b = g) (w.alloc (.cells #[x, y] t)) 2 (.slice (some ⟨g, 0, none⟩) 1 1) 1 [x, y] := by
  subst hg
  refine ⟨_, 1, rfl, rfl, fun _ => ⟨w.heap.size, 0, rfl, rfl, fun j u hj => ?_⟩⟩
  match j, hj with
  | 0, hj => simp at hj; subst hj; simp
  | 1, hj => simp at hj; subst hj; simp
set_option maxRecDepth 100000 in
set_option maxHeartbeats 4000000 in
theorem tableAll_walk (k : Int) (zs : List Int) (v : Value) (W : World) (hL : Laid W) (h : IntsIn .i64 (fun b => b < W.heap.size) W v zs) (hz : zs.length * 8 ≤ 140737488351232) :
    Calls Tryd.prog 6 #[.int .i64 k, v] W (LawPost W) := by
  have HL := hid hL
  have H := hid h
  obtain ⟨A, c, rfl, hm, _, h3⟩ := h
  have H3 := hid h3
  have HZ : zs.length ≤ 17592186043904 := by omega
  clear hL hm hz h3
  obtain ⟨i0, hi, hz0, hz1, hz2⟩ := info_parts infoInt
  obtain ⟨j0, hj, hy0, hy1, hy2⟩ := info_parts infoRule
  have L0 := hid (lit_rule W)
  go_enter Tryd.func6, Tryd.ntmps6
  go_wp2_with fail
  refine (which_any 1 1 [(1, 7)] (fun b => b < W.heap.size + 1 + 1) _ _ (fun b h => by simpa using h) L0.out (by decide) (by decide) (by decide) (by decide)).mono ?_
  rintro e w1 ⟨rfl, hb⟩
  have B1 : Hid (Below W.heap.size W w1) := (((Below.refl W.heap.size W).alloc (Nat.le_refl _) (.cells #[.int .i64 1] 3)).alloc (by simp) (.cells #[.slice (some ⟨W.heap.size, 0, none⟩) 1 1, .int .i64 7] 51)).trans (hb.mono (by simp; omega))
  rw [fact_which.1, fact_which.2, errV_0]
  clear hb L0
  by_cases g1 : k < 1
  · have d1 : decide (k < 1) = true := decide_eq_true g1
    go_wp2_with fail
    go_ret
    exact ⟨rfl, B1.out⟩
  have d1 : decide (k < 1) = false := decide_eq_false g1
  by_cases g2 : 6 < k
  · have d2 : decide (6 < k) = true := decide_eq_true g2
    go_wp2_with fail
    go_ret
    exact ⟨rfl, B1.out⟩
  have d2 : decide (6 < k) = false := decide_eq_false g2
  by_cases g3 : (12 : Int) < (zs.length : Int)
  · have d3 : decide ((12 : Int) < (zs.length : Int)) = true := decide_eq_true g3
    go_wp2_with fail
    go_ret
    exact ⟨rfl, B1.out⟩
  have d3 : decide ((12 : Int) < (zs.length : Int)) = false := decide_eq_false g3
  obtain ⟨n, rfl⟩ : ∃ n : Nat, k = (n : Int) := ⟨k.toNat, by omega⟩
  have n1 : 1 ≤ n := by omega
  have n6 : n ≤ 6 := by omega
  have z12 : zs.length ≤ 12 := by omega
  obtain ⟨N, hN, N1, N64⟩ := pow_fact n6
  have HN := hid hN
  have eN : (2 : Int) ^ n = (N : Int) := by rw [hN]; simp
  have eW : IntKind.i64.wrap (N : Int) = (N : Int) := by rw [IntKind.wrap_i64]; omega
  have s1 := B1.out.size
  clear hN HZ
  go_wp2_with fail
  clear d1 d2 d3 g1 g2 g3
  go_loopw [7, 8, 9, 10, 11] (fun lv iv _ _ _ wr => ∃ (i : Nat) (rs : RuV), i ≤ zs.length ∧ iv = .int .i64 i ∧ Hid (RuMem n w1.heap.size wr lv rs) ∧ Hid (RuSays n (zs.take i) rs) ∧ Hid (Below w1.heap.size w1 wr)) (fun _ iv _ _ _ _ => zs.length - (intOf iv).toNat)
  case atStart => exact ⟨0, [], Nat.zero_le _, rfl, RuMem.nil _ _ _, by show RuSays _ _ _; simpa using RuSays.nil n, Below.refl _ _⟩
  case round =>
    obtain ⟨i, rs, hi', rfl, hM, hS, hB⟩ := hrel
    have sB := hB.out.size
    have rl : Hid (rs.length = i) := by have := hS.out.len; rw [List.length_take] at this; show _ = _; omega
    have rl12 : rs.length ≤ 12 := by rw [rl.out]; omega
    obtain ⟨A7, c7, rfl, _, _⟩ := own_sl hM.out.own
    by_cases hlt : i < zs.length
    · obtain ⟨b, o, rfl, hb, hcc⟩ := H3.out (by omega)
      have zc := (hB.out.cell (p := ⟨b, o + i, none⟩) (by show b < _; omega)).trans ((B1.out.cell (p := ⟨b, o + i, none⟩) hb).trans (hcc i hlt))
      have i1 : (i : Int) < (zs.length : Int) := by omega
      have ZT : Hid (zs.take (i + 1) = zs.take i ++ [zs.getD i 0]) := by
        show _ = _
        rw [List.take_add_one, List.getD_eq_getElem?_getD, List.getElem?_eq_getElem hlt]; rfl
      generalize zs.getD i 0 = z at zc ZT
      by_cases g1 : z < 0
      · have d1 : decide (z < 0) = true := decide_eq_true g1
        go_wp2_with fail
        go_ret
        exact ⟨rfl, B1.out.trans (hB.out.mono s1)⟩
      by_cases g2 : (N : Int) ≤ z
      · have d1 : decide (z < 0) = false := decide_eq_false g1
        have d2 : decide ((N : Int) ≤ z) = true := decide_eq_true g2
        go_wp2_with fail
        go_ret
        exact ⟨rfl, B1.out.trans (hB.out.mono s1)⟩
      obtain ⟨t, rfl⟩ : ∃ t : Nat, z = (t : Int) := ⟨z.toNat, by omega⟩
      have d1 : decide ((t : Int) < 0) = false := decide_eq_false g1
      have d2 : decide ((N : Int) ≤ (t : Int)) = false := decide_eq_false g2
      have t2 : t < N := by omega
      have ZC := hid zc
      clear hcc
      go_wp2_with fail
      clear d1 d2 g1 g2
      obtain ⟨wo, hwo⟩ : ∃ wo, wo = wr := ⟨_, rfl⟩
      subst hwo
      have bo : b < wo.heap.size := by omega
      clear zc
      go_loopw [9, 10, 11] (fun ov cv _ wr => ∃ c : Nat, c ≤ n ∧ cv = .int .i64 c ∧ Hid (wr.ownsRow wo.heap.size 3 1 ov c ((bitsR c t).map (Value.int .i64))) ∧ Hid (Below wo.heap.size wo wr)) (fun _ cv _ _ => n - (intOf cv).toNat)
      case atStart => exact ⟨0, Nat.zero_le _, rfl, World.ownsRow_nil _ _ _ _, Below.refl _ _⟩
      case round =>
        obtain ⟨c, hc, rfl, hO, hB'⟩ := hrel
        have sB' := hB'.out.size
        obtain ⟨A9, c9, rfl, _, _⟩ := own_sl hO.out
        by_cases hct : c < n
        · have zc := (hB'.out.cell (p := ⟨b, o + i, none⟩) bo).trans ZC.out
          have k1 : (c : Int) < (n : Int) := by omega
          have BS := hid (bitsR_succ c t)
          go_wp2_with fail
          refine (so_any t c _ (by omega) (by omega)).mono ?_
          rintro e w3 ⟨rfl, rfl⟩
          by_cases hbt : bt t c = 1
          · rw [decide_eq_true hbt]
            have E := hid hbt
            clear hbt
            go_wp2_with (at_builtin; refine wpList_app _ rfl _ _ 23 rfl wo.heap.size 3 i0 (.int .i64 0) 1 8 Tryd.underlying23 hi hz0 hz1 hz2 rfl (by decide) _ _ _ rfl (hO.out.alloc _) _ _ 1 [.int .i64 1] rfl (cells_1 _ _ _ (by simp)) (by intro u hu; simp at hu; subst hu; rfl) (by unfold maxLen; omega) (by omega) (by simp; omega) ?_; intro v5 w5 hown5 hgrow5 _; have O5 := hid hown5; have B5 : Hid (Below wo.heap.size wo w5) := (hB'.out.alloc sB' _).grown hgrow5 (by simp; omega) (fun k hk => own_ge hO.out k hk); clear hown5 hgrow5)
            go_roundw
            case rel => exact ⟨c + 1, by omega, by go_num, by show World.ownsRow _ _ _ _ _ _ _; rw [BS.out, E.out]; simpa using O5.out, B5⟩
            case measure => simp [intOf]; omega
          · rw [decide_eq_false hbt]
            have E : Hid (bt t c = 0) := by have := bt_lt t c; show _ = _; omega
            clear hbt
            go_wp2_with (at_builtin; refine wpList_app _ rfl _ _ 23 rfl wo.heap.size 3 i0 (.int .i64 0) 1 8 Tryd.underlying23 hi hz0 hz1 hz2 rfl (by decide) _ _ _ rfl (hO.out.alloc _) _ _ 1 [.int .i64 0] rfl (cells_1 _ _ _ (by simp)) (by intro u hu; simp at hu; subst hu; rfl) (by unfold maxLen; omega) (by omega) (by simp; omega) ?_; intro v5 w5 hown5 hgrow5 _; have O5 := hid hown5; have B5 : Hid (Below wo.heap.size wo w5) := (hB'.out.alloc sB' _).grown hgrow5 (by simp; omega) (fun k hk => own_ge hO.out k hk); clear hown5 hgrow5)
            go_roundw
            case rel => exact ⟨c + 1, by omega, by go_num, by show World.ownsRow _ _ _ _ _ _ _; rw [BS.out, E.out]; simpa using O5.out, B5⟩
            case measure => simp [intOf]; omega
        · obtain rfl : c = n := by omega
          have zc := (hB'.out.cell (p := ⟨b, o + i, none⟩) bo).trans ZC.out
          have k1 : ¬ (c : Int) < (c : Int) := by omega
          obtain ⟨wx, hwx⟩ : ∃ wx, wx = wr := ⟨_, rfl⟩
          subst hwx
          have M2 := hid (hM.out.below hB'.out)
          have U2 := hid ((ints_of_own hO.out (bitsR_wf c t)).more (F' := fun b => b < wx.heap.size ∧ (Value.slice A7 rs.length c7).ownBlock ≠ some b) fun b hb => ⟨hb.2, fun e => by have := own_lt hM.out.own b e; omega⟩)
          have B2 := hid (hB.out.trans (hB'.out.mono sB))
          go_wp2_with (at_builtin; refine wpList_app _ rfl _ _ 52 rfl w1.heap.size 51 j0 (.agg #[.slice none 0 0, .int .i64 0]) 2 32 Tryd.underlying52 hj hy0 hy1 hy2 rfl (by decide) _ _ _ rfl (M2.out.own.alloc _) _ _ 1 [.slice A9 c c9, .int .i64 t] rfl (cells_2 _ _ _ _ (by simp)) (by intro u hu; simp at hu; rcases hu with rfl | rfl <;> rfl) (by unfold maxLen; omega) (by omega) (by simp; omega) ?_; intro v5 w5 hown5 hgrow5 hat5; have O5 := hid hown5; have B5 : Hid (Below w1.heap.size w1 w5) := (B2.out.alloc (by omega) _).grown hgrow5 (by simp; omega) (fun k hk => own_ge M2.out.own k hk); have M5 : Hid (RuMem c w1.heap.size w5 v5 (rs ++ [(.slice A9 c c9, t)])) := M2.out.push U2.out ((Below.refl _ _).alloc (Nat.le_refl _) _) hown5 hgrow5 hat5; clear hown5 hgrow5 hat5)
          go_roundw
          case rel => exact ⟨i + 1, _, by omega, by go_num, M5, by show RuSays _ _ _; rw [ZT.out]; exact hS.out.push (by rw [← HN.out]; exact t2), B5⟩
          case measure => simp [intOf]; omega
    · obtain rfl : i = zs.length := by omega
      have SY : Hid (RuSays n zs rs) := by have := hS.out; rw [List.take_length] at this; exact this
      have i1 : ¬ (zs.length : Int) < (zs.length : Int) := by omega
      obtain ⟨wo, hwo⟩ : ∃ wo, wo = wr := ⟨_, rfl⟩
      subst hwo
      obtain ⟨l, hl⟩ : ∃ l, l = rOf rs := ⟨_, rfl⟩
      have HLL := hid hl
      have R0 := hid hM.out.rules
      rw [← hl] at R0
      have ll : Hid (l.length = rs.length) := by show _ = _; rw [hl]; exact rOf_len rs
      have l12 : l.length ≤ 12 := by rw [ll.out]; omega
      rw [← ll.out] at R0 ⊢
      clear hl
      go_wp2_with fail
      refine (holes_any n l (fun b => b < wo.heap.size) _ wo (fun b h => h) R0.out n1 n6 l12).mono ?_
      rintro e w2 ⟨r, rfl, hb, ho⟩
      have s2 := hb.size
      have P2 := hid hb
      obtain ⟨h, hh⟩ : ∃ h, h = holesL n l := ⟨_, rfl⟩
      have HH := hid hh
      have HLn : Hid ((holesL n l).length = h.length) := by show _ = _; rw [hh]
      rw [HLn.out] at ho
      have O2 := hid ho
      rw [← hh] at O2
      have WH : Hid (∀ z ∈ h, (Lit.int .i64 z).wf = true) := by rw [hh]; exact filtI_wf _ _ (by rw [← HN.out]; omega)
      have I2 := hid ((ints_of_own O2.out WH.out).more (F' := fun b => b < w2.heap.size) fun b h => h.2)
      obtain ⟨A2, c2, rfl, _, _⟩ := own_sl ho
      clear hb ho hh O2
      go_wp2_with fail
      refine (clash_any n l (fun b => b < wo.heap.size) _ w2 (fun b h => by omega) (R0.out.keep (Same.of_below P2.out fun b h => h)) n1 n6 l12 (by rw [HLL.out]; exact SY.out.clash)).mono ?_
      rintro e w3 ⟨rfl, hb⟩
      have s3 := hb.size
      have P3 := hid (P2.out.trans (hb.mono s2))
      have I3 := hid ((I2.out.keep (Same.of_below hb fun b h => h)).more (F' := fun b => b < w3.heap.size) fun b h => by omega)
      clear hb I2
      go_wp2_with fail
      refine (serror_any 2 2 w3 (HL.out.below (B1.out.trans ((hB.out.trans (P3.out.mono sB)).mono s1)))).mono ?_
      rintro e w4 ⟨rfl, hb⟩
      have s4 := hb.size
      have P4 := hid (P3.out.trans (hb.mono (by omega)))
      have I4 := hid ((I3.out.keep (Same.of_below hb fun b h => h)).more (F' := fun b => b < w4.heap.size) fun b h => by omega)
      rw [show decide ((2 : Int) = 2) = true from by decide, errV_no (show (2 : Int) ≠ 0 by decide)]
      clear hb I3
      have R4 := hid (R0.out.keep (Same.of_below P4.out fun b h => h))
      have Z4 := hid (H.out.keep (Same.of_below (B1.out.trans ((hB.out.trans (P4.out.mono sB)).mono s1)) fun b h => h))
      have B4 := hid (B1.out.trans ((hB.out.trans (P4.out.mono sB)).mono s1))
      clear P2 P3 R0 hM hS
      go_wp2_with fail
      go_loopw [18, 19, 20] (fun tv _ _ wr => ∃ t : Nat, t ≤ N ∧ tv = .int .i64 t ∧ Hid (Below w4.heap.size w4 wr)) (fun tv _ _ _ => N - (intOf tv).toNat)
      case atStart => exact ⟨0, Nat.zero_le _, rfl, Below.refl _ _⟩
      case round =>
        obtain ⟨t, ht, rfl, hB9⟩ := hrel
        have s9 := hB9.out.size
        by_cases htt : t < N
        · have j1 : (t : Int) < (N : Int) := by omega
          have t2 : Hid (t < 2 ^ n) := by show t < _; rw [← HN.out]; exact htt
          go_wp2_with fail
          refine (which_any n t l (fun b => b < wo.heap.size) _ wr (fun b h => by omega) (R4.out.keep (Same.of_below hB9.out fun b h => by omega)) n1 n6 l12 t2.out).mono ?_
          rintro e w5 ⟨rfl, hb⟩
          have s5 := hb.size
          have B5 := hid (hB9.out.trans (hb.mono s9))
          have C1 : Hid (∀ wq, Same (fun b => b < w4.heap.size) w5 wq → Calls Tryd.prog 28 #[.slice A zs.length c, .int .i64 t] wq (Quiet wq (.bool (decide ((t : Int) ∈ zs))))) := fun wq hq => rin_quiet zs t _ _ _ (((Z4.out.keep (Same.of_below B5.out fun b h => by omega)).more (F' := fun b => b < w4.heap.size) fun b h => by omega).keep hq)
          have C2 : Hid (∀ wq, Same (fun b => b < w4.heap.size) w5 wq → Calls Tryd.prog 28 #[.slice A2 h.length c2, .int .i64 t] wq (Quiet wq (.bool (decide ((t : Int) ∈ h))))) := fun wq hq => rin_quiet h t _ _ _ ((I4.out.keep (Same.of_below B5.out fun b h => h)).keep hq)
          have E1 := hid (SY.out.whichC t2.out)
          have E2 := hid (SY.out.holes t2.out)
          rw [← HLL.out] at E1 E2
          rw [← HH.out] at E2
          rw [E2.out] at C2
          clear hb
          by_cases hmem : (t : Int) ∈ zs
          · have E3 : whichD n t l = t := by rw [HLL.out]; exact SY.out.whichD t2.out hmem
            rw [decide_eq_true hmem] at C1 C2
            rw [Bool.not_true] at C2
            rw [E3, E1.out, if_pos hmem, errV_0]
            clear E3 hmem
            go_upto_region 30 with fail
            go_quiet ((go_at_call 28; first | ((with_reducible refine Calls.quiet_of (C1.out _ ?_)); exact fun _ _ => rfl) | ((with_reducible refine Calls.quiet_of (C2.out _ ?_)); exact fun _ _ => rfl)))
            have B6 := hid (below_drewN B5.out nq)
            go_wp2_with fail
            go_roundw
            case rel => exact ⟨t + 1, by omega, by go_num, B6⟩
            case measure => simp [intOf]; omega
          · rw [decide_eq_false hmem] at C1 C2
            rw [Bool.not_false] at C2
            rw [E1.out, if_neg hmem, errV_no (by decide)]
            generalize whichD n t l = dd
            clear hmem
            go_upto_region 30 with fail
            go_quiet ((go_at_call 28; first | ((with_reducible refine Calls.quiet_of (C1.out _ ?_)); exact fun _ _ => rfl) | ((with_reducible refine Calls.quiet_of (C2.out _ ?_)); exact fun _ _ => rfl)))
            have B6 := hid (below_drewN B5.out nq)
            go_wp2_with fail
            go_roundw
            case rel => exact ⟨t + 1, by omega, by go_num, B6⟩
            case measure => simp [intOf]; omega
        · have j1 : ¬ (t : Int) < (N : Int) := by omega
          go_wp2_with fail
          go_ret
          exact ⟨rfl, B4.out.trans (hB9.out.mono (by omega))⟩
end Go.Proofs.YtkiljnggphlomaaDoor
