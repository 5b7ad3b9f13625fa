/- What flow.Left returns. Condition: a way of at most 2^44 nodes. -/
import Derived.Test.YtkiljnggphlomaaDoorFlg
import Derived.Test.YtkiljnggphlomaaDoorFmt
namespace Go.Proofs.YtkiljnggphlomaaDoor
open Go.RowKit Go.Maps Go.WideMaps Go.Deep
set_option maxRecDepth 100000 in
set_option maxHeartbeats 2000000 in
theorem left_any (n : Int) (l : EdgeL) (way : List Int) (F : Nat → Prop) (v vw : Value) (w : World) (hF : ∀ b, F b → b < w.heap.size) (hv : EdgesIn F w v l) (hw : IntsIn .i64 F w vw way) (hz : way.length ≤ 17592186044416) :
    Calls Tryd.prog 11 #[.int .i64 n, v, vw] w fun e w' => ∃ r, e = .returned (.tuple #[r, errV (leftC n l way)]) ∧ Below w.heap.size w w' ∧ w'.ownsRow w.heap.size 32 2 r (leftG n l way).length (ecells (leftG n l way)) := by
  have H := hid hv
  have HF := hid hF
  have HWY := hid hw
  obtain ⟨A, c, rfl, hc, hwf, _⟩ := hv
  have WF := hid hwf
  obtain ⟨A2, c2, rfl, hc2, hwf2, h3⟩ := hw
  have WF2 := hid hwf2
  have H3 := hid h3
  unfold maxLen at hc hc2
  have hmm := @run_makeMap Tryd.prog
  clear hF hwf hwf2 h3
  by_cases h0 : flowC n l = 0
  · have HG := hid h0
    have LEN : Hid (l.length ≤ 30) := (flow_good h0).2.2.1
    by_cases hb0 : way.length = 0 ∨ at0 way 0 ≠ 0
    · have C : leftC n l way = 3 := by unfold leftC; rw [if_neg (by rw [h0]; simp), if_pos hb0]
      have L : leftG n l way = [] := by unfold leftG; rw [C]; rfl
      rw [L, C]
      clear L C h0 hmm
      go_enter Tryd.func11, Tryd.ntmps11
      go_wp2_with fail
      refine (fcheck_any n l F _ w HF.out H.out).mono ?_
      rintro e w1 ⟨rfl, hb1⟩
      have B1 := hid hb1
      rw [HG.out, errV_0]
      by_cases hl0 : way.length = 0
      · have e0 : ((way.length : Int) == 0) = true := by simp [hl0]
        have e1 : (way.length == 0) = true := by simp [hl0]
        clear hb1 hl0 hb0
        go_wp2_with fail
        all_goals first | (exfalso; simp_all; done) | skip
        all_goals go_ret2
        all_goals exact ⟨_, rfl, B1.out, World.ownsRow_nil _ _ _ _⟩
      · have hx : at0 way 0 ≠ 0 := hb0.resolve_left hl0
        obtain ⟨g, o, rfl, hg, hcl⟩ := H3.out (by omega)
        have c0 : w1.cell? ⟨g, o, none⟩ = some (.int .i64 (at0 way 0)) := (hb1.cell (p := ⟨g, o, none⟩) (HF.out g hg)).trans (by have := hcl 0 (by omega); simpa [at0] using this)
        generalize at0 way 0 = x0 at c0 hx
        have z0 : (x0 == 0) = false := by simp [hx]
        have z1 : (x0 != 0) = true := by simp [hx]
        have e0 : ((way.length : Int) == 0) = false := by simp; intro h; exact hl0 (by simp [h])
        have e1 : (way.length == 0) = false := by simp; intro h; exact hl0 (by simp [h])
        have lp : 0 < (way.length : Int) := by omega
        clear hb1 hb0 hcl hl0 hx
        go_wp2_with fail
        all_goals first | (exfalso; simp_all; done) | skip
        all_goals go_ret2
        all_goals exact ⟨_, rfl, B1.out, World.ownsRow_nil _ _ _ _⟩
    · have hl0 : way.length ≠ 0 := fun h => hb0 (.inl h)
      have hx0 : at0 way 0 = 0 := by
        by_cases h : at0 way 0 = 0
        · exact h
        · exact absurd (.inr h) hb0
      have HL0 := hid hl0
      have HX0 := hid hx0
      have K1 := hid (leftC_none (n := n) (l := l) h0 hl0 hx0)
      have K2 := hid (fun p => leftC_hit (n := n) (l := l) (p := p) h0 hl0 hx0)
      obtain ⟨g, o, rfl, hg, hcl⟩ := H3.out (by omega)
      have HCL := hid hcl
      have hgl := HF.out g hg
      have e0 : ((way.length : Int) == 0) = false := by simp; intro h; exact hl0 (by simp [h])
      have e1 : (way.length == 0) = false := by simp; intro h; exact hl0 (by simp [h])
      have lp : 0 < (way.length : Int) := by omega
      clear hb0 hl0 hx0 h0 hcl
      go_enter Tryd.func11, Tryd.ntmps11
      go_wp2_with fail
      refine (fcheck_any n l F _ w HF.out H.out).mono ?_
      rintro e w1 ⟨rfl, hb1⟩
      have B1 := hid hb1
      have s1 := hb1.size
      have c0 : w1.cell? ⟨g, o, none⟩ = some (.int .i64 0) := (hb1.cell (p := ⟨g, o, none⟩) hgl).trans (by have := HCL.out 0 (by have := HL0.out; omega); rw [← HX0.out]; simpa [at0] using this)
      rw [HG.out, errV_0]
      clear hb1
      go_wp2_with fail
      clear c0 hmm e0 e1 lp
      have BX : Hid (Below w1.heap.size w1 ((w1.alloc (.map #[] 0)).alloc (.cells #[.map (some w1.heap.size)] 76))) := ((Below.refl _ _).alloc (Nat.le_refl _) _).alloc (by simp) _
      have M0 : Hid (SetE ((w1.alloc (.map #[] 0)).alloc (.cells #[.map (some w1.heap.size)] 76)) w1.heap.size []) := ⟨0, by simp, (World.ownsMap_made w1 Tryd.prog 32 (unitElem (H := Unit))).alloc _⟩
      have X0 := hid ((Has.cell (Has.newAt (g := w1.heap.size + 1) (w1.alloc (.map #[] 0)) (.cells #[.map (some w1.heap.size)] 76) (by simp)) 0).trans rfl)
      have sX : ((w1.alloc (.map #[] 0)).alloc (.cells #[.map (some w1.heap.size)] 76)).heap.size = w1.heap.size + 2 := by simp
      generalize (w1.alloc (.map #[] 0)).alloc (.cells #[.map (some w1.heap.size)] 76) = w2 at *
      go_loopw [10] (fun kv wr => ∃ k : Nat, kv = .int .i64 k ∧ 1 ≤ k ∧ k ≤ way.length ∧ Hid (∀ p ∈ gone way k, p ∈ l) ∧ Hid (SetE wr w1.heap.size (gone way k)) ∧ Hid (Below w1.heap.size w1 wr) ∧ Hid (wr.cell? ⟨w1.heap.size + 1, 0, none⟩ = some (.map (some w1.heap.size))) ∧ w1.heap.size + 2 ≤ wr.heap.size) (fun kv _ => way.length - (intOf kv).toNat)
      case atStart => exact ⟨1, rfl, Nat.le_refl _, by have := HL0.out; omega, by show ∀ p ∈ gone way 1, p ∈ l; rw [gone_one]; simp, M0, BX, X0, by omega⟩
      case round =>
        obtain ⟨k, rfl, hk1, hk, hP, hS, hB, hX, hs⟩ := hrel
        clear M0 X0 sX
        by_cases hlt : k < way.length
        · have c1 := (hB.out.cell (p := ⟨g, o + (k - 1), none⟩) (by show g < _; omega)).trans ((B1.out.cell (p := ⟨g, o + (k - 1), none⟩) hgl).trans (HCL.out (k - 1) (by omega)))
          have c2 := (hB.out.cell (p := ⟨g, o + k, none⟩) (by show g < _; omega)).trans ((B1.out.cell (p := ⟨g, o + k, none⟩) hgl).trans (HCL.out k (by omega)))
          have GS := gone_succ way k hk1
          have WX : wf64 (at0 way (k - 1)) ∧ wf64 (at0 way k) := ⟨WF2.out _ (mem_at (by omega)), WF2.out _ (mem_at (by omega))⟩
          have PM : (at0 way (k - 1), at0 way k) ∈ gone way way.length := gone_mono (k := k + 1) (by omega) (by rw [GS]; simp)
          change wr.cell? _ = some (.int .i64 (at0 way (k - 1))) at c1
          change wr.cell? _ = some (.int .i64 (at0 way k)) at c2
          generalize at0 way (k - 1) = x at c1 GS WX PM
          generalize at0 way k = y at c2 GS WX PM
          have HGS := hid GS
          have HWX := hid WX
          have HPM := hid PM
          obtain ⟨k', rfl⟩ : ∃ k', k = k' + 1 := ⟨k - 1, by omega⟩
          have u1 : IntKind.i64.wrap (((k' + 1 : Nat) : Int) - 1) = (k' : Int) := by rw [IntWalk.i64_in _ (by omega)]; omega
          have u2 : IntKind.i64.wrap (k' : Int) = (k' : Int) := IntWalk.i64_in _ (by omega)
          have u3 : IntKind.i64.wrap ((k' : Int) + 1 - 1) = (k' : Int) := by rw [IntWalk.i64_in _ (by omega)]; omega
          have i3 : (k' : Int) + 1 < (way.length : Int) := by omega
          have i4 : k' < way.length := by omega
          have i1 : ((k' + 1 : Nat) : Int) < (way.length : Int) := by omega
          have i2 : (k' : Int) < (way.length : Int) := by omega
          simp only [Nat.add_sub_cancel] at c1
          clear GS WX PM
          obtain ⟨wo, hwo⟩ : ∃ wo, wo = wr := ⟨_, rfl⟩
          subst hwo
          have i5 : (0 : Int) ≤ (k' : Int) + 1 := by omega
          have i6 : (0 : Int) ≤ (k' : Int) := by omega
          have gw : g < wo.heap.size := by omega
          have n1 := World.new_ne wo ⟨g, o + k', none⟩ c1
          have n2 := World.new_ne wo ⟨g, o + (k' + 1), none⟩ c2
          go_upto_region 10 with fail
          go_cut [11] (fun bx wx => bx = .pointer (some ⟨wo.heap.size, 0, none⟩) ∧ ∃ q, wx = (wo.alloc (.cells #[.int .i64 x, .int .i64 y] 32)).drewN q)
          case first =>
            go_region_held3 (fun w' => w'.cell? ⟨g, o + k', none⟩ = some (.int .i64 x) ∧ w'.cell? ⟨g, o + (k' + 1), none⟩ = some (.int .i64 y)) (go_keep) (fail)
            all_goals go_wp2_with fail
            all_goals go_meet
            all_goals exact ⟨rfl, by first | exact ⟨0, rfl⟩ | exact ⟨1, rfl⟩ | exact ⟨_, rfl⟩⟩
          case rest =>
          obtain ⟨rfl, q, rfl⟩ := hcut
          have B3 : Hid (Below w1.heap.size w1 ((wo.alloc (.cells #[.int .i64 x, .int .i64 y] 32)).drewN q)) := below_drewN (hB.out.alloc (by omega) _) q
          have BW : Below wo.heap.size wo ((wo.alloc (.cells #[.int .i64 x, .int .i64 y] 32)).drewN q) := below_drewN ((Below.refl _ _).alloc (Nat.le_refl _) _) q
          have S3 := hid (hS.out.below BW hS.out.lt)
          have X3 : Hid (((wo.alloc (.cells #[.int .i64 x, .int .i64 y] 32)).drewN q).cell? ⟨w1.heap.size + 1, 0, none⟩ = some (.map (some w1.heap.size))) := (BW.cell (p := ⟨w1.heap.size + 1, 0, none⟩) (cell_lt hX.out)).trans hX.out
          have E3 : ((wo.alloc (.cells #[.int .i64 x, .int .i64 y] 32)).drewN q).heap[wo.heap.size]? = some (.cells #[.int .i64 x, .int .i64 y] 32 (0, 0)) := Has.new wo (.cells #[.int .i64 x, .int .i64 y] 32)
          have sw3 : ((wo.alloc (.cells #[.int .i64 x, .int .i64 y] 32)).drewN q).heap.size = wo.heap.size + 1 := by simp
          generalize (wo.alloc (.cells #[.int .i64 x, .int .i64 y] 32)).drewN q = w3 at *
          have e0 := (Has.cell E3 0).trans rfl
          have e1 := (Has.cell E3 1).trans rfl
          clear n1 n2 c1 c2 BW
          go_wp2_with fail
          refine (econt_any (x, y) l F _ w3 (fun b hb => by have := HF.out b hb; omega) ((H.out.keep (Same.of_below B1.out HF.out)).keep (Same.of_below B3.out fun b hb => Nat.lt_of_lt_of_le (HF.out b hb) s1))).mono ?_
          rintro e w4 ⟨rfl, hb4⟩
          have s4 := hb4.size
          have B4 := hid (B3.out.trans (hb4.mono (by omega)))
          have S4 := S3.out.below hb4 S3.out.lt
          have x4 := (hb4.cell (p := ⟨w1.heap.size + 1, 0, none⟩) (cell_lt X3.out)).trans X3.out
          have E4 := Has.below E3 hb4 (Has.lt E3)
          clear e0 e1 hb4
          have e0 := (Has.cell E4 0).trans rfl
          have e1 := (Has.cell E4 1).trans rfl
          by_cases hin : (x, y) ∈ l
          · have N : Hid (∀ p ∈ gone way (k' + 1 + 1), p ∈ l) := by
              show ∀ p ∈ gone way (k' + 1 + 1), p ∈ l
              intro p hp
              rw [HGS.out] at hp
              rcases List.mem_append.1 hp with h | h
              · exact hP.out p h
              · simp at h; rw [h]; exact hin
            rw [show decide ((x, y) ∈ l) = true from decide_eq_true hin]
            obtain ⟨nm, hnm, hmap⟩ := S4
            rw [gone_len] at hnm
            clear hin E4 E3
            go_wp2_with (at_mapUpdate; refine wpList_mapUpdate_own (H := Unit) _ rfl (.tmp 50) (.tmp 51) (.tmp 52) 76 rfl 32 78 lawE Tryd.underlying76 unitElem w1.heap.size nm _ rfl hmap (by unfold maxLen; omega) _ _ (keyE (x, y)) rfl rfl (keyOf_edge (x, y) HWX.out) (.agg []) [] unitElem_mk ?_; intro w5 hmap5 hgrow5; have S5 : Hid (SetE w5 w1.heap.size (gone way (k' + 1 + 1))) := (by show SetE _ _ _; rw [HGS.out]; exact SetE.put (by rw [gone_len]; exact hnm) hmap5); have B5 : Hid (Below w1.heap.size w1 w5) := B4.out.grown hgrow5 (by omega) (fun j hj => by cases hj; exact Nat.le_refl _); have X5 : Hid (w5.cell? ⟨w1.heap.size + 1, 0, none⟩ = some (.map (some w1.heap.size))) := hgrow5.cell x4 (by simp); have s5 := hgrow5.size; clear hmap5 hgrow5)
            go_roundw
            case rel => exact ⟨k' + 1 + 1, by go_num, by omega, by omega, N, S5, B5, X5, by omega⟩
            case measure => simp [intOf]; omega
          · have C := K2.out (x, y) HPM.out hin
            have L : leftG n l way = [] := by unfold leftG; rw [C]; rfl
            rw [show decide ((x, y) ∈ l) = false from decide_eq_false hin]
            have HC := hid C
            have HL := hid L
            clear hin C L E4 E3
            go_wp2_with fail
            go_ret2
            exact ⟨_, by rw [HC.out]; rfl, B1.out.trans (B4.out.mono s1), by rw [HL.out]; exact World.ownsRow_nil _ _ _ _⟩
        · obtain rfl : k = way.length := by omega
          have C := K1.out hP.out
          have L : leftG n l way = keepE (fun e => decide (e ∈ gone way way.length)) l := by unfold leftG; rw [if_pos C]
          have HC := hid C
          have HL := hid L
          have BW := hid (B1.out.trans (hB.out.mono s1))
          have i0 : decide ((way.length : Int) < (way.length : Int)) = false := by simp
          clear C L
          obtain ⟨wo, hwo⟩ : ∃ wo, wo = wr := ⟨_, rfl⟩
          subst hwo
          go_wp2_with fail
          refine (eclone_any l F _ wo (fun b hb => by have := HF.out b hb; omega) (H.out.keep (Same.of_below BW.out HF.out)) (by have := LEN.out; omega)).mono ?_
          rintro e w3 ⟨r3, rfl, ho, hb3⟩
          have s3 := hb3.size
          have X3 := hid ((hb3.cell (p := ⟨w1.heap.size + 1, 0, none⟩) (cell_lt hX.out)).trans hX.out)
          have S3 := hid (hS.out.below hb3 hS.out.lt)
          have O3 := hid ho
          have B3 := hid (BW.out.trans (hb3.mono (by omega)))
          clear ho hb3
          obtain ⟨r3', hr3⟩ : ∃ r', r' = r3 := ⟨_, rfl⟩
          obtain ⟨A3, c3, rfl, _, _⟩ := own_sl O3.out
          go_wp2_with fail
          refine (edel_any _ _ _ l wo.heap.size _ w3 O3.out WF.out (by have := LEN.out; omega) (B0 := wo.heap.size) s3 (Nat.le_refl _) (gone_asks (w1.heap.size + 1) w1.heap.size w3 _ (gone_wf WF2.out (Nat.le_refl _)) X3.out S3.out wo.heap.size (by omega) (by omega)) enter_left).mono ?_
          rintro e w4 ⟨r4, rfl, ho4, hg4, _⟩
          have B4 : Hid (Below w.heap.size w w4) := B3.out.grown hg4 (by omega) fun j hj => by have := own_ge O3.out j hj; omega
          have O4 := hid (own_lo (base' := w.heap.size) ho4 (by omega))
          clear ho4 hg4
          go_wp2_with fail
          go_ret2
          exact ⟨_, by rw [HC.out]; rfl, B4.out, by rw [HL.out]; exact O4.out⟩
  · have C : leftC n l way = flowC n l := by unfold leftC; rw [if_pos h0]
    have L : leftG n l way = [] := by unfold leftG; rw [C, if_neg h0]
    have E : errV (flowC n l) = .iface 59 (.int .i64 (flowC n l)) := by unfold errV; rw [if_neg h0]
    rw [L, C, E]
    have HE := hid E
    clear E L C hmm
    go_enter Tryd.func11, Tryd.ntmps11
    go_wp2_with fail
    refine (fcheck_any n l F _ w HF.out H.out).mono ?_
    rintro e w1 ⟨rfl, hb1⟩
    rw [HE.out]
    have B1 := hid hb1
    clear hb1
    go_wp2_with fail
    go_ret2
    exact ⟨_, rfl, B1.out, World.ownsRow_nil _ _ _ _⟩
end Go.Proofs.YtkiljnggphlomaaDoor
