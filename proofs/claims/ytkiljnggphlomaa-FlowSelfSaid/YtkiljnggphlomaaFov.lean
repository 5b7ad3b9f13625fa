/- What flow.Reach and flow.Over return. No conditions. -/
import Derived.Test.YtkiljnggphlomaaFmv
import Derived.Test.YtkiljnggphlomaaOwh
namespace Go.Proofs.Ytkiljnggphlomaa
open Go.RowKit Go.Deep
def reachR (n : Int) (l : EdgeL) : List Int := if flowC n l = 0 then filtI (fun i => bAt (mets n.toNat l (-1)) i) n.toNat else []
set_option maxRecDepth 100000 in
set_option maxHeartbeats 2000000 in
theorem reach_any (n : Int) (l : EdgeL) (F : Nat → Prop) (v : Value) (w : World) (hF : ∀ b, F b → b < w.heap.size) (hv : EdgesIn F w v l) :
    Calls Try.prog 12 #[.int .i64 n, v] w fun e w' => ∃ r, e = .returned (.tuple #[r, errV (flowC n l)]) ∧ Below w.heap.size w w' ∧ w'.ownsRow w.heap.size 3 1 r (reachR n l).length ((reachR n l).map (Value.int .i64)) := by
  have H := hid hv
  have HF := hid hF
  obtain ⟨A, c, rfl, hc, _, _⟩ := hv
  unfold maxLen at hc
  clear hF
  obtain ⟨i0, hi, hz0, hz1, hz2⟩ := info_parts infoInt
  by_cases hg : flowC n l = 0
  · have HG := hid hg
    have R : reachR n l = filtI (fun i => bAt (mets n.toNat l (-1)) i) n.toNat := by unfold reachR; rw [if_pos hg]
    rw [R]
    clear R
    obtain ⟨g1, g2, g3, _⟩ := flow_good hg
    obtain ⟨m, rfl⟩ : ∃ m : Nat, n = (m : Int) := ⟨n.toNat, by omega⟩
    rw [Int.toNat_natCast]
    have m12 : m ≤ 12 := by omega
    clear hg g1 g2
    go_enter Try.func12, Try.ntmps12
    go_wp2_with fail
    refine (fcheck_any m l F _ w HF.out H.out).mono ?_
    rintro e w1 ⟨rfl, hb1⟩
    have B1 := hid hb1
    rw [HG.out, errV_0]
    clear hb1
    go_wp2_with fail
    refine (met_any m l (-1) F _ w1 (fun b hb => Nat.lt_of_lt_of_le (HF.out b hb) B1.out.size) (H.out.keep (Same.of_below B1.out HF.out)) HG.out).mono ?_
    rintro e w2 ⟨ob, rfl, hb2, hob, hd⟩
    have B2 := hid (B1.out.trans (hb2.mono B1.out.size))
    have D2 := hid hd
    have lo : w.heap.size ≤ ob := Nat.le_trans B1.out.size hob
    have obl : ob < w2.heap.size := Has.lt hd
    obtain ⟨q, hq⟩ : ∃ q, q = mets m l (-1) := ⟨_, rfl⟩
    have QL : q.length = m := by rw [hq]; exact mets_len m l (fun e he => (flow_good HG.out).2.2.2 e he |>.2.2.1) _
    have QL' := hid QL
    rw [← hq] at D2
    have HQ := hid hq
    clear hb2 hd hq QL
    go_wp2_with fail
    go_loopw [7, 20] (fun ov iv wr => ∃ (j : Nat), j ≤ m ∧ iv = .int .i64 j ∧ Hid (wr.ownsRow w2.heap.size 3 1 ov (filtI (fun i => bAt q i) j).length ((filtI (fun i => bAt q i) j).map (Value.int .i64))) ∧ Hid (Below w2.heap.size w2 wr)) (fun _ iv _ => m - (intOf iv).toNat)
    case atStart => exact ⟨0, Nat.zero_le _, rfl, World.ownsRow_nil _ _ _ _, Below.refl _ _⟩
    case round =>
      obtain ⟨j, hj, rfl, hO, hB⟩ := hrel
      have sB := hB.out.size
      by_cases hlt : j < m
      · obtain ⟨x, hx⟩ : ∃ x, x = bAt q j := ⟨_, rfl⟩
        have c1 : wr.cell? ⟨ob, j, none⟩ = some (.bool x) := by
          rw [hx]; exact (Has.cell (Has.below D2.out hB.out obl) j).trans (bls_at (by rw [QL'.out]; exact hlt))
        have i1 : (j : Int) < (m : Int) := by omega
        have HX := hid hx
        have FL := filtI_len (fun i => bAt q i) j
        clear hx
        cases x with
        | true =>
          have E := hid (filtI_yes (p := fun i => bAt q i) HX.out.symm)
          obtain ⟨A7, c7, rfl, _, _⟩ := own_sl hO.out
          go_wp2_with (at_builtin; refine wpList_app _ rfl _ _ 22 rfl w2.heap.size 3 i0 (.int .i64 0) 1 8 Try.underlying22 hi hz0 hz1 hz2 rfl (by decide) _ _ _ rfl (hO.out.alloc _) _ _ 1 [.int .i64 j] rfl (cells_1 _ _ _ (by simp)) (by intro u hu; simp at hu; subst hu; rfl) (by unfold maxLen; omega) (by omega) (by simp; omega) ?_; intro v5 w5 hown5 hgrow5 _; have O5 := hid hown5; have B5 : Hid (Below w2.heap.size w2 w5) := (hB.out.alloc sB _).grown hgrow5 (by simp; omega) (fun k hk => own_ge hO.out k hk); clear hown5 hgrow5)
          go_roundw
          case rel => exact ⟨j + 1, by omega, by go_num, by show World.ownsRow _ _ _ _ _ _ _; rw [E.out]; simpa using O5.out, B5⟩
          case measure => simp [intOf]; omega
        | false =>
          have E := hid (filtI_no (p := fun i => bAt q i) HX.out.symm)
          go_wp2_with fail
          go_roundw
          case rel => exact ⟨j + 1, by omega, by go_num, by show World.ownsRow _ _ _ _ _ _ _; rw [E.out]; exact hO.out, hB⟩
          case measure => simp [intOf]; omega
      · obtain rfl : j = m := by omega
        go_wp2_with fail
        go_ret2
        exact ⟨_, by rw [HG.out]; rfl, B2.out.trans (hB.out.mono B2.out.size), by rw [← HQ.out]; exact own_lo hO.out B2.out.size⟩
  · have R : reachR n l = [] := by unfold reachR; rw [if_neg hg]
    have E : errV (flowC n l) = .iface 47 (.int .i64 (flowC n l)) := by unfold errV; rw [if_neg hg]
    rw [R, E]
    have HE := hid E
    clear R E
    go_enter Try.func12, Try.ntmps12
    go_wp2_with fail
    refine (fcheck_any n l F _ w HF.out H.out).mono ?_
    rintro e w1 ⟨rfl, hb1⟩
    rw [HE.out]
    have B1 := hid hb1
    clear hb1
    go_wp2_with fail
    go_ret2
    exact ⟨_, rfl, B1.out, World.ownsRow_nil _ _ _ _⟩
def overC (n : Int) (l : EdgeL) (i : Int) : Int := if flowC n l ≠ 0 then flowC n l else if i < 0 ∨ n ≤ i then 1 else if bAt (mets n.toNat l (-1)) i.toNat = false then 2 else 0
def overR (n : Int) (l : EdgeL) (i : Int) : List Int := if overC n l i = 0 then filtI (fun k => !bAt (mets n.toNat l (k : Int)) i.toNat) n.toNat else []
set_option maxRecDepth 100000 in
set_option maxHeartbeats 2000000 in
theorem over_any (n : Int) (l : EdgeL) (i : Int) (F : Nat → Prop) (v : Value) (w : World) (hF : ∀ b, F b → b < w.heap.size) (hv : EdgesIn F w v l) :
    Calls Try.prog 11 #[.int .i64 n, v, .int .i64 i] w fun e w' => ∃ r, e = .returned (.tuple #[r, errV (overC n l i)]) ∧ Below w.heap.size w w' ∧ w'.ownsRow w.heap.size 3 1 r (overR n l i).length ((overR n l i).map (Value.int .i64)) := by
  have H := hid hv
  have HF := hid hF
  obtain ⟨A, c, rfl, hc, _, _⟩ := hv
  unfold maxLen at hc
  clear hF
  obtain ⟨i0, hi, hz0, hz1, hz2⟩ := info_parts infoInt
  by_cases hg : flowC n l = 0
  · have HG := hid hg
    obtain ⟨g1, g2, g3, _⟩ := flow_good hg
    obtain ⟨m, rfl⟩ : ∃ m : Nat, n = (m : Int) := ⟨n.toNat, by omega⟩
    have m12 : m ≤ 12 := by omega
    clear hg g1 g2
    by_cases hr : i < 0 ∨ (m : Int) ≤ i
    · have C : overC m l i = 1 := by unfold overC; rw [if_neg (by rw [HG.out]; simp), if_pos hr]
      have R : overR m l i = [] := by unfold overR; rw [C]; rfl
      rw [R, C]
      clear R C
      go_enter Try.func11, Try.ntmps11
      go_wp2_with fail
      refine (fcheck_any m l F _ w HF.out H.out).mono ?_
      rintro e w1 ⟨rfl, hb1⟩
      have B1 := hid hb1
      rw [HG.out, errV_0]
      clear hb1
      go_wp2_with fail
      all_goals first | (exfalso; omega) | skip
      all_goals go_ret2
      all_goals exact ⟨_, rfl, B1.out, World.ownsRow_nil _ _ _ _⟩
    · obtain ⟨k, rfl⟩ : ∃ k : Nat, i = (k : Int) := ⟨i.toNat, by omega⟩
      have km : k < m := by omega
      have km2 : (k : Int) < (m : Int) := by omega
      obtain ⟨x, hx⟩ : ∃ x, x = bAt (mets m l (-1)) k := ⟨_, rfl⟩
      have HX := hid hx
      have C : overC m l k = if x = false then 2 else 0 := by unfold overC; rw [if_neg (by rw [HG.out]; simp), if_neg hr, Int.toNat_natCast, Int.toNat_natCast, hx]
      have R : overR m l k = if x = false then [] else filtI (fun j => !bAt (mets m l (j : Int)) k) m := by
        unfold overR; rw [C, Int.toNat_natCast, Int.toNat_natCast]; cases x <;> simp
      rw [R, C]
      clear R C hr hx
      go_enter Try.func11, Try.ntmps11
      go_wp2_with fail
      refine (fcheck_any m l F _ w HF.out H.out).mono ?_
      rintro e w1 ⟨rfl, hb1⟩
      have B1 := hid hb1
      rw [HG.out, errV_0]
      clear hb1
      go_wp2_with fail
      all_goals first | (exfalso; omega) | skip
      refine (met_any m l (-1) F _ w1 (fun b hb => Nat.lt_of_lt_of_le (HF.out b hb) B1.out.size) (H.out.keep (Same.of_below B1.out HF.out)) HG.out).mono ?_
      rintro e w2 ⟨ob, rfl, hb2, hob, hd⟩
      have B2 := hid (B1.out.trans (hb2.mono B1.out.size))
      have c1 : w2.cell? ⟨ob, k, none⟩ = some (.bool x) := by
        rw [HX.out]; exact (Has.cell hd k).trans (bls_at (by rw [mets_len m l (fun e he => ((flow_good HG.out).2.2.2 e he).2.2.1)]; exact km))
      clear hb2 hd hob
      cases x with
      | false =>
        go_wp2_with fail
        go_ret2
        exact ⟨_, rfl, B2.out, World.ownsRow_nil _ _ _ _⟩
      | true =>
        go_wp2_with fail
        clear c1
        go_loopw [9, 34] (fun ov iv wr => ∃ (j : Nat), j ≤ m ∧ iv = .int .i64 j ∧ Hid (wr.ownsRow w2.heap.size 3 1 ov (filtI (fun j => !bAt (mets m l (j : Int)) k) j).length ((filtI (fun j => !bAt (mets m l (j : Int)) k) j).map (Value.int .i64))) ∧ Hid (Below w2.heap.size w2 wr)) (fun _ iv _ => m - (intOf iv).toNat)
        case atStart => exact ⟨0, Nat.zero_le _, rfl, World.ownsRow_nil _ _ _ _, Below.refl _ _⟩
        case round =>
          obtain ⟨j, hj, rfl, hO, hB⟩ := hrel
          have sB := hB.out.size
          by_cases hlt : j < m
          · have i1 : (j : Int) < (m : Int) := by omega
            have FL := filtI_len (fun j => !bAt (mets m l (j : Int)) k) j
            obtain ⟨wo, hwo⟩ : ∃ wo, wo = wr := ⟨_, rfl⟩
            subst hwo
            go_wp2_with fail
            refine (met_any m l j F _ _ (fun b hb => Nat.lt_of_lt_of_le (HF.out b hb) (Nat.le_trans B2.out.size sB)) ((H.out.keep (Same.of_below B2.out HF.out)).keep (Same.of_below hB.out fun b hb => Nat.lt_of_lt_of_le (HF.out b hb) B2.out.size)) HG.out).mono ?_
            rintro e w3 ⟨oc, rfl, hb3, hoc, hd⟩
            have s3 := hb3.size
            have B3 := hid (hB.out.trans (hb3.mono sB))
            have O3 := hid (own_below hO.out hb3)
            obtain ⟨y, hy⟩ : ∃ y, y = bAt (mets m l j) k := ⟨_, rfl⟩
            have HY := hid hy
            have c1 : w3.cell? ⟨oc, k, none⟩ = some (.bool y) := by
              rw [hy]; exact (Has.cell hd k).trans (bls_at (by rw [mets_len m l (fun e he => ((flow_good HG.out).2.2.2 e he).2.2.1)]; exact km))
            clear hb3 hd hoc hy
            cases y with
            | false =>
              have E := hid (filtI_yes (p := fun j => !bAt (mets m l (j : Int)) k) (j := j) (by rw [← HY.out]; rfl))
              obtain ⟨A7, c7, rfl, _, _⟩ := own_sl O3.out
              go_wp2_with (at_builtin; refine wpList_app _ rfl _ _ 22 rfl w2.heap.size 3 i0 (.int .i64 0) 1 8 Try.underlying22 hi hz0 hz1 hz2 rfl (by decide) _ _ _ rfl (O3.out.alloc _) _ _ 1 [.int .i64 j] rfl (cells_1 _ _ _ (by simp)) (by intro u hu; simp at hu; subst hu; rfl) (by unfold maxLen; omega) (by omega) (by simp; omega) ?_; intro v5 w5 hown5 hgrow5 _; have O5 := hid hown5; have B5 : Hid (Below w2.heap.size w2 w5) := (B3.out.alloc (by omega) _).grown hgrow5 (by simp; omega) (fun k hk => own_ge O3.out k hk); clear hown5 hgrow5)
              go_roundw
              case rel => exact ⟨j + 1, by omega, by go_num, by show World.ownsRow _ _ _ _ _ _ _; rw [E.out]; simpa using O5.out, B5⟩
              case measure => simp [intOf]; omega
            | true =>
              have E := hid (filtI_no (p := fun j => !bAt (mets m l (j : Int)) k) (j := j) (by rw [← HY.out]; rfl))
              go_wp2_with fail
              go_roundw
              case rel => exact ⟨j + 1, by omega, by go_num, by show World.ownsRow _ _ _ _ _ _ _; rw [E.out]; exact O3.out, B3⟩
              case measure => simp [intOf]; omega
          · obtain rfl : j = m := by omega
            go_wp2_with fail
            go_ret2
            exact ⟨_, rfl, B2.out.trans (hB.out.mono B2.out.size), by simpa using own_lo hO.out B2.out.size⟩
  · have C : overC n l i = flowC n l := by unfold overC; rw [if_pos hg]
    have R : overR n l i = [] := by unfold overR; rw [C, if_neg hg]
    have E : errV (flowC n l) = .iface 47 (.int .i64 (flowC n l)) := by unfold errV; rw [if_neg hg]
    rw [R, C, E]
    have HE := hid E
    clear R E C
    go_enter Try.func11, Try.ntmps11
    go_wp2_with fail
    refine (fcheck_any n l F _ w HF.out H.out).mono ?_
    rintro e w1 ⟨rfl, hb1⟩
    rw [HE.out]
    have B1 := hid hb1
    clear hb1
    go_wp2_with fail
    go_ret2
    exact ⟨_, rfl, B1.out, World.ownsRow_nil _ _ _ _⟩
end Go.Proofs.Ytkiljnggphlomaa
