/- What flow.Reach returns. No conditions. -/
import Derived.Test.YtkiljnggphlomaaDoorFmv
import Derived.Test.YtkiljnggphlomaaDoorOwh
namespace Go.Proofs.YtkiljnggphlomaaDoor
open Go.RowKit Go.Deep
def reachR (n : Int) (l : EdgeL) : List Int := if flowC n l = 0 then filtI (fun i => bAt (mets n.toNat l (-1)) i) n.toNat else []
set_option maxRecDepth 100000 in
set_option maxHeartbeats 2000000 in
theorem reach_any (n : Int) (l : EdgeL) (F : Nat → Prop) (v : Value) (w : World) (hF : ∀ b, F b → b < w.heap.size) (hv : EdgesIn F w v l) :
    Calls Tryd.prog 12 #[.int .i64 n, v] w fun e w' => ∃ r, e = .returned (.tuple #[r, errV (flowC n l)]) ∧ Below w.heap.size w w' ∧ w'.ownsRow w.heap.size 3 1 r (reachR n l).length ((reachR n l).map (Value.int .i64)) := by
  have H := hid hv
  have HF := hid hF
  obtain ⟨A, c, rfl, hc, _, _⟩ := hv
  unfold maxLen at hc
  clear hF
  obtain ⟨i0, hi, hz0, hz1, hz2⟩ := info_parts infoInt
  by_cases hg : flowC n l = 0
  · have HG := hid hg
    have R : reachR n l = filtI (fun i => bAt (mets n.toNat l (-1)) i) n.toNat := by unfold reachR; rw [if_pos hg]
    rw [R]
    clear R
    obtain ⟨g1, g2, g3, _⟩ := flow_good hg
    obtain ⟨m, rfl⟩ : ∃ m : Nat, n = (m : Int) := ⟨n.toNat, by omega⟩
    rw [Int.toNat_natCast]
    have m12 : m ≤ 12 := by omega
    clear hg g1 g2
    go_enter Tryd.func12, Tryd.ntmps12
    go_wp2_with fail
    refine (fcheck_any m l F _ w HF.out H.out).mono ?_
    rintro e w1 ⟨rfl, hb1⟩
    have B1 := hid hb1
    rw [HG.out, errV_0]
    clear hb1
    go_wp2_with fail
    refine (met_any m l (-1) F _ w1 (fun b hb => Nat.lt_of_lt_of_le (HF.out b hb) B1.out.size) (H.out.keep (Same.of_below B1.out HF.out)) HG.out).mono ?_
    rintro e w2 ⟨ob, rfl, hb2, hob, hd⟩
    have B2 := hid (B1.out.trans (hb2.mono B1.out.size))
    have D2 := hid hd
    have lo : w.heap.size ≤ ob := Nat.le_trans B1.out.size hob
    have obl : ob < w2.heap.size := Has.lt hd
    obtain ⟨q, hq⟩ : ∃ q, q = mets m l (-1) := ⟨_, rfl⟩
    have QL : q.length = m := by rw [hq]; exact mets_len m l (fun e he => (flow_good HG.out).2.2.2 e he |>.2.2.1) _
    have QL' := hid QL
    rw [← hq] at D2
    have HQ := hid hq
    clear hb2 hd hq QL
    go_wp2_with fail
    go_loopw [7, 20] (fun ov iv wr => ∃ (j : Nat), j ≤ m ∧ iv = .int .i64 j ∧ Hid (wr.ownsRow w2.heap.size 3 1 ov (filtI (fun i => bAt q i) j).length ((filtI (fun i => bAt q i) j).map (Value.int .i64))) ∧ Hid (Below w2.heap.size w2 wr)) (fun _ iv _ => m - (intOf iv).toNat)
    case atStart => exact ⟨0, Nat.zero_le _, rfl, World.ownsRow_nil _ _ _ _, Below.refl _ _⟩
    case round =>
      obtain ⟨j, hj, rfl, hO, hB⟩ := hrel
      have sB := hB.out.size
      by_cases hlt : j < m
      · obtain ⟨x, hx⟩ : ∃ x, x = bAt q j := ⟨_, rfl⟩
        have c1 : wr.cell? ⟨ob, j, none⟩ = some (.bool x) := by
          rw [hx]; exact (Has.cell (Has.below D2.out hB.out obl) j).trans (bls_at (by rw [QL'.out]; exact hlt))
        have i1 : (j : Int) < (m : Int) := by omega
        have HX := hid hx
        have FL := filtI_len (fun i => bAt q i) j
        clear hx
        cases x with
        | true =>
          have E := hid (filtI_yes (p := fun i => bAt q i) HX.out.symm)
          obtain ⟨A7, c7, rfl, _, _⟩ := own_sl hO.out
          go_wp2_with (at_builtin; refine wpList_app _ rfl _ _ 23 rfl w2.heap.size 3 i0 (.int .i64 0) 1 8 Tryd.underlying23 hi hz0 hz1 hz2 rfl (by decide) _ _ _ rfl (hO.out.alloc _) _ _ 1 [.int .i64 j] rfl (cells_1 _ _ _ (by simp)) (by intro u hu; simp at hu; subst hu; rfl) (by unfold maxLen; omega) (by omega) (by simp; omega) ?_; intro v5 w5 hown5 hgrow5 _; have O5 := hid hown5; have B5 : Hid (Below w2.heap.size w2 w5) := (hB.out.alloc sB _).grown hgrow5 (by simp; omega) (fun k hk => own_ge hO.out k hk); clear hown5 hgrow5)
          go_roundw
          case rel => exact ⟨j + 1, by omega, by go_num, by show World.ownsRow _ _ _ _ _ _ _; rw [E.out]; simpa using O5.out, B5⟩
          case measure => simp [intOf]; omega
        | false =>
          have E := hid (filtI_no (p := fun i => bAt q i) HX.out.symm)
          go_wp2_with fail
          go_roundw
          case rel => exact ⟨j + 1, by omega, by go_num, by show World.ownsRow _ _ _ _ _ _ _; rw [E.out]; exact hO.out, hB⟩
          case measure => simp [intOf]; omega
      · obtain rfl : j = m := by omega
        go_wp2_with fail
        go_ret2
        exact ⟨_, by rw [HG.out]; rfl, B2.out.trans (hB.out.mono B2.out.size), by rw [← HQ.out]; exact own_lo hO.out B2.out.size⟩
  · have R : reachR n l = [] := by unfold reachR; rw [if_neg hg]
    have E : errV (flowC n l) = .iface 59 (.int .i64 (flowC n l)) := by unfold errV; rw [if_neg hg]
    rw [R, E]
    have HE := hid E
    clear R E
    go_enter Tryd.func12, Tryd.ntmps12
    go_wp2_with fail
    refine (fcheck_any n l F _ w HF.out H.out).mono ?_
    rintro e w1 ⟨rfl, hb1⟩
    rw [HE.out]
    have B1 := hid hb1
    clear hb1
    go_wp2_with fail
    go_ret2
    exact ⟨_, rfl, B1.out, World.ownsRow_nil _ _ _ _⟩
end Go.Proofs.YtkiljnggphlomaaDoor
