/- The law FlowOwn: it returns true, and all that the call was given reads as before. Condition: errors.errorType holds its handle. -/
import Derived.Test.YtkiljnggphlomaaDoorFlw
import Derived.Test.YtkiljnggphlomaaDoorFrc
import Derived.Test.YtkiljnggphlomaaDoorEds
import Derived.Test.YtkiljnggphlomaaDoorIna
import Derived.Test.YtkiljnggphlomaaDoorSpo
import Derived.Test.YtkiljnggphlomaaDoorAst
namespace Go.Proofs.YtkiljnggphlomaaDoor
open Go.RowKit Go.Deep
def LawPost (W : World) (e : Ending) (w' : World) : Prop := e = .returned (.bool true) ∧ Below W.heap.size W w'
theorem fact_reach : reachR 1 [] = [0] ∧ flowC 1 [] = 0 := by decide
set_option maxRecDepth 100000 in
set_option maxHeartbeats 2000000 in
theorem flowOwn_walk (n : Int) (l : EdgeL) (v : Value) (way : List Int) (u : Value) (x : Int) (W : World) (hL : Laid W) (hv : EdgesIn (fun b => b < W.heap.size) W v l) (hu : IntsIn .i64 (fun b => b < W.heap.size) W u way) (hz : l.length * 16 ≤ 140737488351232) (hz2 : way.length * 8 ≤ 140737488351232) :
    Calls Tryd.prog 3 #[.int .i64 n, v, u, .int .i64 x] W (LawPost W) := by
  have HL := hid hL
  have H := hid hv
  have HU := hid hu
  obtain ⟨A, c, rfl, hc, hwf, _⟩ := hv
  have WF := hid hwf
  obtain ⟨A2, c2, rfl, hc2, hwf2, _⟩ := hu
  have WF2 := hid hwf2
  unfold maxLen at hc hc2
  have LN : l.length ≤ 8796093021952 := by omega
  have WN : way.length ≤ 17592186043904 := by omega
  clear hL hwf hwf2 hz hz2
  obtain ⟨i0, hi, hz0, hz1, hz2⟩ := info_parts infoEdge
  have O0 := hid (World.ownsRow_lit (e := 32) (size := 2) (base := W.heap.size) W #[] 0 (Nat.le_refl _) (by unfold maxLen; omega) rfl)
  have C0 := hid (H.out.cells.keep (w' := W.alloc (Obj.cells #[] 32)) (fun b hb => Below.heap_alloc _ _ _ hb))
  go_enter Tryd.func3, Tryd.ntmps3
  go_wp2_with (at_builtin; refine wpList_app _ rfl (.tmp 21) (.tmp 22) 22 rfl W.heap.size 32 i0 (.agg #[.int .i64 0, .int .i64 0]) 2 16 Tryd.underlying22 hi hz0 hz1 hz2 rfl (by decide) _ 0 [] rfl O0.out _ _ l.length _ rfl C0.out (ecells_one _) (by unfold maxLen; omega) (by omega) (by simp) ?_; intro v1 w1 hown hgrow hat; have B1 : Hid (Below W.heap.size W w1) := ((Below.refl _ _).alloc (Nat.le_refl _) _).grown hgrow (by simp) (own_ge O0.out); replace hown : w1.ownsRow W.heap.size 32 2 v1 l.length (ecells l) := (by simpa using hown); have O1 := hid hown; clear hown hgrow hat)
  have s1 := B1.out.size
  have E1 := hid (edges_of_own O1.out WF.out)
  refine (copy_any way (fun b => b < W.heap.size) _ w1 (fun b h => by omega) (HU.out.keep (Same.of_below B1.out fun b h => h)) (by omega)).mono ?_
  rintro e w2 ⟨vo, rfl, hO, hb⟩
  have s2 := hb.size
  have B2 := hid (B1.out.trans (hb.mono s1))
  have IO := hid ((ints_of_own hO WF2.out).more (F' := fun b => b < w2.heap.size) fun b h => h.2)
  have E2 := hid ((E1.out.keep (Same.of_below hb fun b h => h.2)).more (F' := fun b => b < w2.heap.size) fun b h => by omega)
  obtain ⟨A3, c3, rfl, _, _⟩ := own_sl O1.out
  clear hO hb E1 O1
  go_wp2_with fail
  refine (left_any n l way (fun b => b < w2.heap.size) _ vo w2 (fun b h => h) E2.out IO.out (by omega)).mono ?_
  rintro e w3 ⟨r3, rfl, hb, ho⟩
  have s3 := hb.size
  have P3 := hid hb
  have O3 := hid ho
  obtain ⟨A4, c4, rfl, _, _⟩ := own_sl ho
  have CE : ∃ cc, cc = leftC n l way := ⟨_, rfl⟩
  obtain ⟨cc, hcc⟩ := CE
  have HCC := hid hcc
  obtain ⟨m, hm⟩ : ∃ m, m = leftG n l way := ⟨_, rfl⟩
  have HM := hid hm
  have ML : m.length ≤ l.length := by rw [hm]; unfold leftG; split; exact List.length_filter_le _ _; simp
  have EV : ∃ ev, ev = errV (leftC n l way) := ⟨_, rfl⟩
  clear hb ho hcc hm EV
  rw [← HCC.out]
  rw [← HM.out] at O3 ⊢
  have F0 := fact_reach
  go_wp2_with fail
  refine (reach_any 1 [] (fun _ => False) _ w3 (fun b h => h.elim) EdgesIn.nil_).mono ?_
  rintro e w4 ⟨r4, rfl, hb, ho⟩
  have s4 := hb.size
  have s3' : w2.heap.size ≤ w4.heap.size := by omega
  have P4 := hid (P3.out.trans (hb.mono s3))
  have O4 := hid (own_below O3.out hb)
  rw [F0.1] at ho
  rw [F0.2, errV_0]
  obtain ⟨A5, c5, rfl, _, _⟩ := own_sl ho
  clear hb ho F0
  go_wp2_with fail
  go_loopw [15] (fun iv wr => ∃ (j : Nat) (xs : List Value), j ≤ m.length ∧ iv = .int .i64 j ∧ Hid (wr.ownsRow w2.heap.size 32 2 (.slice A4 m.length c4) m.length xs) ∧ Hid (w4.grownBy wr (Value.ownBlock (.slice A4 m.length c4)))) (fun iv _ => m.length - (intOf iv).toNat)
  case atStart => exact ⟨0, _, Nat.zero_le _, rfl, O4, World.grownBy.refl _ _⟩
  case round =>
    obtain ⟨j, xs, hj, rfl, hO, hG⟩ := hrel
    have sG := hG.out.size
    by_cases hlt : j < m.length
    · obtain ⟨g, cap, e1, hgb, hgl, hz1, hz2, hz3⟩ := own_open hO.out (by omega)
      clear hz1 hz2 hz3
      injection e1 with e1 _ e2
      subst e1 e2
      have xl := hO.out.1
      obtain ⟨cv, c1⟩ : ∃ cv, wr.cell? ⟨g, j * 2, none⟩ = some cv := ⟨_, (hO.out.cellAt (j * 2) (by omega)).trans (List.getElem?_eq_getElem (by omega))⟩
      have f1 := hO.out.frozenAt (j * 2)
      have S1 := hO.out.stored (j * 2) (.int .i64 x)
      have O5 := hid S1.1
      have G5 := hid (hG.out.trans S1.2)
      have i1 : (j : Int) < (m.length : Int) := by omega
      clear S1 xl
      go_wp2_with fail
      go_roundw
      case rel => exact ⟨j + 1, _, by omega, by go_num, O5, G5⟩
      case measure => simp [intOf]; omega
    · obtain rfl : j = m.length := by omega
      have i0 : decide ((m.length : Int) < (m.length : Int)) = false := by simp
      have PW : Hid (Below w2.heap.size w2 wr) := P4.out.grown hG.out s3' (own_ge hO.out)
      have BW : Hid (Below W.heap.size W wr) := B2.out.trans (PW.out.mono (by omega))
      have sW := PW.out.size
      clear hO hG P4 P3 O4 O3
      obtain ⟨wo, hwo⟩ : ∃ wo, wo = wr := ⟨_, rfl⟩
      subst hwo
      go_wp2_with fail
      refine (edges_any l l (fun _ => True) _ _ wo ((E2.out.keep (Same.of_below PW.out fun b h => h)).more fun _ _ => trivial) ((H.out.keep (Same.of_below BW.out fun b h => h)).more fun _ _ => trivial)).mono ?_
      rintro e w7 ⟨rfl, q, rfl⟩
      rw [show decide (l = l) = true from decide_eq_true rfl]
      have P7 := hid (below_drewN PW.out q)
      have B7 := hid (below_drewN BW.out q)
      have s7 : wo.heap.size ≤ (wo.drewN q).heap.size := Nat.le_refl _
      generalize wo.drewN q = w7 at *
      go_wp2_with fail
      refine (ints_any way way (fun _ => True) vo _ w7 ((IO.out.keep (Same.of_below P7.out fun b h => h)).more fun _ _ => trivial) ((HU.out.keep (Same.of_below B7.out fun b h => h)).more fun _ _ => trivial)).mono ?_
      rintro e w8 ⟨rfl, q, rfl⟩
      rw [show decide (way = way) = true from decide_eq_true rfl]
      have P8 := hid (below_drewN P7.out q)
      have B8 := hid (below_drewN B7.out q)
      have s8 : w7.heap.size ≤ (w7.drewN q).heap.size := Nat.le_refl _
      generalize w7.drewN q = w8 at *
      clear P7 B7 PW BW
      go_wp2_with fail
      refine (left_any n l way (fun b => b < W.heap.size) _ _ w8 (fun b h => by omega) (H.out.keep (Same.of_below B8.out fun b h => h)) (HU.out.keep (Same.of_below B8.out fun b h => h)) (by omega)).mono ?_
      rintro e w9 ⟨r9, rfl, hb, ho⟩
      have B9 := hid (B8.out.trans (hb.mono (by omega)))
      obtain ⟨A9, c9, rfl, _, _⟩ := own_sl ho
      clear hb ho
      rw [← HCC.out, ← HM.out]
      go_wp2_with fail
      refine (stold_any cc cc w9 (HL.out.below B9.out)).mono ?_
      rintro e w10 ⟨rfl, hb⟩
      have B10 := hid (B9.out.trans (hb.mono (by have := B9.out.size; omega)))
      clear hb
      rw [show decide (cc = cc) = true from decide_eq_true rfl]
      go_wp2_with fail
      go_ret
      exact ⟨rfl, B10.out⟩
end Go.Proofs.YtkiljnggphlomaaDoor
