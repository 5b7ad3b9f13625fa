/- The law WsetTellsAll: it returns true, and all that the call was given reads as before. No conditions. -/
import Derived.Test.YtfalbffpdgfepaaTlm
import Derived.Test.YtfalbffpdgfepaaKeq
import Derived.Test.YtfalbffpdgfepaaRuk
import Derived.Test.YtfalbffpdgfepaaBad
namespace Go.Proofs.Ytfalbffpdgfepaa
open Go.RowKit
theorem rows_at {F : Nat → Prop} {w : World} {A : Option Addr} {n c : Nat} {ll : List (List Int)} (h : RowsIn F w (.slice A n c) ll) {i : Nat} (hi : i < ll.length) : ∃ b off, A = some ⟨b, off, none⟩ ∧ F b ∧ ∃ r, w.cell? ⟨b, off + i, none⟩ = some r ∧ IntsIn .i64 F w r (rowAt ll i) := by
  obtain ⟨A', c', e, _, k⟩ := h
  injection e with e _ _
  subst e
  obtain ⟨b, off, h1, h2, h3⟩ := k (by omega)
  exact ⟨b, off, h1, h2, h3 i hi⟩
theorem row_out2 {ws : List (List Int)} {x : List Int} (h : x ∈ ws) : ∃ k, k < ws.length ∧ rowAt ws k = x := by
  obtain ⟨k, h1, h2⟩ := List.getElem_of_mem h
  exact ⟨k, h1, by unfold rowAt; rw [List.getD_eq_getElem?_getD, List.getElem?_eq_getElem h1]; exact h2⟩
set_option maxRecDepth 100000 in
set_option maxHeartbeats 6000000 in
theorem wsetTellsAll_walk (m : MachD) (u : Value) (i k : Int) (W : World) (ha : MachIn (fun b => b < W.heap.size) W u m) :
    Calls Try.prog 6 #[u, .int .i64 i, .int .i64 k] W (LawPost W) := by
  have K0 := hid ((Kept.start W).addMach ha fun b h => h)
  obtain ⟨o1, n1, rfl, ⟨A1, c1, rfl, la, _⟩, ⟨A2, c2, rfl, _, _⟩⟩ := ha
  unfold maxLen at la
  go_enter Try.func6, Try.ntmps6
  go_wp2_with fail
  have K1 := hid (K0.out.allocs #[.slice A1 m.out.length c1, .slice A2 m.next.length c2] 24 (g := W.heap.size) (by simp))
  clear K0
  refine (lit_any _).mono ?_
  rintro e w2 ⟨rfl, hb⟩
  have K2 := hid ((K1.out.step hb))
  clear hb K1
  have x0 := K2.out.cellN 0 rfl 0
  have x1 := K2.out.cellN 0 rfl 1
  simp at x0 x1
  by_cases hg : chk m = 0
  · have HG := hid (chk_good hg)
    clear hg
    go_wp2_with fail
    refine (least_ok m (fun b => b < w2.heap.size) _ _ (fun b h => h) (K2.out.macN 0 rfl) HG.out).mono ?_
    rintro e w3 ⟨r, c, l, rfl, CO, LD, LM, hb⟩
    have LP := least_props HG.out CO LD
    have HLP := hid LP
    have HCO := hid CO
    have HLD := hid LD
    have LG := hid LP.1
    have lp1 := LP.1.pos
    have lp2 := LP.1.le
    have K3 := hid ((K2.out.step hb).addMach LM fun b h => h.2)
    obtain ⟨oA, oB, rfl, ⟨A3, a3, rfl, lo, _⟩, ⟨A4, a4, rfl, _, _⟩⟩ := LM
    unfold maxLen at lo
    clear hb x0 x1 K2 CO LD LP
    have x0 := K3.out.cellN 0 rfl 0
    have x1 := K3.out.cellN 0 rfl 1
    simp at x0 x1
    have l0 := K3.out.ltN 0 rfl
    go_wp2_with fail
    clear x0 x1 l0
    have K4 := hid (K3.out.allocs #[.slice A3 l.out.length a3, .slice A4 l.next.length a4] 24 (g := w3.heap.size) (by simp))
    clear K3
    refine (set_ok l (fun b => b < _) _ _ (fun b h => h) (K4.out.macN 0 rfl) LG.out).mono ?_
    rintro e w5 ⟨r5, rfl, hr, hb⟩
    have K5 := hid (K4.out.step hb)
    have RS := hid (hr.more (F' := fun b => b < w5.heap.size) fun b h => h.2)
    obtain ⟨A5, c5, rfl, ls, _⟩ := hr
    unfold maxLen at ls
    clear hb K4
    have x0 := K5.out.cellN 0 rfl 0
    have x1 := K5.out.cellN 0 rfl 1
    simp at x0 x1
    have l0 := K5.out.ltN 0 rfl
    have SL := setL_len l
    have s40 : (setL l).length ≤ 15 := by
      have : l.out.length * (l.out.length - 1) ≤ 6 * 5 := Nat.mul_le_mul (by omega) (by omega)
      omega
    have e1 : (l.out.length : Int) * ((l.out.length : Int) - 1) = ((l.out.length * (l.out.length - 1) : Nat) : Int) := by
      rw [Int.natCast_mul]; congr 1; omega
    have e3 : ((l.out.length * (l.out.length - 1) : Nat) : Int) ≤ 30 := by
      have : l.out.length * (l.out.length - 1) ≤ 6 * 5 := Nat.mul_le_mul (by omega) (by omega)
      omega
    have e2 : decide (wrap64 ((l.out.length : Int) * ((l.out.length : Int) - 1)) < 2 * (setL l).length) = false := by
      rw [e1, show wrap64 ((l.out.length * (l.out.length - 1) : Nat) : Int) = ((l.out.length * (l.out.length - 1) : Nat) : Int) by unfold wrap64; omega]; simp; omega
    have E1 := hid e1
    have E3 := hid e3
    have HSL := hid SL
    clear SL e1 e3
    by_cases hr : 0 ≤ i ∧ i < l.out.length ∧ 0 ≤ k ∧ k < l.out.length ∧ i ≠ k
    · obtain ⟨h1, h2, h3, h4, h5⟩ := hr
      obtain ⟨I, rfl⟩ : ∃ I : Nat, i = (I : Int) := ⟨i.toNat, by omega⟩
      obtain ⟨J, rfl⟩ : ∃ J : Nat, k = (J : Int) := ⟨k.toNat, by omega⟩
      have g1 : I < l.out.length := by omega
      have g2 : J < l.out.length := by omega
      have g3 : I ≠ J := by omega
      have G1 := hid g1
      have G2 := hid g2
      have TT := hid (setL_tells HG.out HCO.out HLD.out g1 g2 g3)
      have d1 : decide ((I : Int) < 0) = false := by simp
      have d2 : decide ((l.out.length : Int) ≤ I) = false := by simp; omega
      have d3 : decide ((J : Int) < 0) = false := by simp
      have d4 : decide ((l.out.length : Int) ≤ J) = false := by simp; omega
      have d5 : decide (l.out.length ≤ I) = false := by simp; omega
      have d6 : decide (l.out.length ≤ J) = false := by simp; omega
      have d7 : ((I : Int) == (J : Int)) = false := by simp; omega
      have d8 : (I == J) = false := by simp; omega
      clear h1 h2 h3 h4 h5 g1 g2 g3
      go_wp2_with fail
      clear x0 x1 l0 e2 d1 d2 d3 d4 d5 d6 d7 d8
      go_loopw [13] (fun jv wr => ∃ j : Nat, j ≤ (setL l).length ∧ jv = .int .i64 j ∧ Hid (Kept W [(w3.heap.size, #[.slice A3 l.out.length a3, .slice A4 l.next.length a4], 24), (W.heap.size, #[.slice A1 m.out.length c1, .slice A2 m.next.length c2], 24)] [] [(.agg #[.slice A3 l.out.length a3, .slice A4 l.next.length a4], l), (.agg #[.slice A1 m.out.length c1, .slice A2 m.next.length c2], m)] wr) ∧ Hid (RowsIn (fun b => b < wr.heap.size) wr (.slice A5 (setL l).length c5) (setL l)) ∧ Hid (∀ t, t < j → tells l I (rowAt (setL l) t) = tells l J (rowAt (setL l) t))) (fun jv _ => (setL l).length - (intOf jv).toNat)
      case atStart => exact ⟨0, Nat.zero_le _, rfl, K5, RS, fun t ht => by omega⟩
      case round =>
        obtain ⟨j, hj, rfl, K6, R6, hold⟩ := hrel
        obtain ⟨w6, rfl⟩ : ∃ w6 : World, w6 = wr := ⟨_, rfl⟩
        clear K5 RS
        by_cases hlt : j < (setL l).length
        · obtain ⟨b7, f7, rfl, hb7, r7, q7, i7⟩ := rows_at R6.out hlt
          have SW := setL_word LG.out (row_in hlt rfl)
          have S1 := hid (runFault_good (s := (I : Int)) LG.out (by omega) (by have := G1.out; omega) SW.1)
          have S2 := hid (runFault_good (s := (J : Int)) LG.out (by omega) (by have := G2.out; omega) SW.1)
          have SZ : Hid ((rowAt (setL l) j).length * 8 ≤ 140737488355328) := by show _ ≤ _; omega
          have I7 := hid i7
          obtain ⟨A8, c8, rfl, _, _, _⟩ := i7
          clear SW
          have x0 := K6.out.cellN 0 rfl 0
          have x1 := K6.out.cellN 0 rfl 1
          simp at x0 x1
          have l0 := K6.out.ltN 0 rfl
          go_upto_region 14 with fail
          have E14 : Hid (errV (runFault l I (rowAt (setL l) j)) = .nilIface) := by show _ = _; rw [S1.out]; rfl
          go_cut [14, 15, 16] from 81 to 91 (fun c _ d wx => d = .nilIface ∧ Hid (Kept W [(w3.heap.size, #[.slice A3 l.out.length a3, .slice A4 l.next.length a4], 24), (W.heap.size, #[.slice A1 m.out.length c1, .slice A2 m.next.length c2], 24)] [(c, runL l I (rowAt (setL l) j))] [(.agg #[.slice A3 l.out.length a3, .slice A4 l.next.length a4], l), (.agg #[.slice A1 m.out.length c1, .slice A2 m.next.length c2], m)] wx) ∧ Hid (RowsIn (fun b => b < wx.heap.size) wx (.slice (some ⟨b7, f7, none⟩) (setL l).length c5) (setL l)) ∧ Hid (wx.cell? ⟨b7, f7 + j, none⟩ = some (.slice A8 (rowAt (setL l) j).length c8)) ∧ Hid (IntsIn .i64 (fun b => b < wx.heap.size) wx (.slice A8 (rowAt (setL l) j).length c8) (rowAt (setL l) j)))
          case first =>
            go_region_law (first | (go_simp; go_at_call 8; refine (run_ruk l I (rowAt (setL l) j) (fun b => b < w6.heap.size) _ _ w6.drew (fun b h => h) ((K6.out.step (Below.refl _ _).drew).macN 0 rfl) (I7.out.keep (w' := w6.drew) fun _ _ => rfl) SZ.out).mono ?_; rintro e w7 ⟨r14, rfl, hr, hb⟩; rw [E14.out]; have K7 := hid (((K6.out.step (Below.refl _ _).drew).step hb).addInts hr fun b h => h.2); have s14 := hb.size; have R7 := hid (((R6.out.keep (w' := w6.drew) fun _ _ => rfl).keep (Same.of_below hb fun b h => h)).more (F' := fun b => b < w7.heap.size) fun b h => by simp at s14; omega); have q14 := hid ((hb.cell (p := ⟨b7, f7 + j, none⟩) hb7).trans (show w6.drew.cell? _ = _ from q7)); have I14 := hid (((I7.out.keep (w' := w6.drew) fun _ _ => rfl).keep (Same.of_below hb fun b h => h)).more (F' := fun b => b < w7.heap.size) fun b h => by simp at s14; omega); clear hb hr))
            all_goals
              go_wp2_with fail
              go_meet
              exact ⟨rfl, K7, R7, q14, I14⟩
          case rest =>
            obtain ⟨rfl, K7, R7, Q7, I8⟩ := hcut
            obtain ⟨wx7, rfl⟩ : ∃ wx7 : World, wx7 = wc := ⟨_, rfl⟩
            clear x0 x1 l0 hb7 q7 K6 R6 I7 E14
            have x0 := K7.out.cellN 0 rfl 0
            have x1 := K7.out.cellN 0 rfl 1
            simp at x0 x1
            have l0 := K7.out.ltN 0 rfl
            have q7 := Q7.out
            have hb7 : b7 < wx7.heap.size := by
              obtain ⟨_, _, e, _, k⟩ := R7.out
              injection e with e _ _
              subst e
              obtain ⟨b, off, h1, h2, _⟩ := k (by omega)
              injection h1 with h1
              injection h1 with h1 _
              subst h1
              exact h2
            go_upto_region 15 with fail
            have E15 : Hid (errV (runFault l J (rowAt (setL l) j)) = .nilIface) := by show _ = _; rw [S2.out]; rfl
            go_cut [17, 18, 19] from 92 to 102 (fun c _ d wx => d = .nilIface ∧ Hid (Kept W [(w3.heap.size, #[.slice A3 l.out.length a3, .slice A4 l.next.length a4], 24), (W.heap.size, #[.slice A1 m.out.length c1, .slice A2 m.next.length c2], 24)] [(c, runL l J (rowAt (setL l) j)), (u14, runL l I (rowAt (setL l) j))] [(.agg #[.slice A3 l.out.length a3, .slice A4 l.next.length a4], l), (.agg #[.slice A1 m.out.length c1, .slice A2 m.next.length c2], m)] wx) ∧ Hid (RowsIn (fun b => b < wx.heap.size) wx (.slice (some ⟨b7, f7, none⟩) (setL l).length c5) (setL l)) ∧ Hid (wx.cell? ⟨b7, f7 + j, none⟩ = some (.slice A8 (rowAt (setL l) j).length c8)) ∧ Hid (IntsIn .i64 (fun b => b < wx.heap.size) wx (.slice A8 (rowAt (setL l) j).length c8) (rowAt (setL l) j)))
            case first =>
              go_region_law (first | (go_simp; go_at_call 8; refine (run_ruk l J (rowAt (setL l) j) (fun b => b < wx7.heap.size) _ _ wx7.drew (fun b h => h) ((K7.out.step (Below.refl _ _).drew).macN 0 rfl) (I8.out.keep (w' := wx7.drew) fun _ _ => rfl) SZ.out).mono ?_; rintro e w8 ⟨r15, rfl, hr, hb⟩; rw [E15.out]; have K8 := hid (((K7.out.step (Below.refl _ _).drew).step hb).addInts hr fun b h => h.2); have s15 := hb.size; have R8 := hid (((R7.out.keep (w' := wx7.drew) fun _ _ => rfl).keep (Same.of_below hb fun b h => h)).more (F' := fun b => b < w8.heap.size) fun b h => by simp at s15; omega); have q15 := hid ((hb.cell (p := ⟨b7, f7 + j, none⟩) hb7).trans (show wx7.drew.cell? _ = _ from q7)); have I15 := hid (((I8.out.keep (w' := wx7.drew) fun _ _ => rfl).keep (Same.of_below hb fun b h => h)).more (F' := fun b => b < w8.heap.size) fun b h => by simp at s15; omega); clear hb hr))
              all_goals
                go_wp2_with fail
                go_meet
                exact ⟨rfl, K8, R8, q15, I15⟩
            case rest =>
              obtain ⟨rfl, K8, R8, Q8, I9⟩ := hcut
              obtain ⟨wx8, rfl⟩ : ∃ wx8 : World, wx8 = wc := ⟨_, rfl⟩
              clear x0 x1 l0 hb7 q7 Q7 K7 R7 I8 E15
              go_wp2_with fail
              refine (ints_any _ _ _ _ _ _ (K8.out.intN 1 rfl) (K8.out.intN 0 rfl)).mono ?_
              rintro e w9 ⟨rfl, q, rfl⟩
              have K9 := hid (K8.out.drewN q)
              have T1 : runL l I (rowAt (setL l) j) = tells l I (rowAt (setL l) j) := by unfold runL; rw [if_pos S1.out]; rfl
              have T2 : runL l J (rowAt (setL l) j) = tells l J (rowAt (setL l) j) := by unfold runL; rw [if_pos S2.out]; rfl
              rw [T1, T2]
              clear T1 T2
              by_cases heq : tells l I (rowAt (setL l) j) = tells l J (rowAt (setL l) j)
              · have NX : Hid (∀ t, t < j + 1 → tells l I (rowAt (setL l) t) = tells l J (rowAt (setL l) t)) := fun t ht => by
                  by_cases htj : t = j
                  · subst htj; exact heq
                  · exact hold.out t (by omega)
                rw [decide_eq_true heq]
                clear heq
                go_wp2_with fail
                go_roundw
                case rel => exact ⟨j + 1, by omega, by go_num, ⟨K9.out.bel, K9.out.box, by simp, K9.out.mach⟩, R8.out.keep fun _ _ => rfl, NX⟩
                case measure => simp [intOf]; omega
              · rw [decide_eq_false heq]
                clear heq
                go_wp2_with fail
                go_ret
                exact ⟨rfl, K9.out.bel⟩
        · exfalso
          obtain ⟨x, hx, hne⟩ := TT.out
          obtain ⟨t, ht, rfl⟩ := row_out2 hx
          exact hne (hold.out t (by omega))
    · have e9 : ¬ (0 ≤ i ∧ i < l.out.length ∧ 0 ≤ k ∧ k < l.out.length ∧ (i == k) = false) := by simpa using hr
      clear hr
      go_wp2_with fail
      · go_ret
        exact ⟨rfl, K5.out.bel⟩
      · obtain ⟨⟨⟨⟨q1, q2⟩, q3⟩, q4⟩, q5⟩ := ‹(((0 ≤ i ∧ i < (l.out.length : Int)) ∧ 0 ≤ k) ∧ k < (l.out.length : Int)) ∧ (i == k) = false›
        exact absurd ⟨q1, q2, q3, q4, q5⟩ e9
      · go_ret
        exact ⟨rfl, K5.out.bel⟩
      · go_ret
        exact ⟨rfl, K5.out.bel⟩
      · go_ret
        exact ⟨rfl, K5.out.bel⟩
      · go_ret
        exact ⟨rfl, K5.out.bel⟩
  · have HB := hid hg
    clear hg
    go_wp2_with fail
    refine (least_bad m (fun b => b < w2.heap.size) _ _ (fun b h => h) (K2.out.macN 0 rfl) HB.out).mono ?_
    rintro e w3 ⟨rfl, hb⟩
    have K3 := hid (K2.out.step hb)
    clear hb x0 x1 K2
    have x0 := K3.out.cellN 0 rfl 0
    have x1 := K3.out.cellN 0 rfl 1
    simp at x0 x1
    have l0 := K3.out.ltN 0 rfl
    go_wp2_with fail
    go_ret
    exact ⟨rfl, (K3.out.alloc _).bel⟩
end Go.Proofs.Ytfalbffpdgfepaa

