/- The law MinimOne: it returns true, and all that the call was given reads as before. Condition: errors.errorType holds its handle. -/
import Derived.Test.YtfalbffpdgfepaaDoorMsa
import Derived.BigQuiet
namespace Go.Proofs.YtfalbffpdgfepaaDoor
open Go.RowKit
theorem one_eq {a b x y : MachD} {c d : List Int} (ga : Good a) (gb : Good b) (hi : ins a = ins b) (ca : ClassOf a c) (cb : ClassOf b d) (lx : LeastD a c x) (ly : LeastD b d y) :
    (XEqv a 0 b 0 → x = y) ∧ (¬ XEqv a 0 b 0 → ¬ (x.out = y.out ∧ x.next = y.next)) := by
  refine ⟨fun h => least_one hi ga gb ca cb h lx ly, fun h e => h ?_⟩
  have e' : x = y := by cases x; cases y; simp at e; rw [e.1, e.2]
  subst e'
  have p := least_props ga ca lx
  have q := least_props gb cb ly
  intro w hw
  have hw2 : word b w := fun z hz => by have := hw z hz; exact ⟨this.1, by rw [← hi]; exact this.2⟩
  exact (p.2.2.1 w hw).trans (q.2.2.1 w hw2).symm
theorem mac_row0 {F : Nat → Prop} {w : World} {A : Option Addr} {n c : Nat} {v : Value} {m : MachD} (h : MachIn F w (.agg #[.slice A n c, v]) m) (g : Good m) : ∃ b off r cr, A = some ⟨b, off, none⟩ ∧ w.cell? ⟨b, off, none⟩ = some (.slice r (ins m) cr) := by
  obtain ⟨o, nx, e, ⟨A', c', e', _, h3⟩, _⟩ := h
  simp at e
  obtain ⟨e1, _⟩ := e
  rw [e'] at e1
  injection e1 with e1 _ _
  obtain ⟨b, off, rfl, _, hc⟩ := h3 g.pos
  obtain ⟨r, hr, ⟨R, cr, rfl, _⟩⟩ := hc 0 g.pos
  exact ⟨b, off, R, cr, e1, hr⟩
set_option maxRecDepth 100000 in
set_option maxHeartbeats 2000000 in
theorem minimOne_walk (a : MachD) (u : Value) (b : MachD) (v : Value) (W : World) (hL : Laid W) (ha : MachIn (fun b => b < W.heap.size) W u a) (hb : MachIn (fun b => b < W.heap.size) W v b) :
    Calls Tryd.prog 9 #[u, v] W (LawPost W) := by
  have HL := hid hL
  have K0 := hid (((Kept.start W).addMach ha fun b h => h).addMach hb fun b h => h)
  obtain ⟨o1, n1, rfl, ⟨A1, c1, rfl, la, ka⟩, ⟨A2, c2, rfl, _, _⟩⟩ := ha
  obtain ⟨o2, n2, rfl, ⟨A3, c3, rfl, lb, kb⟩, ⟨A4, c4, rfl, _, _⟩⟩ := hb
  have HKA := hid ka
  have HKB := hid kb
  clear hL ka kb
  go_enter Tryd.func9, Tryd.ntmps9
  go_wp2_with fail
  have K1' := hid (K0.out.allocs #[.slice A1 a.out.length c1, .slice A2 a.next.length c2] 24 (g := W.heap.size) (by simp))
  have K1 := hid (K1'.out.allocs #[.slice A3 b.out.length c3, .slice A4 b.next.length c4] 24 (g := W.heap.size + 1) (by simp))
  clear K1' K0
  refine (lit_any _).mono ?_
  rintro e w2 ⟨rfl, hb⟩
  have K2 := hid ((K1.out.step hb))
  clear hb K1
  have x0 := K2.out.cellN 1 rfl 0
  have x1 := K2.out.cellN 1 rfl 1
  have y0 := K2.out.cellN 0 rfl 0
  have y1 := K2.out.cellN 0 rfl 1
  simp at x0 x1 y0 y1
  by_cases ga : chk a = 0
  · have HGA := hid (chk_good ga)
    clear ga
    go_wp2_with fail
    refine (least_ok a (fun b => b < w2.heap.size) _ _ (fun b h => h) (K2.out.macN 1 rfl) HGA.out).mono ?_
    rintro e w3 ⟨rA, cA, lA, rfl, CO, LD, LM, hb⟩
    have COA := hid CO
    have LDA := hid LD
    have LPA := hid (least_props HGA.out CO LD)
    have K3 := hid ((K2.out.step hb).addMach LM fun b h => h.2)
    obtain ⟨oA, oB, rfl, ⟨PA, pA, rfl, lpA, _⟩, ⟨QA, qA, rfl, _, _⟩⟩ := LM
    unfold maxLen at lpA
    clear hb CO LD K2 x0 x1 y0 y1
    have x0 := K3.out.cellN 1 rfl 0
    have x1 := K3.out.cellN 1 rfl 1
    have y0 := K3.out.cellN 0 rfl 0
    have y1 := K3.out.cellN 0 rfl 1
    simp at x0 x1 y0 y1
    have l0 := K3.out.ltN 0 rfl
    have l1 := K3.out.ltN 1 rfl
    go_wp2_with fail
    clear x0 x1 y0 y1 l0 l1
    have K4 := hid (K3.out.allocs #[.slice PA lA.out.length pA, .slice QA lA.next.length qA] 24 (g := w3.heap.size) (by simp))
    clear K3
    have y0 := K4.out.cellN 1 rfl 0
    have y1 := K4.out.cellN 1 rfl 1
    simp at y0 y1
    by_cases gb : chk b = 0
    · have HGB := hid (chk_good gb)
      clear gb
      refine (least_ok b (fun b => b < _) _ _ (fun b h => h) (K4.out.macN 1 rfl) HGB.out).mono ?_
      rintro e w5 ⟨rB, cB, lB, rfl, CO, LD, LM, hb⟩
      have COB := hid CO
      have LDB := hid LD
      have LPB := hid (least_props HGB.out CO LD)
      have K5 := hid ((K4.out.step hb).addMach LM fun b h => h.2)
      obtain ⟨oA, oB, rfl, ⟨PB, pB, rfl, lpB, _⟩, ⟨QB, qB, rfl, _, _⟩⟩ := LM
      unfold maxLen at lpB
      clear hb CO LD K4 y0 y1
      have x0 := K5.out.cellN 2 rfl 0
      have y0 := K5.out.cellN 1 rfl 0
      simp at x0 y0
      have l0 := K5.out.ltN 0 rfl
      have l1 := K5.out.ltN 1 rfl
      have l2 := K5.out.ltN 2 rfl
      go_wp2_with fail
      clear x0 y0 l0 l1 l2
      have K6 := hid (K5.out.allocs #[.slice PB lB.out.length pB, .slice QB lB.next.length qB] 24 (g := w5.heap.size) (by simp))
      clear K5
      obtain ⟨bA, fA, RA, rA, eA, z1⟩ := mac_row0 (K6.out.macN 3 rfl) HGA.out
      obtain ⟨bB, fB, RB, rB', eB, z2⟩ := mac_row0 (K6.out.macN 2 rfl) HGB.out
      subst eA eB
      have pa0 : 0 < a.out.length := HGA.out.pos
      have pb0 : 0 < b.out.length := HGB.out.pos
      have ia : ((ins a : Nat) : Int) ≤ 3 := by have := HGA.out.ins3; omega
      have ib : ((ins b : Nat) : Int) ≤ 3 := by have := HGB.out.ins3; omega
      have x0 := K6.out.cellN 3 rfl 0
      have x1 := K6.out.cellN 3 rfl 1
      have y0 := K6.out.cellN 2 rfl 0
      have y1 := K6.out.cellN 2 rfl 1
      simp at x0 x1 y0 y1
      by_cases hi : ins a = ins b
      · have j0 : ((ins a : Int) != (ins b : Int)) = false := by simp [hi]
        have HIN := hid hi
        have OE := hid (one_eq HGA.out HGB.out hi COA.out COB.out LDA.out LDB.out)
        clear hi
        go_quiet (fail)
        go_wp2_with fail
        have K7 := hid (K6.out.drewN nq)
        clear x0 y0 x1 y1 z1 z2 K6 j0
        refine (apart_any a b _ _ _ _ (fun b h => h) (K7.out.macN 3 rfl) (K7.out.macN 2 rfl)).mono ?_
        rintro e w8 ⟨r1, rfl, hr, hb⟩
        have K8 := hid ((K7.out.step hb).addInts hr fun b h => h.2)
        clear hb hr K7
        rcases ap_cases a b with hap | hap | hap
        · obtain ⟨_, _, _, hx, hc, _⟩ := hap
          have EQ := OE.out.1 hx
          subst EQ
          rw [hc]
          clear hx hc
          have x0 := K8.out.cellN 3 rfl 0
          have x1 := K8.out.cellN 3 rfl 1
          have y0 := K8.out.cellN 2 rfl 0
          have y1 := K8.out.cellN 2 rfl 1
          have u0 := K8.out.cellN 1 rfl 0
          have u1 := K8.out.cellN 1 rfl 1
          have t0 := K8.out.cellN 0 rfl 0
          have t1 := K8.out.cellN 0 rfl 1
          simp at x0 x1 y0 y1 u0 u1 t0 t1
          go_wp2_with fail
          refine (serror_any _ _ _ (K8.out.laid HL.out)).mono ?_
          rintro e w9 ⟨rfl, hb⟩
          have K9 := hid ((K8.out.step hb))
          have E2 : decide ((2 : Int) = 2) = true := by decide
          rw [E2]
          clear E2
          clear hb x0 x1 y0 y1 u0 u1 t0 t1 K8
          have x0 := K9.out.cellN 3 rfl 0
          have x1 := K9.out.cellN 3 rfl 1
          have y0 := K9.out.cellN 2 rfl 0
          have y1 := K9.out.cellN 2 rfl 1
          have u0 := K9.out.cellN 1 rfl 0
          have u1 := K9.out.cellN 1 rfl 1
          have t0 := K9.out.cellN 0 rfl 0
          have t1 := K9.out.cellN 0 rfl 1
          simp at x0 x1 y0 y1 u0 u1 t0 t1
          go_wp2_with fail
          refine (samach_any lA lA (fun b => b < _) _ _ _ (fun b h => h) (K9.out.macN 1 rfl) (K9.out.macN 0 rfl)).mono ?_
          rintro e w10 ⟨rfl, hb⟩
          have K10 := hid ((K9.out.step hb))
          have E3 : decide (lA.out = lA.out ∧ lA.next = lA.next) = true := by simp
          rw [E3]
          clear E3
          clear hb x0 x1 y0 y1 u0 u1 t0 t1 K9
          have x0 := K10.out.cellN 3 rfl 0
          have x1 := K10.out.cellN 3 rfl 1
          have y0 := K10.out.cellN 2 rfl 0
          have y1 := K10.out.cellN 2 rfl 1
          have u0 := K10.out.cellN 1 rfl 0
          have u1 := K10.out.cellN 1 rfl 1
          have t0 := K10.out.cellN 0 rfl 0
          have t1 := K10.out.cellN 0 rfl 1
          simp at x0 x1 y0 y1 u0 u1 t0 t1
          have lle : (lA.out.length : Int) ≤ (b.out.length : Int) := by have := LPB.out.2.2.2; omega
          go_wp2_with fail
          go_ret
          exact ⟨rfl, K10.out.bel⟩
        · obtain ⟨f, _, _, _, hf, hc, _⟩ := hap
          have NE := hid (OE.out.2 fun hx => hf.2.1 (hx f hf.1))
          rw [hc]
          clear hf hc
          have x0 := K8.out.cellN 3 rfl 0
          have x1 := K8.out.cellN 3 rfl 1
          have y0 := K8.out.cellN 2 rfl 0
          have y1 := K8.out.cellN 2 rfl 1
          have u0 := K8.out.cellN 1 rfl 0
          have u1 := K8.out.cellN 1 rfl 1
          have t0 := K8.out.cellN 0 rfl 0
          have t1 := K8.out.cellN 0 rfl 1
          simp at x0 x1 y0 y1 u0 u1 t0 t1
          go_wp2_with fail
          refine (serror_any _ _ _ (K8.out.laid HL.out)).mono ?_
          rintro e w9 ⟨rfl, hb⟩
          have K9 := hid ((K8.out.step hb))
          have E2 : decide ((0 : Int) = 2) = false := by decide
          rw [E2]
          clear E2
          clear hb x0 x1 y0 y1 u0 u1 t0 t1 K8
          have x0 := K9.out.cellN 3 rfl 0
          have x1 := K9.out.cellN 3 rfl 1
          have y0 := K9.out.cellN 2 rfl 0
          have y1 := K9.out.cellN 2 rfl 1
          have u0 := K9.out.cellN 1 rfl 0
          have u1 := K9.out.cellN 1 rfl 1
          have t0 := K9.out.cellN 0 rfl 0
          have t1 := K9.out.cellN 0 rfl 1
          simp at x0 x1 y0 y1 u0 u1 t0 t1
          go_wp2_with fail
          refine (samach_any lA lB (fun b => b < _) _ _ _ (fun b h => h) (K9.out.macN 1 rfl) (K9.out.macN 0 rfl)).mono ?_
          rintro e w10 ⟨rfl, hb⟩
          have K10 := hid ((K9.out.step hb))
          rw [decide_eq_false NE.out]
          clear hb x0 x1 y0 y1 u0 u1 t0 t1 K9
          have x0 := K10.out.cellN 3 rfl 0
          have x1 := K10.out.cellN 3 rfl 1
          have y0 := K10.out.cellN 2 rfl 0
          have y1 := K10.out.cellN 2 rfl 1
          have u0 := K10.out.cellN 1 rfl 0
          have u1 := K10.out.cellN 1 rfl 1
          have t0 := K10.out.cellN 0 rfl 0
          have t1 := K10.out.cellN 0 rfl 1
          simp at x0 x1 y0 y1 u0 u1 t0 t1
          go_wp2_with fail
          go_ret
          exact ⟨rfl, K10.out.bel⟩
        · exact absurd ⟨HGA.out, HGB.out, HIN.out⟩ hap.1
      · have j0 : ((ins a : Int) != (ins b : Int)) = true := by simp; omega
        clear hi
        go_quiet (fail)
        go_wp2_with fail
        go_ret
        exact ⟨rfl, (K6.out.drewN _).bel⟩
    · have HGB := hid gb
      clear gb
      refine (least_bad b (fun b => b < _) _ _ (fun b h => h) (K4.out.macN 1 rfl) HGB.out).mono ?_
      rintro e w5 ⟨rfl, hb⟩
      have K5 := hid (K4.out.step hb)
      clear hb K4 y0 y1
      have x0 := K5.out.cellN 2 rfl 0
      have y0 := K5.out.cellN 1 rfl 0
      simp at x0 y0
      have l0 := K5.out.ltN 1 rfl
      have l1 := K5.out.ltN 2 rfl
      go_wp2_with fail
      go_quiet (fail)
      go_wp2_with fail
      go_ret
      exact ⟨rfl, ((K5.out.alloc _).drewN _).bel⟩
  · have HB := hid ga
    clear ga
    go_wp2_with fail
    refine (least_bad a (fun b => b < w2.heap.size) _ _ (fun b h => h) (K2.out.macN 1 rfl) HB.out).mono ?_
    rintro e w3 ⟨rfl, hb⟩
    have K3 := hid (K2.out.step hb)
    clear hb K2 x0 x1 y0 y1
    have x0 := K3.out.cellN 1 rfl 0
    have x1 := K3.out.cellN 1 rfl 1
    have y0 := K3.out.cellN 0 rfl 0
    have y1 := K3.out.cellN 0 rfl 1
    simp at x0 x1 y0 y1
    have l0 := K3.out.ltN 0 rfl
    have l1 := K3.out.ltN 1 rfl
    go_wp2_with fail
    clear x0 x1 y0 y1 l0 l1
    have K4 := hid (K3.out.allocs #[.slice none 0 0, .slice none 0 0] 24 (g := w3.heap.size) (by simp))
    clear K3
    have y0 := K4.out.cellN 1 rfl 0
    have y1 := K4.out.cellN 1 rfl 1
    simp at y0 y1
    by_cases gb : chk b = 0
    · have HGB := hid (chk_good gb)
      clear gb
      refine (least_ok b (fun b => b < _) _ _ (fun b h => h) (K4.out.macN 0 rfl) HGB.out).mono ?_
      rintro e w5 ⟨rB, cB, lB, rfl, CO, LD, LM, hb⟩
      have K5 := hid ((K4.out.step hb).addMach LM fun b h => h.2)
      obtain ⟨oA, oB, rfl, ⟨PB, pB, rfl, lpB, _⟩, ⟨QB, qB, rfl, _, _⟩⟩ := LM
      clear hb CO LD K4 y0 y1
      have x0 := K5.out.cellN 2 rfl 0
      have y0 := K5.out.cellN 1 rfl 0
      simp at x0 y0
      have l0 := K5.out.ltN 1 rfl
      have l1 := K5.out.ltN 2 rfl
      go_wp2_with fail
      go_quiet (fail)
      go_wp2_with fail
      go_ret
      exact ⟨rfl, ((K5.out.alloc _).drewN _).bel⟩
    · have HGB := hid gb
      clear gb
      refine (least_bad b (fun b => b < _) _ _ (fun b h => h) (K4.out.macN 0 rfl) HGB.out).mono ?_
      rintro e w5 ⟨rfl, hb⟩
      have K5 := hid (K4.out.step hb)
      clear hb K4 y0 y1
      have x0 := K5.out.cellN 2 rfl 0
      have y0 := K5.out.cellN 1 rfl 0
      simp at x0 y0
      have l0 := K5.out.ltN 1 rfl
      have l1 := K5.out.ltN 2 rfl
      go_wp2_with fail
      go_quiet (fail)
      go_wp2_with fail
      go_ret
      exact ⟨rfl, ((K5.out.alloc _).drewN _).bel⟩
end Go.Proofs.YtfalbffpdgfepaaDoor
