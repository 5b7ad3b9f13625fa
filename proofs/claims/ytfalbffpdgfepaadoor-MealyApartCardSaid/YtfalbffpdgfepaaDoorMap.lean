/- The law MealyApart: it returns true, and all that the call was given reads as before. Condition: errors.errorType holds its handle; the word takes at most 2^47 bytes. -/
import Derived.Test.YtfalbffpdgfepaaDoorMex
import Derived.Test.YtfalbffpdgfepaaDoorKep
import Derived.Test.YtfalbffpdgfepaaDoorRuk
import Derived.Test.YtfalbffpdgfepaaDoorSho
namespace Go.Proofs.YtfalbffpdgfepaaDoor
open Go.RowKit
theorem ints_tail {k : IntKind} {F : Nat → Prop} {w : World} {v : Value} {l : List Int} {x : Int} (h : IntsIn k F w v (l ++ [x])) :
    ∃ b off c, v = .slice (some ⟨b, off, none⟩) (l ++ [x]).length c ∧ ((l ++ [x]).length ≤ c ∧ c ≤ maxLen) ∧ IntsIn k F w (.slice (some ⟨b, off, none⟩) l.length c) l ∧ w.cell? ⟨b, off + l.length, none⟩ = some (.int k x) := by
  obtain ⟨A, c, rfl, h1, h2, h3⟩ := h
  obtain ⟨b, off, rfl, hF, hc⟩ := h3 (by simp)
  refine ⟨b, off, c, rfl, h1, ⟨_, c, rfl, by simp at h1; omega, fun z hz => h2 z (by simp [hz]), fun _ => ⟨b, off, rfl, hF, fun i hi => ?_⟩⟩, ?_⟩
  · rw [hc i (by simp; omega), List.getD_eq_getElem?_getD, List.getD_eq_getElem?_getD, List.getElem?_append_left hi]
  · rw [hc l.length (by simp), List.getD_eq_getElem?_getD, List.getElem?_append_right (Nat.le_refl _)]
    simp
theorem tears_eq {a b : MachD} {ws : List Int} (h1 : runFault a 0 ws = 0) (h2 : runFault b 0 ws = 0) : runL a 0 ws = tells a 0 ws ∧ runL b 0 ws = tells b 0 ws := by
  unfold runL; rw [if_pos h1, if_pos h2]; exact ⟨rfl, rfl⟩
set_option maxRecDepth 100000 in
set_option maxHeartbeats 2000000 in
theorem mealyApart_walk (a : MachD) (u : Value) (b : MachD) (v : Value) (ws : List Int) (wv : Value) (W : World) (hL : Laid W) (ha : MachIn (fun b => b < W.heap.size) W u a) (hb : MachIn (fun b => b < W.heap.size) W v b) (hw : IntsIn .i64 (fun b => b < W.heap.size) W wv ws) (hz : ws.length * 8 ≤ 140737488351232) :
    Calls Tryd.prog 4 #[u, v, wv] W (LawPost W) := by
  have HL := hid hL
  have HZ := hid hz
  have K0 := hid ((((Kept.start W).addMach ha fun b h => h).addMach hb fun b h => h).addInts hw fun b h => h)
  obtain ⟨o1, n1, rfl, ⟨A1, c1, rfl, la, _⟩, ⟨A2, c2, rfl, _, _⟩⟩ := ha
  obtain ⟨o2, n2, rfl, ⟨A3, c3, rfl, lb, _⟩, ⟨A4, c4, rfl, _, _⟩⟩ := hb
  obtain ⟨A5, c5, rfl, _, _, _⟩ := hw
  clear hL hz
  go_enter Tryd.func4, Tryd.ntmps4
  go_wp2_with fail
  have K1 := hid ((K0.out.allocs #[.slice A1 a.out.length c1, .slice A2 a.next.length c2] 24 rfl).allocs #[.slice A3 b.out.length c3, .slice A4 b.next.length c4] 24 (g := W.heap.size + 1) (by simp))
  refine (lit_any _).mono ?_
  rintro e w2 ⟨rfl, hb⟩
  have K2 := hid (K1.out.step hb)
  clear hb K0 K1
  have x0 := K2.out.cellN 1 rfl 0
  have x1 := K2.out.cellN 1 rfl 1
  have y0 := K2.out.cellN 0 rfl 0
  have y1 := K2.out.cellN 0 rfl 1
  simp at x0 x1 y0 y1
  go_wp2_with fail
  refine (apart_any a b _ _ _ _ (fun b h => h) (K2.out.macN 1 rfl) (K2.out.macN 0 rfl)).mono ?_
  rintro e w3 ⟨r3, rfl, hr, hb⟩
  have K3 := hid ((K2.out.step hb).addInts hr fun b h => h.2)
  clear hb hr x0 x1 y0 y1 K2
  have x0 := K3.out.cellN 1 rfl 0
  have x1 := K3.out.cellN 1 rfl 1
  have y0 := K3.out.cellN 0 rfl 0
  have y1 := K3.out.cellN 0 rfl 1
  simp at x0 x1 y0 y1
  go_wp2_with fail
  refine (run_ruk a 0 ws _ _ _ _ (fun b h => h) (K3.out.macN 1 rfl) (K3.out.intN 1 rfl) (by have := HZ.out; omega)).mono ?_
  rintro e w4 ⟨r4, rfl, hr, hb⟩
  have K4 := hid ((K3.out.step hb).addInts hr fun b h => h.2)
  clear hb hr x0 x1 y0 y1 K3
  have x0 := K4.out.cellN 1 rfl 0
  have x1 := K4.out.cellN 1 rfl 1
  have y0 := K4.out.cellN 0 rfl 0
  have y1 := K4.out.cellN 0 rfl 1
  simp at x0 x1 y0 y1
  go_wp2_with fail
  refine (run_ruk b 0 ws _ _ _ _ (fun b h => h) (K4.out.macN 0 rfl) (K4.out.intN 2 rfl) (by have := HZ.out; omega)).mono ?_
  rintro e w5 ⟨r5, rfl, hr, hb⟩
  have K5 := hid ((K4.out.step hb).addInts hr fun b h => h.2)
  clear hb hr x0 x1 y0 y1 K4
  have x0 := K5.out.cellN 1 rfl 0
  have x1 := K5.out.cellN 1 rfl 1
  have y0 := K5.out.cellN 0 rfl 0
  have y1 := K5.out.cellN 0 rfl 1
  simp at x0 x1 y0 y1
  go_wp2_with fail
  refine (ints_any _ _ _ _ _ _ (K5.out.intN 1 rfl) (K5.out.intN 0 rfl)).mono ?_
  rintro e w6 ⟨rfl, q, rfl⟩
  have K6 := hid ((K5.out.drewN q))
  clear x0 x1 y0 y1 K5
  have x0 := K6.out.cellN 1 rfl 0
  have x1 := K6.out.cellN 1 rfl 1
  have y0 := K6.out.cellN 0 rfl 0
  have y1 := K6.out.cellN 0 rfl 1
  simp at x0 x1 y0 y1
  go_wp2_with fail
  refine (serror_any _ _ _ (K6.out.laid HL.out)).mono ?_
  rintro e w7 ⟨rfl, hb⟩
  have K7 := hid ((K6.out.step hb))
  clear hb x0 x1 y0 y1 K6
  have x0 := K7.out.cellN 1 rfl 0
  have x1 := K7.out.cellN 1 rfl 1
  have y0 := K7.out.cellN 0 rfl 0
  have y1 := K7.out.cellN 0 rfl 1
  simp at x0 x1 y0 y1
  rcases ap_cases a b with hap | hap | hap
  · obtain ⟨GA, GB, HI, hx, hc, hl⟩ := hap
    have HX := hid hx
    have HC := hid hc
    clear hx hl hc
    rw [decide_eq_true HC.out]
    by_cases h1 : runFault a 0 ws = 0
    · by_cases h2 : runFault b 0 ws = 0
      · have EQ := tears_eq h1 h2
        have R1 := hid h1
        have R2 := hid h2
        have W1 := hid (runFault_zero h1).2.2.2
        rw [h1, h2]
        rw [EQ.1, EQ.2]
        have z1 : errV 0 = .nilIface := rfl
        rw [z1]
        clear h1 h2 EQ z1
        have D : decide (tells a 0 ws = tells b 0 ws) = true := by rw [decide_eq_true (HX.out ws W1.out)]
        rw [D]
        clear D
        go_wp2_with fail
        go_ret
        exact ⟨rfl, K7.out.bel⟩
      · rw [h1, errV_no h2]
        have z1 : errV 0 = .nilIface := rfl
        rw [z1]
        clear h1 h2 z1
        go_wp2_with fail
        go_ret
        exact ⟨rfl, K7.out.bel⟩
    · rw [errV_no h1]
      clear h1
      go_wp2_with fail
      go_ret
      exact ⟨rfl, K7.out.bel⟩
  · obtain ⟨f, GA, GB, HI, hf, hc, hl⟩ := hap
    have HGA := hid GA
    have HGB := hid GB
    have HFL := hid (first_len GA GB HI GA.pos GB.pos hf)
    obtain ⟨g, x, rfl, hg, hx, ht, ho⟩ := first_shape hf
    have HF := hid hf
    have HC := hid hc
    have i3 := K7.out.intN 2 rfl
    have HAL := hid hl
    rw [hl] at i3
    have I3 := hid i3
    have HZ0 : Hid (errV 0 = .nilIface) := rfl
    have lx : (g ++ [x]).length = g.length + 1 := by simp
    obtain ⟨A6, c6, rfl, l6, _, _⟩ := i3
    rw [lx] at l6
    have HIN := hid HI
    have wa : word a (g ++ [x]) := hf.1
    have wb : word b (g ++ [x]) := fun y hy => by have := wa y hy; exact ⟨this.1, by rw [← HI]; exact this.2⟩
    have RA : Hid (runFault a 0 (g ++ [x]) = 0) := runFault_good GA (by decide) (by have := GA.pos; omega) wa
    have RB : Hid (runFault b 0 (g ++ [x]) = 0) := runFault_good GB (by decide) (by have := GB.pos; omega) wb
    have TA : Hid (runL a 0 (g ++ [x]) = tells a 0 g ++ [outAt a (goes a 0 g) x]) := by show _ = _; unfold runL; rw [if_pos RA.out]; exact tells_snoc a 0 g x
    have TB : Hid (runL b 0 (g ++ [x]) = tells a 0 g ++ [outAt b (goes b 0 g) x]) := by show _ = _; unfold runL; rw [if_pos RB.out, ht]; exact tells_snoc b 0 g x
    have LG : Hid ((tells a 0 g).length = g.length) := tells_length a g 0
    have FL := HFL.out
    rw [lx] at FL
    have pa := GA.le
    have pb := GB.le
    have e2 : decide ((0 : Int) = 2) = false := by decide
    rw [hc, e2]
    have z0 : errV 0 = .nilIface := rfl
    rw [z0, lx]
    have ho' := ho
    generalize outAt a (goes a 0 g) x = oa at *
    generalize outAt b (goes b 0 g) x = ob at *
    have HO := hid ho'
    clear hf hg hx ht ho ho' hc hl lx wa wb GA GB HI e2 z0
    go_wp2_with fail
    refine (run_ruk a 0 (g ++ [x]) _ _ _ _ (fun b h => h) (K7.out.macN 1 rfl) (by have h9 := I3.out; rw [show (g ++ [x]).length = g.length + 1 from by simp] at h9; exact h9) (by simp; omega)).mono ?_
    rintro e w8 ⟨r8, rfl, hr, hb⟩
    have K8 := hid ((K7.out.step hb).addInts hr fun b h => h.2)
    clear hb hr x0 x1 y0 y1 K7
    have x0 := K8.out.cellN 1 rfl 0
    have x1 := K8.out.cellN 1 rfl 1
    have y0 := K8.out.cellN 0 rfl 0
    have y1 := K8.out.cellN 0 rfl 1
    simp at x0 x1 y0 y1
    rw [RA.out, HZ0.out]
    go_wp2_with fail
    refine (run_ruk b 0 (g ++ [x]) _ _ _ _ (fun b h => h) (K8.out.macN 0 rfl) (by have h9 := K8.out.intN 3 rfl; rw [HAL.out, show (g ++ [x]).length = g.length + 1 from by simp] at h9; exact h9) (by simp; omega)).mono ?_
    rintro e w9 ⟨r9, rfl, hr, hb⟩
    have K9 := hid ((K8.out.step hb).addInts hr fun b h => h.2)
    clear hb hr x0 x1 y0 y1 K8
    have x0 := K9.out.cellN 1 rfl 0
    have x1 := K9.out.cellN 1 rfl 1
    have y0 := K9.out.cellN 0 rfl 0
    have y1 := K9.out.cellN 0 rfl 1
    simp at x0 x1 y0 y1
    rw [RB.out, HZ0.out]
    have U8 := K9.out.intN 1 rfl
    have U9 := K9.out.intN 0 rfl
    rw [TA.out] at U8
    rw [TB.out] at U9
    have e8 : (tells a 0 g ++ [oa]).length = g.length + 1 := by rw [List.length_append, LG.out]; rfl
    have e9 : (tells a 0 g ++ [ob]).length = g.length + 1 := by rw [List.length_append, LG.out]; rfl
    obtain ⟨b8, o8, c8, er8, lc8, P8, L8⟩ := ints_tail U8
    obtain ⟨b9, o9, c9, er9, lc9, P9, L9⟩ := ints_tail U9
    rw [e8] at er8 lc8
    rw [e9] at er9 lc9
    rw [LG.out] at P8 P9 L8 L9
    subst er8 er9
    have HP8 := hid P8
    have HP9 := hid P9
    clear U8 U9 e8 e9 P8 P9
    have z2 : (oa == ob) = false := by simpa using HO.out
    have i9 : ((g.length : Nat) : Int) < ((g.length + 1 : Nat) : Int) := by omega
    have j9 : g.length < g.length + 1 := by omega
    go_wp2_with fail
    go_quiet ((go_at_call 20; exact Calls.quiet_of (ints_any (tells a 0 g) (tells a 0 g) _ _ _ _ (HP8.out.keep fun _ _ => rfl) (HP9.out.keep fun _ _ => rfl))))
    go_wp2_with fail
    go_quiet (fail)
    by_cases h1 : runFault a 0 ws = 0
    · by_cases h2 : runFault b 0 ws = 0
      · have EQ := tears_eq h1 h2
        have R1 := hid h1
        have R2 := hid h2
        have W1 := hid (runFault_zero h1).2.2.2
        rw [h1, h2]
        rw [EQ.1, EQ.2]
        have z1 : errV 0 = .nilIface := rfl
        rw [z1]
        clear h1 h2 EQ z1
        by_cases hs : tells a 0 ws = tells b 0 ws
        · rw [decide_eq_true hs]
          clear hs
          go_wp2_with fail
          go_ret
          exact ⟨rfl, (K9.out.drewN _).bel⟩
        · rw [decide_eq_false hs]
          have SL : Hid (sltB ws (g ++ [x]) = false) := by
            show _ = _
            unfold sltB
            rw [decide_eq_false_iff_not, not_slt]
            exact HF.out.2.2 ws W1.out hs
          clear hs
          go_wp2_with fail
          refine (shorter_any ws (g ++ [x]) (fun b => b < w9.heap.size) _ _ _ (by exact (K9.out.intN 5 rfl).keep fun _ _ => rfl) (by have h9 := K9.out.intN 4 rfl; rw [HAL.out, show (g ++ [x]).length = g.length + 1 from by simp] at h9; exact h9.keep fun _ _ => rfl)).mono ?_
          rintro e w10 ⟨rfl, q, rfl⟩
          rw [SL.out]
          go_wp2_with fail
          go_ret
          exact ⟨rfl, (K9.out.drewN _).bel⟩
      · rw [h1, errV_no h2]
        have z1 : errV 0 = .nilIface := rfl
        rw [z1]
        clear h1 h2 z1
        go_wp2_with fail
        go_ret
        exact ⟨rfl, (K9.out.drewN _).bel⟩
    · rw [errV_no h1]
      clear h1
      go_wp2_with fail
      go_ret
      exact ⟨rfl, (K9.out.drewN _).bel⟩
  · obtain ⟨hn, hc, hl⟩ := hap
    have HC : Hid (apC a b ≠ 2 ∧ apC a b ≠ 0) := by rcases hc with h | h <;> rw [h] <;> exact ⟨by decide, by decide⟩
    rw [decide_eq_false HC.out.1, errV_no HC.out.2]
    have i3 := K7.out.intN 2 rfl
    rw [hl] at i3
    obtain ⟨A6, c6, rfl, _, _, _⟩ := i3
    clear hn hc hl
    go_wp2_with fail
    go_ret
    exact ⟨rfl, K7.out.bel⟩
end Go.Proofs.YtfalbffpdgfepaaDoor
