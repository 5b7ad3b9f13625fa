/- The law MinimSame: it returns true, and all that the call was given reads as before. Condition: errors.errorType holds its handle; the word takes at most 2^47 bytes. -/
import Derived.Test.YtfalbffpdgfepaaDoorMex
import Derived.Test.YtfalbffpdgfepaaDoorLsp
import Derived.Test.YtfalbffpdgfepaaDoorKep
import Derived.Test.YtfalbffpdgfepaaDoorRuk
import Derived.Test.YtfalbffpdgfepaaDoorSam
import Derived.Test.YtfalbffpdgfepaaDoorBad
namespace Go.Proofs.YtfalbffpdgfepaaDoor
open Go.RowKit
theorem xeqv_apC {a b : MachD} (ga : Good a) (gb : Good b) (hi : ins a = ins b) (hx : XEqv a 0 b 0) : apC a b = 2 := by
  rcases ap_cases a b with ⟨_, _, _, _, h, _⟩ | ⟨f, _, _, _, hf, _, _⟩ | ⟨h, _⟩
  · exact h
  · exact absurd (hx f hf.1) hf.2.1
  · exact absurd ⟨ga, gb, hi⟩ h
theorem xeqv_run {a b : MachD} (ga : Good a) (gb : Good b) (hi : ins a = ins b) (hx : XEqv a 0 b 0) (ws : List Int) : runFault a 0 ws = runFault b 0 ws ∧ runL a 0 ws = runL b 0 ws := by
  have hw : word a ws ↔ word b ws := by
    constructor <;> intro h x hx <;> have := h x hx
    · exact ⟨this.1, by rw [← hi]; exact this.2⟩
    · exact ⟨this.1, by rw [hi]; exact this.2⟩
  have pa := ga.pos
  have pb := gb.pos
  by_cases h : word a ws
  · have h1 := runFault_good (s := 0) ga (by decide) (by omega) h
    have h2 := runFault_good (s := 0) gb (by decide) (by omega) (hw.1 h)
    refine ⟨by rw [h1, h2], ?_⟩
    unfold runL; rw [if_pos h1, if_pos h2]; exact hx ws h
  · have bad : ∀ {m : MachD}, Good m → ¬ word m ws → runFault m 0 ws = 1 := fun {m} g hn => by
      unfold runFault
      rw [if_neg (by simp [good_chk g]), if_pos (.inr (.inr hn))]
    have h1 := bad ga h
    have h2 := bad gb fun k => h (hw.2 k)
    refine ⟨by rw [h1, h2], ?_⟩
    unfold runL; rw [if_neg (by rw [h1]; decide), if_neg (by rw [h2]; decide)]
set_option maxRecDepth 100000 in
set_option maxHeartbeats 2000000 in
theorem minimSame_walk (m : MachD) (u : Value) (ws : List Int) (wv : Value) (W : World) (hL : Laid W) (ha : MachIn (fun b => b < W.heap.size) W u m) (hw : IntsIn .i64 (fun b => b < W.heap.size) W wv ws) (hz : ws.length * 8 ≤ 140737488351232) :
    Calls Tryd.prog 8 #[u, wv] W (LawPost W) := by
  have HL := hid hL
  have HZ := hid hz
  have K0 := hid (((Kept.start W).addMach ha fun b h => h).addInts hw fun b h => h)
  obtain ⟨o1, n1, rfl, ⟨A1, c1, rfl, la, _⟩, ⟨A2, c2, rfl, _, _⟩⟩ := ha
  obtain ⟨A5, c5, rfl, _, _, _⟩ := hw
  unfold maxLen at la
  clear hL hz
  go_enter Tryd.func8, Tryd.ntmps8
  go_wp2_with fail
  have K1 := hid (K0.out.allocs #[.slice A1 m.out.length c1, .slice A2 m.next.length c2] 24 (g := W.heap.size) (by simp))
  clear K0
  refine (lit_any _).mono ?_
  rintro e w2 ⟨rfl, hb⟩
  have K2 := hid ((K1.out.step hb))
  clear hb K1
  have x0 := K2.out.cellN 0 rfl 0
  have x1 := K2.out.cellN 0 rfl 1
  simp at x0 x1
  by_cases hg : chk m = 0
  · have HG := hid (chk_good hg)
    clear hg
    go_wp2_with fail
    refine (least_ok m (fun b => b < w2.heap.size) _ _ (fun b h => h) (K2.out.macN 0 rfl) HG.out).mono ?_
    rintro e w3 ⟨r, c, l, rfl, CO, LD, LM, hb⟩
    have LP := least_props HG.out CO LD
    have HLP := hid LP
    have HCO := hid CO
    have HLD := hid LD
    have LI := LP.2.2.2
    have K3 := hid ((K2.out.step hb).addMach LM fun b h => h.2)
    obtain ⟨oA, oB, rfl, ⟨A3, a3, rfl, lo, _⟩, ⟨A4, a4, rfl, _, _⟩⟩ := LM
    unfold maxLen at lo
    clear hb x0 x1 K2 CO LD LP
    have x0 := K3.out.cellN 0 rfl 0
    have x1 := K3.out.cellN 0 rfl 1
    simp at x0 x1
    have l0 := K3.out.ltN 0 rfl
    go_wp2_with fail
    clear x0 x1 l0
    have K4 := hid (K3.out.allocs #[.slice A3 l.out.length a3, .slice A4 l.next.length a4] 24 (g := w3.heap.size) (by simp))
    clear K3
    refine (apart_any m l _ _ _ _ (fun b h => h) (K4.out.macN 1 rfl) (K4.out.macN 0 rfl)).mono ?_
    rintro e w5 ⟨r1, rfl, hr, hb⟩
    have K5 := hid ((K4.out.step hb).addInts hr fun b h => h.2)
    have E1 := xeqv_apC HG.out HLP.out.1 HLP.out.2.1.symm HLP.out.2.2.1
    rw [E1]
    clear E1
    clear hb hr K4
    have x0 := K5.out.cellN 1 rfl 0
    have x1 := K5.out.cellN 1 rfl 1
    have y0 := K5.out.cellN 0 rfl 0
    have y1 := K5.out.cellN 0 rfl 1
    simp at x0 x1 y0 y1
    go_wp2_with fail
    refine (serror_any 2 2 _ (K5.out.laid HL.out)).mono ?_
    rintro e w6 ⟨rfl, hb⟩
    have K6 := hid ((K5.out.step hb))
    have E2 : decide ((2 : Int) = 2) = true := by decide
    rw [E2]
    clear E2
    clear hb x0 x1 y0 y1 K5
    have x0 := K6.out.cellN 1 rfl 0
    have x1 := K6.out.cellN 1 rfl 1
    have y0 := K6.out.cellN 0 rfl 0
    have y1 := K6.out.cellN 0 rfl 1
    simp at x0 x1 y0 y1
    go_wp2_with fail
    refine (least_ok l (fun b => b < w6.heap.size) _ _ (fun b h => h) (K6.out.macN 0 rfl) HLP.out.1).mono ?_
    rintro e w7 ⟨r', c', l', rfl, CO, LD, LM, hb⟩
    have EL : l' = l := (least_one HLP.out.2.1.symm HG.out HLP.out.1 HCO.out CO HLP.out.2.2.1 HLD.out LD).symm
    subst EL
    have K7 := hid ((K6.out.step hb).addMach LM fun b h => h.2)
    obtain ⟨oA, oB, rfl, ⟨A6, a6, rfl, _, _⟩, ⟨A7, a7, rfl, _, _⟩⟩ := LM
    clear hb x0 x1 y0 y1 K6 CO LD
    have x0 := K7.out.cellN 1 rfl 0
    have x1 := K7.out.cellN 1 rfl 1
    have y0 := K7.out.cellN 0 rfl 0
    have y1 := K7.out.cellN 0 rfl 1
    simp at x0 x1 y0 y1
    have l0 := K7.out.ltN 0 rfl
    have l1 := K7.out.ltN 1 rfl
    go_wp2_with fail
    clear x0 x1 y0 y1 l0 l1
    have K8 := hid (K7.out.allocs #[.slice A6 l'.out.length a6, .slice A7 l'.next.length a7] 24 (g := w7.heap.size) (by simp))
    clear K7
    refine (samach_any l' l' (fun b => b < _) _ _ _ (fun b h => h) (K8.out.macN 0 rfl) (K8.out.macN 1 rfl)).mono ?_
    rintro e w9 ⟨rfl, hb⟩
    have K9 := hid ((K8.out.step hb))
    have E3 : decide (l'.out = l'.out ∧ l'.next = l'.next) = true := by simp
    rw [E3]
    clear E3
    clear hb K8
    have x0 := K9.out.cellN 2 rfl 0
    have x1 := K9.out.cellN 2 rfl 1
    have y0 := K9.out.cellN 1 rfl 0
    have y1 := K9.out.cellN 1 rfl 1
    simp at x0 x1 y0 y1
    go_wp2_with fail
    refine (run_ruk m 0 ws _ _ _ _ (fun b h => h) (K9.out.macN 2 rfl) (K9.out.intN 1 rfl) (by have := HZ.out; omega)).mono ?_
    rintro e w10 ⟨r4, rfl, hr, hb⟩
    have K10 := hid ((K9.out.step hb).addInts hr fun b h => h.2)
    clear hb hr x0 x1 y0 y1 K9
    have x0 := K10.out.cellN 2 rfl 0
    have x1 := K10.out.cellN 2 rfl 1
    have y0 := K10.out.cellN 1 rfl 0
    have y1 := K10.out.cellN 1 rfl 1
    simp at x0 x1 y0 y1
    go_wp2_with fail
    refine (run_ruk l' 0 ws _ _ _ _ (fun b h => h) (K10.out.macN 1 rfl) (K10.out.intN 2 rfl) (by have := HZ.out; omega)).mono ?_
    rintro e w11 ⟨r5, rfl, hr, hb⟩
    have K11 := hid ((K10.out.step hb).addInts hr fun b h => h.2)
    have XR := hid (xeqv_run HG.out HLP.out.1 HLP.out.2.1.symm HLP.out.2.2.1 ws)
    clear hb hr x0 x1 y0 y1 K10
    have x0 := K11.out.cellN 2 rfl 0
    have x1 := K11.out.cellN 2 rfl 1
    have y0 := K11.out.cellN 1 rfl 0
    have y1 := K11.out.cellN 1 rfl 1
    simp at x0 x1 y0 y1
    go_wp2_with fail
    refine (stold_any _ _ _ (K11.out.laid HL.out)).mono ?_
    rintro e w12 ⟨rfl, hb⟩
    have K12 := hid ((K11.out.step hb))
    rw [decide_eq_true XR.out.1]
    clear hb x0 x1 y0 y1 K11
    have x0 := K12.out.cellN 2 rfl 0
    have x1 := K12.out.cellN 2 rfl 1
    have y0 := K12.out.cellN 1 rfl 0
    have y1 := K12.out.cellN 1 rfl 1
    simp at x0 x1 y0 y1
    go_wp2_with fail
    refine (ints_any _ _ _ _ _ _ (K12.out.intN 1 rfl) (K12.out.intN 0 rfl)).mono ?_
    rintro e w13 ⟨rfl, q, rfl⟩
    have K13 := hid ((K12.out.drewN q))
    rw [decide_eq_true XR.out.2]
    clear x0 x1 y0 y1 K12
    have x0 := K13.out.cellN 2 rfl 0
    have x1 := K13.out.cellN 2 rfl 1
    have y0 := K13.out.cellN 1 rfl 0
    have y1 := K13.out.cellN 1 rfl 1
    simp at x0 x1 y0 y1
    go_wp2_with fail
    go_ret
    exact ⟨rfl, K13.out.bel⟩
  · have HB := hid hg
    clear hg
    go_wp2_with fail
    refine (least_bad m (fun b => b < w2.heap.size) _ _ (fun b h => h) (K2.out.macN 0 rfl) HB.out).mono ?_
    rintro e w3 ⟨rfl, hb⟩
    have K3 := hid (K2.out.step hb)
    clear hb x0 x1 K2
    have x0 := K3.out.cellN 0 rfl 0
    have x1 := K3.out.cellN 0 rfl 1
    simp at x0 x1
    have l0 := K3.out.ltN 0 rfl
    go_wp2_with fail
    clear x0 x1 l0
    have K4 := hid (K3.out.allocs #[.slice none 0 0, .slice none 0 0] 24 (g := w3.heap.size) (by simp))
    clear K3
    refine (chk_bad (fun b h => h) (K4.out.macN 0 rfl) HB.out).mono ?_
    rintro e w5 ⟨rfl, hb⟩
    have K5 := hid ((K4.out.step hb))
    clear hb K4
    go_wp2_with fail
    go_ret
    exact ⟨rfl, K5.out.bel⟩
end Go.Proofs.YtfalbffpdgfepaaDoor
