/- The law MealyTurned: it returns true, and all that the call was given reads as before. Condition: errors.errorType holds its handle. -/
import Derived.Test.YtfalbffpdgfepaaDoorApt
import Derived.Test.YtfalbffpdgfepaaDoorKep
namespace Go.Proofs.YtfalbffpdgfepaaDoor
open Go.RowKit
theorem apart_turn {a b : MachD} (hi : ins a = ins b) {i k : Nat} {f : List Int} (h : First a b i k f) : First b a k i f := by
  have wd : ∀ v, word b v ↔ word a v := fun v => by
    constructor <;> intro h x hx <;> have := h x hx
    · exact ⟨this.1, by rw [hi]; exact this.2⟩
    · exact ⟨this.1, by rw [← hi]; exact this.2⟩
  refine ⟨(wd f).2 h.1, fun e => h.2.1 e.symm, fun v hv ht => h.2.2 v ((wd v).1 hv) fun e => ht e.symm⟩
theorem apart_sym {a b : MachD} (hi : ins a = ins b) (i k : Nat) : apartL a b i k = apartL b a k i ∧ apartN a b i k = apartN b a k i := by
  by_cases h : ∃ f, First a b i k f
  · obtain ⟨f, hf⟩ := h
    have h1 := apart_yes hf
    have h2 := apart_yes (apart_turn hi hf)
    exact ⟨h1.1.trans h2.1.symm, h1.2.trans h2.2.symm⟩
  · have h' : ¬ ∃ f, First b a k i f := fun ⟨f, hf⟩ => h ⟨f, apart_turn hi.symm hf⟩
    constructor
    · unfold apartL; rw [dif_neg h, dif_neg h']
    · unfold apartN; rw [if_neg h, if_neg h']
theorem ap_sym {a b : MachD} (ga : chk a = 0) (gb : chk b = 0) : apL a b = apL b a ∧ apC a b = apC b a := by
  by_cases hi : ins a = ins b
  · have := apart_sym hi 0 0
    constructor
    · unfold apL; rw [if_pos ⟨ga, gb, hi⟩, if_pos ⟨gb, ga, hi.symm⟩, this.1]
    · unfold apC; rw [if_neg (by simp [ga]), if_neg (by simp [gb]), if_neg (by simp [hi]), if_neg (by simp [gb]), if_neg (by simp [ga]), if_neg (by simp [hi]), this.2]
  · constructor
    · unfold apL; rw [if_neg (fun h => hi h.2.2), if_neg (fun h => hi h.2.2.symm)]
    · unfold apC; rw [if_neg (by simp [ga]), if_neg (by simp [gb]), if_pos hi, if_neg (by simp [gb]), if_neg (by simp [ga]), if_pos fun h => hi h.symm]
theorem ap_self {a : MachD} (ga : chk a = 0) : apC a a = 2 := by
  unfold apC; rw [if_neg (by simp [ga]), if_neg (by simp [ga]), if_neg (by simp)]
  exact (apart_no fun w _ => rfl).2
theorem ap_bad {a b : MachD} (h : ¬ (chk a = 0 ∧ chk b = 0)) : apC a b ≠ 0 := by
  unfold apC
  by_cases ga : chk a = 0
  · rw [if_neg (by simp [ga]), if_pos (fun gb => h ⟨ga, gb⟩)]; exact fun gb => h ⟨ga, gb⟩
  · rw [if_pos ga]; exact ga
set_option maxRecDepth 100000 in
set_option maxHeartbeats 1000000 in
theorem mealyTurned_walk (a : MachD) (u : Value) (b : MachD) (v : Value) (W : World) (hL : Laid W) (ha : MachIn (fun b => b < W.heap.size) W u a) (hb : MachIn (fun b => b < W.heap.size) W v b) :
    Calls Tryd.prog 5 #[u, v] W (LawPost W) := by
  have HL := hid hL
  have K0 := hid (((Kept.start W).addMach ha fun b h => h).addMach hb fun b h => h)
  obtain ⟨o1, n1, rfl, ⟨A1, c1, rfl, _, _⟩, ⟨A2, c2, rfl, _, _⟩⟩ := ha
  obtain ⟨o2, n2, rfl, ⟨A3, c3, rfl, _, _⟩, ⟨A4, c4, rfl, _, _⟩⟩ := hb
  clear hL
  go_enter Tryd.func5, Tryd.ntmps5
  go_wp2_with fail
  have K1 := hid ((K0.out.allocs #[.slice A1 a.out.length c1, .slice A2 a.next.length c2] 24 rfl).allocs #[.slice A3 b.out.length c3, .slice A4 b.next.length c4] 24 (g := W.heap.size + 1) (by simp))
  refine (lit_any _).mono ?_
  rintro e w1 ⟨rfl, hb⟩
  have K2 := hid (K1.out.step hb)
  clear hb K0 K1
  have x0 := K2.out.cellN 1 rfl 0
  have x1 := K2.out.cellN 1 rfl 1
  have y0 := K2.out.cellN 0 rfl 0
  have y1 := K2.out.cellN 0 rfl 1
  simp at x0 x1 y0 y1
  go_wp2_with fail
  refine (apart_any a b _ _ _ _ (fun b h => h) (K2.out.macN 1 rfl) (K2.out.macN 0 rfl)).mono ?_
  rintro e w3 ⟨r3, rfl, hr, hb⟩
  have K3 := hid ((K2.out.step hb).addInts hr fun b h => h.2)
  clear hr hb x0 x1 y0 y1 K2
  have x0 := K3.out.cellN 1 rfl 0
  have x1 := K3.out.cellN 1 rfl 1
  have y0 := K3.out.cellN 0 rfl 0
  have y1 := K3.out.cellN 0 rfl 1
  simp at x0 x1 y0 y1
  go_wp2_with fail
  refine (apart_any b a _ _ _ _ (fun b h => h) (K3.out.macN 0 rfl) (K3.out.macN 1 rfl)).mono ?_
  rintro e w4 ⟨r4, rfl, hr, hb⟩
  have K4 := hid ((K3.out.step hb).addInts hr fun b h => h.2)
  clear hr hb x0 x1 y0 y1 K3
  have x0 := K4.out.cellN 1 rfl 0
  have x1 := K4.out.cellN 1 rfl 1
  have y0 := K4.out.cellN 0 rfl 0
  have y1 := K4.out.cellN 0 rfl 1
  simp at x0 x1 y0 y1
  go_wp2_with fail
  refine (apart_any a a _ _ _ _ (fun b h => h) (K4.out.macN 1 rfl) (K4.out.macN 1 rfl)).mono ?_
  rintro e w5 ⟨r5, rfl, hr, hb⟩
  have K5 := hid ((K4.out.step hb).addInts hr fun b h => h.2)
  clear hr hb x0 x1 y0 y1 K4
  have x0 := K5.out.cellN 1 rfl 0
  have x1 := K5.out.cellN 1 rfl 1
  have y0 := K5.out.cellN 0 rfl 0
  have y1 := K5.out.cellN 0 rfl 1
  simp at x0 x1 y0 y1
  by_cases hg : chk a = 0 ∧ chk b = 0
  · have G := hid hg
    have GA := chk_good hg.1
    have GB := chk_good hg.2
    have HA := hid GA
    have HB := hid GB
    have ES := hid (ap_sym hg.1 hg.2)
    have EF := hid (ap_self hg.1)
    clear hg GA GB
    go_wp2_with fail
    refine (chk_ok (fun b h => h) (K5.out.macN 1 rfl) HA.out).mono ?_
    rintro e w6 ⟨rfl, hb⟩
    have K6 := hid (K5.out.step hb)
    clear hb x0 x1 y0 y1 K5
    have y0 := K6.out.cellN 0 rfl 0
    have y1 := K6.out.cellN 0 rfl 1
    simp at y0 y1
    go_wp2_with fail
    refine (chk_ok (fun b h => h) (K6.out.macN 0 rfl) HB.out).mono ?_
    rintro e w7 ⟨rfl, hb⟩
    have K7 := hid (K6.out.step hb)
    clear hb y0 y1 K6
    go_wp2_with fail
    refine (ints_any _ _ _ _ _ _ (K7.out.intN 2 rfl) (K7.out.intN 1 rfl)).mono ?_
    rintro e w8 ⟨rfl, q, rfl⟩
    have K8 := hid (K7.out.drewN q)
    rw [decide_eq_true ES.out.1]
    clear K7
    go_wp2_with fail
    refine (stold_any _ _ _ (K8.out.laid HL.out)).mono ?_
    rintro e w9 ⟨rfl, hb⟩
    have K9 := hid (K8.out.step hb)
    rw [decide_eq_true ES.out.2]
    clear hb K8
    go_wp2_with fail
    refine (serror_any _ _ _ (K9.out.laid HL.out)).mono ?_
    rintro e w10 ⟨rfl, hb⟩
    have K10 := hid (K9.out.step hb)
    rw [decide_eq_true EF.out]
    clear hb K9
    go_wp2_with fail
    go_ret
    exact ⟨rfl, K10.out.bel⟩
  · have E1 := ap_bad hg
    have E2 := ap_bad (a := b) (b := a) fun h => hg ⟨h.2, h.1⟩
    rw [errV_no E1, errV_no E2]
    clear E1 E2
    by_cases ga : chk a = 0
    · have HA := hid (chk_good ga)
      have gb : chk b ≠ 0 := fun h => hg ⟨ga, h⟩
      have HB := hid gb
      clear hg ga gb
      go_wp2_with fail
      refine (chk_ok (fun b h => h) (K5.out.macN 1 rfl) HA.out).mono ?_
      rintro e w6 ⟨rfl, hb⟩
      have K6 := hid (K5.out.step hb)
      clear hb x0 x1 y0 y1 K5
      have y0 := K6.out.cellN 0 rfl 0
      have y1 := K6.out.cellN 0 rfl 1
      simp at y0 y1
      go_wp2_with fail
      refine (chk_bad (fun b h => h) (K6.out.macN 0 rfl) HB.out).mono ?_
      rintro e w7 ⟨rfl, hb⟩
      have K7 := hid (K6.out.step hb)
      clear hb y0 y1 K6
      go_wp2_with fail
      go_ret
      exact ⟨rfl, K7.out.bel⟩
    · have HA := hid ga
      clear hg ga
      go_wp2_with fail
      refine (chk_bad (fun b h => h) (K5.out.macN 1 rfl) HA.out).mono ?_
      rintro e w6 ⟨rfl, hb⟩
      have K6 := hid (K5.out.step hb)
      clear hb x0 x1 y0 y1 K5
      go_wp2_with fail
      go_ret
      exact ⟨rfl, K6.out.bel⟩
end Go.Proofs.YtfalbffpdgfepaaDoor
