/- The law MinimTells: it returns true, and all that the call was given reads as before. Condition: errors.errorType holds its handle. -/
import Derived.Test.YtfalbffpdgfepaaDoorKep
import Derived.Test.YtfalbffpdgfepaaDoorSam
import Derived.Test.YtfalbffpdgfepaaDoorBad
import Derived.Test.YtfalbffpdgfepaaDoorRfm
import Derived.Test.YtfalbffpdgfepaaDoorRle
namespace Go.Proofs.YtfalbffpdgfepaaDoor
open Go.RowKit
theorem class_one {m : MachD} {c d : List Int} (h : ClassOf m c) (k : ClassOf m d) : c = d := by
  have key : ∀ {c d : List Int}, ClassOf m c → ClassOf m d → ∀ i, i < m.out.length → at0 c i ≤ at0 d i := by
    intro c d h k i hi
    have a1 := k.nat i hi
    have a2 := h.nat i hi
    have hd : (at0 d i).toNat < m.out.length := by omega
    have e1 : Eqv m i (at0 d i).toNat := (k.eqv i _ hi hd).1 (k.own i hi).symm
    have e2 := (h.eqv i _ hi hd).2 e1
    have a3 := h.nat _ hd
    omega
  refine List.ext_getElem (by rw [h.len, k.len]) fun i h1 h2 => ?_
  have hi : i < m.out.length := by rw [← h.len]; exact h1
  have l1 := key h k i hi
  have l2 := key k h i hi
  have e : at0 c i = at0 d i := by omega
  simpa [at0, List.getD_eq_getElem?_getD, h1, h2] using e
theorem Kept.fill {W w : World} {os : List (Nat × Array Value × TypeId)} {ds : List (Value × List Int)} {ms : List (Value × MachD)} {g : Nat} {x y : Value} {t : TypeId} (a b : Value) (hb : Below W.heap.size W w)
    (hos : ∀ p ∈ os, w.heap[p.1]? = some (.cells p.2.1 p.2.2 (0, 0)) ∧ p.1 ≠ g) (hx : w.heap[g]? = some (.cells #[x, y] t (0, 0))) (hg : W.heap.size ≤ g)
    (hd : ∀ p ∈ ds, IntsIn .i64 (fun b => b < w.heap.size ∧ b ≠ g) w p.1 p.2) (hm : ∀ p ∈ ms, MachIn (fun b => b < w.heap.size ∧ b ≠ g) w p.1 p.2) :
    Kept W ((g, #[a, b], t) :: os) ds ms ((w.setCell ⟨g, 0, none⟩ a).setCell ⟨g, 1, none⟩ b) := by
  have same : Same (fun b => b < w.heap.size ∧ b ≠ g) w ((w.setCell ⟨g, 0, none⟩ a).setCell ⟨g, 1, none⟩ b) := fun i hi => by
    rw [Below.heap_setCell _ _ _ i (by simpa using hi.2), Below.heap_setCell _ _ _ i (by simpa using hi.2)]
  have sz : ((w.setCell ⟨g, 0, none⟩ a).setCell ⟨g, 1, none⟩ b).heap.size = w.heap.size := by simp
  refine ⟨(hb.setCell (by simpa using hg) _).setCell (by simpa using hg) _, fun p hp => ?_, fun p hp => ((hd p hp).keep same).more fun i hi => by rw [sz]; exact hi.1, fun p hp => ((hm p hp).keep same).more fun i hi => by rw [sz]; exact hi.1⟩
  rcases List.mem_cons.1 hp with rfl | hp
  · have := Has.set (Has.set hx 0 a) 1 b
    simpa using this
  · have h := hos p hp
    exact Has.far (Has.far h.1 (p := ⟨g, 0, none⟩) h.2 a) (p := ⟨g, 1, none⟩) h.2 b
theorem serror_nil {c : Int} (h : c = 0) (w : World) (hg : Laid w) : Calls Tryd.prog 13 #[.nilIface, .int .i64 c] w fun e w' => e = .returned (.bool true) ∧ Below w.heap.size w w' := by
  subst h
  have := serror_any 0 0 w hg
  simpa [errV] using this
theorem serror_same {c : Int} (h : c ≠ 0) (w : World) (hg : Laid w) : Calls Tryd.prog 13 #[.iface 27 (.int .i64 c), .int .i64 c] w fun e w' => e = .returned (.bool true) ∧ Below w.heap.size w w' := by
  have := serror_any c c w hg
  simpa [errV, h] using this
set_option maxRecDepth 100000 in
set_option maxHeartbeats 2000000 in
theorem minimTells_walk (m : MachD) (u : Value) (W : World) (hL : Laid W) (ha : MachIn (fun b => b < W.heap.size) W u m) :
    Calls Tryd.prog 7 #[u] W (LawPost W) := by
  have HL := hid hL
  have K0 := hid ((Kept.start W).addMach ha fun b h => h)
  obtain ⟨o1, n1, rfl, ⟨A1, c1, rfl, la, _⟩, ⟨A2, c2, rfl, _, _⟩⟩ := ha
  unfold maxLen at la
  clear hL
  go_enter Tryd.func7, Tryd.ntmps7
  go_wp2_with fail
  have K1 := hid (K0.out.allocs #[.slice A1 m.out.length c1, .slice A2 m.next.length c2] 24 (g := W.heap.size) (by simp))
  clear K0
  refine (lit_any _).mono ?_
  rintro e w2 ⟨rfl, hb⟩
  have K2 := hid ((K1.out.step hb))
  clear hb K1
  have x0 := K2.out.cellN 0 rfl 0
  have x1 := K2.out.cellN 0 rfl 1
  simp at x0 x1
  have l0 := K2.out.ltN 0 rfl
  go_wp2_with fail
  refine (rfault_any m (fun b => b < _) _ _ (fun b h => h) (K2.out.macN 0 rfl)).mono ?_
  rintro e w3 ⟨rfl, hb⟩
  have K3 := hid ((K2.out.step hb))
  clear hb x0 x1 l0 K2
  by_cases hg : chk m = 0
  · have e1 : (chk m == 0) = true := by simp [hg]
    have HC := hid hg
    have HG := hid (chk_good hg)
    clear hg
    have x0 := K3.out.cellN 0 rfl 0
    have x1 := K3.out.cellN 0 rfl 1
    simp at x0 x1
    have l0 := K3.out.ltN 0 rfl
    have HM3 := hid (K3.out.macN 0 rfl)
    have lW3 := hid K3.out.bel.size
    go_wp2_with fail
    have KA := hid (K3.out.alloc (.cells #[.slice none 0 0, .slice none 0 0] 24))
    refine (rclasses_ok m (fun b => b < (w3.alloc (.cells #[.slice none 0 0, .slice none 0 0] 24)).heap.size) _ _ (fun b h => h) (KA.out.macN 0 rfl) HG.out).mono ?_
    rintro e w5 ⟨r, c, rfl, CO, IC, hb⟩
    have HCO := hid CO
    have HIC := hid IC
    have K5 := hid (KA.out.step hb)
    have HB5 := hid hb
    have BX := hid (Has.below (Has.new w3 (.cells #[.slice none 0 0, .slice none 0 0] 24)) hb (by simp))
    clear hb x0 x1 l0 CO IC KA
    have x0 := K5.out.cellN 0 rfl 0
    have x1 := K5.out.cellN 0 rfl 1
    simp at x0 x1
    have l0 := K5.out.ltN 0 rfl
    have z5 : w3.heap.size < w5.heap.size := Has.lt BX.out
    go_wp2_with fail
    refine (rleast_ok m (fun b => b < w5.heap.size) _ _ (fun b h => h) (K5.out.macN 0 rfl) HG.out).mono ?_
    rintro e w6 ⟨rl, c', l, rfl, CO', LD, LM, hb⟩
    have HCO' := hid CO'
    have HLD := hid LD
    have HLM := hid LM
    have K6 := hid (K5.out.step hb)
    have HB6 := hid hb
    have BX6 := hid (Has.below BX.out hb z5)
    obtain ⟨oA, oB, rfl, ⟨A3, a3, rfl, lo, _⟩, ⟨A4, a4, rfl, _, _⟩⟩ := LM
    clear hb x0 x1 l0 z5 CO' LD BX lo
    have K7 : Hid (Kept W [(w3.heap.size, #[.slice A3 l.out.length a3, .slice A4 l.next.length a4], 24), (W.heap.size, #[.slice A1 m.out.length c1, .slice A2 m.next.length c2], 24)] [(r, c)] [(.agg #[.slice A3 l.out.length a3, .slice A4 l.next.length a4], l), (.agg #[.slice A1 m.out.length c1, .slice A2 m.next.length c2], m)] ((w6.setCell ⟨w3.heap.size, 0, none⟩ (.slice A3 l.out.length a3)).setCell ⟨w3.heap.size, 1, none⟩ (.slice A4 l.next.length a4))) := by
      have s5 := HB5.out.size
      have s6 := HB6.out.size
      simp only [World.size_alloc] at s5
      have lw := lW3.out
      have lw2 := K3.out.ltN 0 rfl
      refine Kept.fill _ _ K6.out.bel (fun p hp => ⟨K6.out.box p hp, ?_⟩) BX6.out lw (fun p hp => ?_) (fun p hp => ?_)
      · obtain rfl : p = _ := List.mem_singleton.1 hp
        simp; omega
      · obtain rfl : p = _ := List.mem_singleton.1 hp
        refine (HIC.out.keep (Same.of_below HB6.out fun b h => h.2)).more fun b h => ?_
        have h1 := h.1
        have h2 := h.2
        simp only [World.size_alloc] at h1
        exact ⟨by omega, by omega⟩
      · rcases List.mem_cons.1 hp with rfl | hp
        · refine HLM.out.more fun b h => ?_
          have h1 := h.1
          exact ⟨h.2, by omega⟩
        · obtain rfl : p = _ := List.mem_singleton.1 hp
          refine (HM3.out.keep fun b h => ?_).more fun b h => ⟨by omega, by omega⟩
          have q1 := Same.of_below (F := fun b => b < w3.heap.size) HB5.out (fun b h => by simp; omega) b h
          have q2 := Same.of_below (F := fun b => b < w5.heap.size) HB6.out (fun b h => h) b (by simpa using (by omega : b < w5.heap.size))
          rw [q2, q1]
          exact Below.heap_alloc _ _ _ h
    have p0 := Has.cell BX6.out 0
    have p1 := Has.cell BX6.out 1
    have fp0 := Has.froz BX6.out 0
    have fp1 := Has.froz BX6.out 1
    simp at p0 p1
    clear BX6
    have x0 := K6.out.cellN 0 rfl 0
    have x1 := K6.out.cellN 0 rfl 1
    simp at x0 x1
    have z6 : W.heap.size ≠ w3.heap.size := by have := K3.out.ltN 0 rfl; omega
    go_wp2_with fail
    refine (classes_ok m (fun b => b < ((w6.setCell ⟨w3.heap.size, 0, none⟩ (.slice A3 l.out.length a3)).setCell ⟨w3.heap.size, 1, none⟩ (.slice A4 l.next.length a4)).heap.size) _ _ (fun b h => h) (K7.out.macN 1 rfl) HG.out).mono ?_
    rintro e w8 ⟨r2, c2', rfl, CO2, IC2, hb⟩
    obtain rfl : c2' = c := class_one CO2 HCO.out
    have K8 := hid ((K7.out.step hb).addInts IC2 fun b h => h.2)
    clear hb x0 x1 z6 p0 p1 fp0 fp1 CO2 IC2 K7 K6
    go_wp2_with fail
    refine (serror_nil HC.out _ (K8.out.laid HL.out)).mono ?_
    rintro e w9 ⟨rfl, hb⟩
    have K9 := hid ((K8.out.step hb))
    clear hb K8
    go_wp2_with fail
    refine (ints_any _ _ _ _ _ _ (K9.out.intN 0 rfl) (K9.out.intN 1 rfl)).mono ?_
    rintro e w10 ⟨rfl, q, rfl⟩
    have K10 := hid ((K9.out.drewN q))
    rw [decide_eq_true rfl]
    clear K9
    have x0 := K10.out.cellN 1 rfl 0
    have x1 := K10.out.cellN 1 rfl 1
    have y0 := K10.out.cellN 0 rfl 0
    have y1 := K10.out.cellN 0 rfl 1
    simp at x0 x1 y0 y1
    go_wp2_with fail
    refine (least_ok m (fun b => b < _) _ _ (fun b h => h) (K10.out.macN 1 rfl) HG.out).mono ?_
    rintro e w11 ⟨r3, c3, l3, rfl, CO, LD, LM, hb⟩
    obtain rfl : c3 = c' := class_one CO HCO'.out
    have EL : l3 = l := least_one rfl HG.out HG.out CO HCO'.out (fun _ _ => rfl) LD HLD.out
    subst EL
    have K11 := hid ((K10.out.step hb).addMach LM fun b h => h.2)
    obtain ⟨oA, oB, rfl, ⟨A6, a6, rfl, _, _⟩, ⟨A7, a7, rfl, _, _⟩⟩ := LM
    clear hb x0 x1 y0 y1 K10 CO LD
    have x0 := K11.out.cellN 1 rfl 0
    have x1 := K11.out.cellN 1 rfl 1
    have y0 := K11.out.cellN 0 rfl 0
    have y1 := K11.out.cellN 0 rfl 1
    simp at x0 x1 y0 y1
    have l0 := K11.out.ltN 0 rfl
    have l1 := K11.out.ltN 1 rfl
    go_wp2_with fail
    clear x0 x1 y0 y1 l0 l1
    have K12 := hid (K11.out.allocs #[.slice A6 l3.out.length a6, .slice A7 l3.next.length a7] 24 (g := w11.heap.size) (by simp))
    clear K11
    refine (serror_nil HC.out _ (K12.out.laid HL.out)).mono ?_
    rintro e w13 ⟨rfl, hb⟩
    have K13 := hid ((K12.out.step hb))
    clear hb K12
    have x0 := K13.out.cellN 1 rfl 0
    have x1 := K13.out.cellN 1 rfl 1
    have y0 := K13.out.cellN 0 rfl 0
    have y1 := K13.out.cellN 0 rfl 1
    simp at x0 x1 y0 y1
    go_wp2_with fail
    refine (samach_any l3 l3 (fun b => b < _) _ _ _ (fun b h => h) (K13.out.macN 0 rfl) (K13.out.macN 1 rfl)).mono ?_
    rintro e w14 ⟨rfl, hb⟩
    have K14 := hid ((K13.out.step hb))
    have E3 : decide (l3.out = l3.out ∧ l3.next = l3.next) = true := by simp
    rw [E3]
    clear E3
    clear hb x0 x1 y0 y1 K13
    go_wp2_with fail
    go_ret
    exact ⟨rfl, K14.out.bel⟩
  · have e1 : (chk m == 0) = false := by simp [hg]
    have HB := hid hg
    clear hg
    have x0 := K3.out.cellN 0 rfl 0
    have x1 := K3.out.cellN 0 rfl 1
    simp at x0 x1
    have l0 := K3.out.ltN 0 rfl
    go_wp2_with fail
    clear x0 x1 l0
    have K4 := hid (K3.out.allocs #[.slice none 0 0, .slice none 0 0] 24 (g := w3.heap.size) (by simp))
    clear K3
    refine (classes_bad m (fun b => b < _) _ _ (fun b h => h) (K4.out.macN 0 rfl) HB.out).mono ?_
    rintro e w5 ⟨rfl, hb⟩
    have K5 := hid ((K4.out.step hb))
    clear hb K4
    go_wp2_with fail
    refine (serror_same HB.out _ (K5.out.laid HL.out)).mono ?_
    rintro e w6 ⟨rfl, hb⟩
    have K6 := hid ((K5.out.step hb))
    clear hb K5
    go_wp2_with fail
    refine (ints_any [] [] (fun _ => False) _ _ _ IntsIn.nil_ IntsIn.nil_).mono ?_
    rintro e w7 ⟨rfl, q, rfl⟩
    have K7 := hid ((K6.out.drewN q))
    rw [decide_eq_true rfl]
    clear K6
    have x0 := K7.out.cellN 1 rfl 0
    have x1 := K7.out.cellN 1 rfl 1
    have y0 := K7.out.cellN 0 rfl 0
    have y1 := K7.out.cellN 0 rfl 1
    simp at x0 x1 y0 y1
    go_wp2_with fail
    refine (least_bad m (fun b => b < _) _ _ (fun b h => h) (K7.out.macN 0 rfl) HB.out).mono ?_
    rintro e w8 ⟨rfl, hb⟩
    have K8 := hid ((K7.out.step hb))
    clear hb x0 x1 y0 y1 K7
    have x0 := K8.out.cellN 1 rfl 0
    have x1 := K8.out.cellN 1 rfl 1
    have y0 := K8.out.cellN 0 rfl 0
    have y1 := K8.out.cellN 0 rfl 1
    simp at x0 x1 y0 y1
    have l0 := K8.out.ltN 0 rfl
    have l1 := K8.out.ltN 1 rfl
    go_wp2_with fail
    clear x0 x1 y0 y1 l0 l1
    have K9 := hid (K8.out.allocs #[.slice none 0 0, .slice none 0 0] 24 (g := w8.heap.size) (by simp))
    clear K8
    refine (serror_same HB.out _ (K9.out.laid HL.out)).mono ?_
    rintro e w10 ⟨rfl, hb⟩
    have K10 := hid ((K9.out.step hb))
    clear hb K9
    have x0 := K10.out.cellN 1 rfl 0
    have x1 := K10.out.cellN 1 rfl 1
    have y0 := K10.out.cellN 0 rfl 0
    have y1 := K10.out.cellN 0 rfl 1
    simp at x0 x1 y0 y1
    go_wp2_with fail
    refine (samach_any ⟨[], []⟩ ⟨[], []⟩ (fun b => b < _) _ _ _ (fun b h => h) ⟨_, _, rfl, RowsIn.nil_, RowsIn.nil_⟩ ⟨_, _, rfl, RowsIn.nil_, RowsIn.nil_⟩).mono ?_
    rintro e w11 ⟨rfl, hb⟩
    have K11 := hid ((K10.out.step hb))
    have E3 : decide ((⟨[], []⟩ : MachD).out = (⟨[], []⟩ : MachD).out ∧ (⟨[], []⟩ : MachD).next = (⟨[], []⟩ : MachD).next) = true := by simp
    rw [E3]
    clear E3
    clear hb x0 x1 y0 y1 K10
    go_wp2_with fail
    go_ret
    exact ⟨rfl, K11.out.bel⟩
end Go.Proofs.YtfalbffpdgfepaaDoor
