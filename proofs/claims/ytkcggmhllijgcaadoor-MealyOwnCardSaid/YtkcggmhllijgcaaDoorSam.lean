/- What the statements' own Rows and Machine return. No conditions. -/
import Derived.Test.YtkcggmhllijgcaaDoorRap
import Derived.Test.YtkcggmhllijgcaaDoorInts
namespace Go.Proofs.YtkcggmhllijgcaaDoor
open Go.RowKit
theorem rows_ext_at {a b : List (List Int)} (hl : a.length = b.length) (h : ∀ i, i < a.length → rowAt a i = rowAt b i) : a = b := by
  apply List.ext_getElem hl
  intro i h1 h2
  have := h i h1
  unfold rowAt at this
  rw [List.getD_eq_getElem?_getD, List.getD_eq_getElem?_getD, List.getElem?_eq_getElem h1, List.getElem?_eq_getElem h2] at this
  simpa using this
set_option maxHeartbeats 400000 in
theorem rows_any (a b : List (List Int)) (F : Nat → Prop) (u v : Value) (w : World) (hu : RowsIn F w u a) (hv : RowsIn F w v b) :
    Calls Tryd.prog 24 #[u, v] w (Quiet w (.bool (decide (a = b)))) := by
  obtain ⟨A, ca, rfl, ha1, ha⟩ := hu
  obtain ⟨B, cb, rfl, hb1, hb⟩ := hv
  have HA := hid ha
  have HB := hid hb
  clear ha hb
  unfold maxLen at ha1 hb1
  by_cases hl : a.length = b.length
  · have HL := hid hl
    rw [← hl]
    have e1 : ((a.length : Int) != (a.length : Int)) = false := by simp
    clear hl
    go_enter Tryd.func24, Tryd.ntmps24
    go_wp2_with fail
    go_loopw [5] (fun i wr => ∃ j q : Nat, j ≤ a.length ∧ i = .int .i64 j ∧ wr = w.drewN q ∧ Hid (∀ k, k < j → rowAt a k = rowAt b k)) (fun i _ => a.length - (intOf i).toNat)
    case atStart => exact ⟨0, 0, Nat.zero_le _, rfl, rfl, fun k hk => by omega⟩
    case round =>
      obtain ⟨j, q, hj, rfl, hq, hold⟩ := hrel
      have HQ := hid hq
      by_cases hlt : j < a.length
      · obtain ⟨b1, o1, rfl, _, hc1⟩ := HA.out (by omega)
        obtain ⟨b2, o2, rfl, _, hc2⟩ := HB.out (by have := HL.out; omega)
        obtain ⟨r1, c1, i1'⟩ := hc1 j hlt
        obtain ⟨r2, c2, i2'⟩ := hc2 j (by rw [← HL.out]; exact hlt)
        have I1 : Hid (IntsIn .i64 F wr r1 (rowAt a j)) := by have := i1'.keep (w' := w.drewN q) (fun _ _ => rfl); rw [← hq] at this; exact this
        have I2 : Hid (IntsIn .i64 F wr r2 (rowAt b j)) := by have := i2'.keep (w' := w.drewN q) (fun _ _ => rfl); rw [← hq] at this; exact this
        have c1' : wr.cell? ⟨b1, o1 + j, none⟩ = some r1 := by rw [hq]; exact c1
        have c2' : wr.cell? ⟨b2, o2 + j, none⟩ = some r2 := by rw [hq]; exact c2
        clear hc1 hc2 i1' i2' c1 c2 hq
        have i1 : (j : Int) < (a.length : Int) := by omega
        go_upto_region 6 with fail
        go_quiet ((go_at_call 35; exact Calls.quiet_of (ints_any (rowAt a j) (rowAt b j) F _ _ _ (I1.out.keep fun _ _ => rfl) (I2.out.keep fun _ _ => rfl))))
        by_cases hxy : rowAt a j = rowAt b j
        · have HE := hid hxy
          have z1 : decide (rowAt a j = rowAt b j) = true := by simp [hxy]
          rw [z1]
          clear hxy z1
          go_wp2_with fail
          go_roundw
          case rel => exact ⟨j + 1, q + nq, by omega, by go_num, by rw [HQ.out]; simp only [World.drewN_drewN], fun k hk => by
            by_cases hkj : k = j
            · subst hkj; exact HE.out
            · exact hold.out k (by omega)⟩
          case measure => simp [intOf]; omega
        · have z1 : decide (rowAt a j = rowAt b j) = false := by simp [hxy]
          have D : Hid (decide (a = b) = false) := by
            show decide (a = b) = false
            simp only [decide_eq_false_iff_not]
            intro h; apply hxy; rw [h]
          rw [z1]
          clear hxy z1
          go_wp2_with fail
          go_ret
          exact ⟨by rw [D.out]; rfl, q + nq, by rw [HQ.out]; simp only [World.drewN_drewN]⟩
      · have D : Hid (decide (a = b) = true) := by
          show decide (a = b) = true
          simp only [decide_eq_true_eq]
          exact rows_ext_at HL.out fun i hi => hold.out i (by omega)
        clear hq
        go_wp2_with fail
        go_ret
        exact ⟨by rw [D.out]; rfl, q, HQ.out⟩
  · have D : Hid (decide (a = b) = false) := by
      show decide (a = b) = false
      simp only [decide_eq_false_iff_not]
      intro h; exact hl (by rw [h])
    have e1 : ((a.length : Int) != (b.length : Int)) = true := by simp; omega
    clear hl
    go_enter Tryd.func24, Tryd.ntmps24
    go_wp2_with fail
    go_ret
    exact ⟨by rw [D.out]; rfl, 0, rfl⟩
set_option maxHeartbeats 400000 in
theorem samach_any (a b : MachD) (F : Nat → Prop) (u v : Value) (w : World) (hF : ∀ b, F b → b < w.heap.size) (hu : MachIn F w u a) (hv : MachIn F w v b) :
    Calls Tryd.prog 17 #[u, v] w fun e w' => e = .returned (.bool (decide (a.out = b.out ∧ a.next = b.next))) ∧ Below w.heap.size w w' := by
  obtain ⟨o1, n1, rfl, h1, h2⟩ := hu
  obtain ⟨o2, n2, rfl, h3, h4⟩ := hv
  have HF := hid hF
  have H1 := hid h1
  have H2 := hid h2
  have H3 := hid h3
  have H4 := hid h4
  obtain ⟨A1, c1, rfl, _, _⟩ := h1
  obtain ⟨A2, c2, rfl, _, _⟩ := h2
  obtain ⟨A3, c3, rfl, _, _⟩ := h3
  obtain ⟨A4, c4, rfl, _, _⟩ := h4
  clear hF
  have SM : Hid (∀ (o o' : Obj) (q : Nat), Same F w (((w.alloc o).alloc o').drewN q)) := fun o o' q b hb => (Below.heap_alloc _ _ _ (by have := HF.out b hb; simp; omega)).trans (Below.heap_alloc _ _ _ (HF.out b hb))
  go_enter Tryd.func17, Tryd.ntmps17
  go_wp2_with fail
  refine (rows_any a.out b.out F _ _ _ (H1.out.keep (SM.out _ _ 0)) (H3.out.keep (SM.out _ _ 0))).mono ?_
  rintro e w1 ⟨rfl, q, rfl⟩
  go_wp2_with fail
  refine (rows_any a.next b.next F _ _ _ (H2.out.keep (SM.out _ _ q)) (H4.out.keep (SM.out _ _ q))).mono ?_
  rintro e w2 ⟨rfl, q2, rfl⟩
  have BB : Hid (∀ (o o' : Obj) (q : Nat), Below w.heap.size w (((w.alloc o).alloc o').drewN q)) := fun o o' q => below_drewN (((Below.refl _ _).alloc (Nat.le_refl _) _).alloc (by simp) _) q
  by_cases z1 : a.out = b.out
  · by_cases z2 : a.next = b.next
    · have d1 : decide (a.out = b.out) = true := by simp [z1]
      have d2 : decide (a.next = b.next) = true := by simp [z2]
      have D : Hid (decide (a.out = b.out ∧ a.next = b.next) = true) := by show _ = _; simp [z1, z2]
      rw [d1, d2]
      clear z1 z2 d1 d2
      go_wp2_with fail
      go_ret
      exact ⟨by rw [D.out]; rfl, BB.out _ _ _⟩
    · have d1 : decide (a.out = b.out) = true := by simp [z1]
      have d2 : decide (a.next = b.next) = false := by simp [z2]
      have D : Hid (decide (a.out = b.out ∧ a.next = b.next) = false) := by show _ = _; simp [z1, z2]
      rw [d1, d2]
      clear z1 z2 d1 d2
      go_wp2_with fail
      go_ret
      exact ⟨by rw [D.out]; rfl, BB.out _ _ _⟩
  · have d1 : decide (a.out = b.out) = false := by simp [z1]
    have D : Hid (decide (a.out = b.out ∧ a.next = b.next) = false) := by show _ = _; simp [z1]
    rw [d1]
    clear z1 d1
    go_wp2_with fail
    go_ret
    exact ⟨by rw [D.out]; rfl, BB.out _ _ _⟩
end Go.Proofs.YtkcggmhllijgcaaDoor
