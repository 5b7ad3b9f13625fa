/- What the statements' own Edges returns of two lists of edges. No conditions. -/
import Derived.Test.YtkiljnggphlomaaDoorEdo
import Derived.Laws.StructEq
namespace Go.Proofs.YtkiljnggphlomaaDoor
open Go.RowKit
theorem edgeFs : Tryd.prog.underlying 32 = some (.struct (Tryd.prog.fieldsOf 32)) := by kernel_rfl
theorem edgeHd : Tryd.prog.stoodInHeld 32 = false := by kernel_rfl
theorem edge_in (a b c d : Int) (w : World) : (Op.equalIn 10000 32 (.agg #[.int .i64 a, .int .i64 b]) (.agg #[.int .i64 c, .int .i64 d])).run Tryd.prog w = .ok (a == c && b == d) w := by
  rw [run_equalIn_agg w 9999 _ _ _ edgeFs edgeHd]
  simp [Program.fieldsOf, Tryd.underlying32, Op.eqFields, go_sem]
  by_cases h1 : a = c <;> by_cases h2 : b = d <;> simp [h1, h2]
theorem edge_eql (a b c d : Int) (w : World) : (binOp .eql 32 (.agg #[.int .i64 a, .int .i64 b]) (.agg #[.int .i64 c, .int .i64 d])).run Tryd.prog w = .ok (.bool (a == c && b == d)) w := by
  rw [run_eql_struct, edge_in]; rfl
theorem edge_neq (a b c d : Int) (w : World) : (binOp .neq 32 (.agg #[.int .i64 a, .int .i64 b]) (.agg #[.int .i64 c, .int .i64 d])).run Tryd.prog w = .ok (.bool (!(a == c && b == d))) w := by
  rw [run_neq_struct, edge_in]; rfl
theorem elist_ext {a b : EdgeL} (hl : a.length = b.length) (h : ∀ i, i < a.length → eAt a i = eAt b i) : a = b := by
  apply List.ext_getElem hl
  intro i h1 h2
  have := h i h1
  unfold eAt at this
  rw [List.getD_eq_getElem?_getD, List.getD_eq_getElem?_getD, List.getElem?_eq_getElem h1, List.getElem?_eq_getElem h2] at this
  simpa using this
set_option maxHeartbeats 400000 in
theorem edges_any (a b : EdgeL) (F : Nat → Prop) (u v : Value) (w : World) (hu : EdgesIn F w u a) (hv : EdgesIn F w v b) :
    Calls Tryd.prog 13 #[u, v] w (Quiet w (.bool (decide (a = b)))) := by
  obtain ⟨A, ca, rfl, ha1, _, ha⟩ := hu
  obtain ⟨B, cb, rfl, hb1, _, hb⟩ := hv
  have HA := hid ha
  have HB := hid hb
  clear ha hb
  unfold maxLen at ha1 hb1
  by_cases hl : a.length = b.length
  · have HL := hid hl
    rw [← hl]
    have e1 : ((a.length : Int) != (a.length : Int)) = false := by simp
    clear hl
    go_enter Tryd.func13, Tryd.ntmps13
    go_wp2_with fail
    go_loopw [5] (fun i wr => ∃ j q : Nat, j ≤ a.length ∧ i = .int .i64 j ∧ wr = w.drewN q ∧ Hid (∀ k, k < j → eAt a k = eAt b k)) (fun i _ => a.length - (intOf i).toNat)
    case atStart => exact ⟨0, 0, Nat.zero_le _, rfl, rfl, fun k hk => by omega⟩
    case round =>
      obtain ⟨j, q, hj, rfl, rfl, hold⟩ := hrel
      by_cases hlt : j < a.length
      · obtain ⟨b1, o1, rfl, _, hc1⟩ := HA.out (by omega)
        obtain ⟨b2, o2, rfl, _, hc2⟩ := HB.out (by have := HL.out; omega)
        have c1 := (hc1 j hlt).1
        have c2 := (hc1 j hlt).2
        have c3 := (hc2 j (by rw [← HL.out]; exact hlt)).1
        have c4 := (hc2 j (by rw [← HL.out]; exact hlt)).2
        clear hc1 hc2
        have i1 : (j : Int) < (a.length : Int) := by omega
        generalize hx : eAt a j = ea at c1 c2
        generalize hy : eAt b j = eb at c3 c4
        obtain ⟨x, x'⟩ := ea
        obtain ⟨y, y'⟩ := eb
        have HX := hid hx.symm
        have HY := hid hy.symm
        have hq := edge_neq x x' y y'
        have hg := fun (op : BinOp) (s t : Operand) (w : World) => run_eqGuard_agg (P := Tryd.prog) w op 32 s t #[.int .i64 x, .int .i64 x'] #[.int .i64 y, .int .i64 y'] (by kernel_rfl)
        clear hx hy
        by_cases hxy : (x, x') = (y, y')
        · have HE := hid hxy
          clear hxy
          have z1 : (x == y && x' == y') = true := by have := HE.out; simp at this; simp [this]
          go_upto_region 6 with fail
          go_quiet (fail)
          go_wp2_with fail
          go_roundw
          case rel => exact ⟨j + 1, _, by omega, by go_num, rfl, fun k hk => by
            by_cases hkj : k = j
            · subst hkj; rw [← HX.out, ← HY.out]; exact HE.out
            · exact hold.out k (by omega)⟩
          case measure => simp [intOf]; omega
        · have z1 : (x == y && x' == y') = false := by simp at hxy; simpa using hxy
          have D : Hid (decide (a = b) = false) := by
            show decide (a = b) = false
            simp only [decide_eq_false_iff_not]
            intro h; apply hxy; rw [HX.out, HY.out, h]
          clear hxy
          go_upto_region 6 with fail
          go_quiet (fail)
          go_wp2_with fail
          go_ret
          exact ⟨by rw [D.out]; rfl, _, rfl⟩
      · have D : Hid (decide (a = b) = true) := by
          show decide (a = b) = true
          simp only [decide_eq_true_eq]
          exact elist_ext HL.out fun i hi => hold.out i (by omega)
        go_wp2_with fail
        go_ret
        exact ⟨by rw [D.out]; rfl, _, rfl⟩
  · have D : Hid (decide (a = b) = false) := by
      show decide (a = b) = false
      simp only [decide_eq_false_iff_not]
      intro h; exact hl (by rw [h])
    have e1 : ((a.length : Int) != (b.length : Int)) = true := by simp; omega
    clear hl
    go_enter Tryd.func13, Tryd.ntmps13
    go_wp2_with fail
    go_ret
    exact ⟨by rw [D.out]; rfl, 0, rfl⟩
end Go.Proofs.YtkiljnggphlomaaDoor
