/- What mealy.Check returns, whatever the machine: nil where the plain list has no fault, else the fault's number. No conditions. -/
import Derived.Test.YtkcggmhllijgcaaDoorRows
import Derived.Test.YtkcggmhllijgcaaDoorMrow
import Derived.WalkLawsBesides
import Derived.Deep.CutRange
namespace Go.Proofs.YtkcggmhllijgcaaDoor
open Go.RowKit
/-- an error by its number -/
def errV (c : Int) : Value := if c = 0 then .nilIface else .iface 33 (.int .i64 c)
theorem chk_row {m : MachD} {i : Nat} {c : Int} (h1 : ¬ (m.out.length < 1 ∨ 6 < m.out.length)) (h2 : m.next.length = m.out.length) (hi : i < m.out.length) (h : ∀ j, j < i → rowBad m j = none) (hc : rowBad m i = some c) : chk m = c := by
  unfold chk; rw [if_neg h1, if_neg (by omega), find_first (rowBad m) _ i c hi h hc]; rfl
theorem chk_all {m : MachD} (h1 : ¬ (m.out.length < 1 ∨ 6 < m.out.length)) (h2 : m.next.length = m.out.length) (h : ∀ j, j < m.out.length → rowBad m j = none) : chk m = 0 := by
  unfold chk; rw [if_neg h1, if_neg (by omega), find_none _ _ h]; rfl
theorem any_at {p : Int → Bool} : ∀ {l : List Int} {i : Nat}, i < l.length → p (at0 l i) = true → l.any p = true := by
  intro l i hi hp
  rw [List.any_eq_true]
  refine ⟨at0 l i, ?_, hp⟩
  unfold at0; rw [List.getD_eq_getElem?_getD, List.getElem?_eq_getElem hi]; exact List.getElem_mem _
theorem any_none {p : Int → Bool} {l : List Int} (h : ∀ i, i < l.length → p (at0 l i) = false) : l.any p = false := by
  rw [List.any_eq_false]
  intro x hx
  obtain ⟨i, hi, rfl⟩ := List.getElem_of_mem hx
  have := h i hi
  unfold at0 at this; rw [List.getD_eq_getElem?_getD, List.getElem?_eq_getElem hi] at this
  simpa using this
def Ends (c : Int) (w : World) (e : Ending) (w' : World) : Prop := e = .returned (errV c) ∧ Below w.heap.size w w'
set_option maxRecDepth 100000 in
set_option maxHeartbeats 1000000 in
theorem check_main (m : MachD) (F : Nat → Prop) (v : Value) (w : World) (hF : ∀ b, F b → b < w.heap.size) (h : MachIn F w v m) (h1 : 1 ≤ m.out.length) (h6 : m.out.length ≤ 6) (h2 : m.next.length = m.out.length) :
    Calls Tryd.prog 11 #[v] w (Ends (chk m) w) := by
  obtain ⟨o, nx, rfl, ⟨Ao, co, rfl, ho1, ho⟩, ⟨An, cn, rfl, hn1, hn⟩⟩ := h
  obtain ⟨bo, oo, rfl, hbo, hco⟩ := ho (by omega)
  obtain ⟨bn, on, rfl, hbn, hcn⟩ := hn (by omega)
  have lo := hF bo hbo
  have ln := hF bn hbn
  obtain ⟨r0, hr0, ⟨A0, c0, rfl, hm0, _, _⟩⟩ := hco 0 (by omega)
  have HO := hid hco
  have HN := hid hcn
  rw [h2]
  have H2 := hid h2
  generalize hN : m.out.length = n at *
  have HNn := hid hN
  simp only [Nat.add_zero] at hr0
  clear ho hn hco hcn ho1 hn1 h2 hN
  have d1 : decide ((n : Int) < 1) = false := by simp; omega
  have d2 : decide (6 < (n : Int)) = false := by simp; omega
  have d3 : ((n : Int) != n) = false := by simp
  have n1 : (n : Int) ≤ 6 := by omega
  have hk : ((rowAt m.out 0).length : Int) ≤ 9223372036854775807 := by unfold maxLen at hm0; omega
  go_enter Tryd.func11, Tryd.ntmps11
  go_wp2_with fail
  go_loop [30] (fun i => ∃ k : Nat, k ≤ n ∧ i = .int .i64 k ∧ Hid (∀ j, j < k → rowBad m j = none)) (fun i => n - (intOf i).toNat)
  case atStart => exact ⟨0, Nat.zero_le _, rfl, fun j hj => by omega⟩
  case round =>
    obtain ⟨i, hi, rfl, hold⟩ := hrel
    by_cases hlt : i < n
    · obtain ⟨r, hr, ⟨Ai, ci, rfl, hmi, _, _⟩⟩ := HO.out i hlt
      obtain ⟨q, hq, ⟨Aj, cj, rfl, hmj, hwj, hcj⟩⟩ := HN.out i (by rw [H2.out]; exact hlt)
      have B : Hid (∀ c, rowBad m i = some c → chk m = c) := fun c hc => chk_row (by rw [HNn.out]; omega) (by rw [H2.out, HNn.out]) (by rw [HNn.out]; exact hlt) hold.out hc
      clear hwj
      have HJ := hid hcj
      clear hcj
      have i1 : (i : Int) < (n : Int) := by omega
      by_cases hb : (rowAt m.out 0).length < 1 ∨ 3 < (rowAt m.out 0).length ∨ (rowAt m.out i).length ≠ (rowAt m.out 0).length ∨ (rowAt m.next i).length ≠ (rowAt m.out 0).length
      · have C : Hid (chk m = 3) := B.out 3 (by unfold rowBad; rw [if_pos hb])
        have HB := hid hb
        generalize (rowAt m.out 0).length = k at *
        generalize (rowAt m.out i).length = li at *
        generalize (rowAt m.next i).length = lj at *
        clear hb B
        by_cases k1 : k < 1
        · go_wp2_with fail
          go_ret
          exact ⟨by rw [C.out]; rfl, (Below.refl _ _).alloc (Nat.le_refl _) _⟩
        · by_cases k3 : 3 < k
          · have e1 : decide ((k : Int) < 1) = false := by simp; omega
            have e2 : decide (3 < (k : Int)) = true := by simp; omega
            go_wp2_with fail
            go_ret
            exact ⟨by rw [C.out]; rfl, (Below.refl _ _).alloc (Nat.le_refl _) _⟩
          · have e1 : decide ((k : Int) < 1) = false := by simp; omega
            have e2 : decide (3 < (k : Int)) = false := by simp; omega
            by_cases l1 : li = k
            · have e3 : ((li : Int) != (k : Int)) = false := by simp; omega
              have e4 : ((lj : Int) != (k : Int)) = true := by have := HB.out; simp; omega
              clear l1
              go_wp2_with fail
              go_ret
              exact ⟨by rw [C.out]; rfl, (Below.refl _ _).alloc (Nat.le_refl _) _⟩
            · have e3 : ((li : Int) != (k : Int)) = true := by simp; omega
              clear l1
              go_wp2_with fail
              go_ret
              exact ⟨by rw [C.out]; rfl, (Below.refl _ _).alloc (Nat.le_refl _) _⟩
      · have hk1 : 1 ≤ (rowAt m.out 0).length ∧ (rowAt m.out 0).length ≤ 3 ∧ (rowAt m.out i).length = (rowAt m.out 0).length ∧ (rowAt m.next i).length = (rowAt m.out 0).length := by omega
        obtain ⟨x1, x2, x3, x4⟩ := hk1
        have HX := hid (show rowBad m i = if (rowAt m.next i).any (entryBad m.out.length) then some 1 else none from by unfold rowBad; rw [if_neg hb])
        have HL := hid x4
        rw [x3] at hr
        rw [x4] at hq
        generalize (rowAt m.out 0).length = k at *
        clear hb x3 x4
        have e1 : decide ((k : Int) < 1) = false := by simp; omega
        have e2 : decide (3 < (k : Int)) = false := by simp; omega
        have e3 : ((k : Int) != (k : Int)) = false := by simp
        go_wp2_with fail
        go_loop [66] (fun p => ∃ j : Nat, j ≤ k ∧ p = .int .i64 j ∧ Hid (∀ y, y < j → entryBad n (at0 (rowAt m.next i) y) = false)) (fun p => k - (intOf p).toNat)
        case atStart => exact ⟨0, Nat.zero_le _, rfl, fun y hy => by omega⟩
        case round =>
          obtain ⟨j, hj, rfl, hent⟩ := hrel
          by_cases hjk : j < k
          · obtain ⟨bj, oj, rfl, hbj, hcj⟩ := HJ.out (by rw [HL.out]; omega)
            have lj := hF bj hbj
            have cj : w.cell? ⟨bj, oj + j, none⟩ = some (.int .i64 (at0 (rowAt m.next i) j)) := hcj j (by rw [HL.out]; omega)
            clear hcj
            have j1 : (j : Int) < (k : Int) := by omega
            have hL := HL.out
            have hNn := HNn.out
            obtain ⟨y, hy⟩ : ∃ y, y = at0 (rowAt m.next i) j := ⟨_, rfl⟩
            rw [← hy] at cj
            have bad : Hid (entryBad n y = true → chk m = 1) := fun hb => B.out 1 (by
              rw [HX.out, if_pos]
              exact any_at (by rw [hL]; exact hjk) (by rw [hNn, ← hy]; exact hb))
            have good : Hid (entryBad n y = false → ∀ z, z < j + 1 → entryBad n (at0 (rowAt m.next i) z) = false) := fun hb z hz => by
              by_cases hzj : z = j
              · subst hzj; rw [← hy]; exact hb
              · exact hent.out z (by omega)
            clear hy hL hNn
            by_cases y0 : y < 0
            · go_wp2_with fail
              go_ret
              exact ⟨by rw [bad.out (by simp [entryBad, y0])]; rfl, (Below.refl _ _).alloc (Nat.le_refl _) _⟩
            · by_cases yn : (n : Int) ≤ y
              · have f1 : decide (y < 0) = false := by simp; omega
                go_wp2_with fail
                go_ret
                exact ⟨by rw [bad.out (by simp [entryBad, yn])]; rfl, (Below.refl _ _).alloc (Nat.le_refl _) _⟩
              · have f1 : decide (y < 0) = false := by simp; omega
                have f2 : decide ((n : Int) ≤ y) = false := by simp; omega
                go_wp2_with fail
                go_round
                case rel => exact ⟨j + 1, by omega, by go_num, good.out (by simp [entryBad]; omega)⟩
                case measure => simp [intOf]; omega
          · have hnone : Hid (rowBad m i = none) := by
              have : (rowAt m.next i).any (entryBad m.out.length) = false := any_none (fun y hy => by rw [HNn.out]; exact hent.out y (by have := HL.out; omega))
              show rowBad m i = none
              rw [HX.out, this]; rfl
            go_wp2_with fail
            go_round
            case rel => exact ⟨i + 1, by omega, by go_num, fun j hj => by
              by_cases hji : j = i
              · subst hji; exact hnone
              · exact hold.out j (by omega)⟩
            case measure => simp [intOf]; omega
    · have C : Hid (chk m = 0) := chk_all (by rw [HNn.out]; omega) (by rw [H2.out, HNn.out]) (fun j hj => hold.out j (by rw [HNn.out] at hj; omega))
      go_wp2_with fail
      go_ret
      exact ⟨by rw [C.out]; rfl, (Below.refl _ _).alloc (Nat.le_refl _) _⟩
set_option maxHeartbeats 400000 in
theorem check_any (m : MachD) (F : Nat → Prop) (v : Value) (w : World) (hF : ∀ b, F b → b < w.heap.size) (h : MachIn F w v m) :
    Calls Tryd.prog 11 #[v] w (Ends (chk m) w) := by
  by_cases h1 : m.out.length < 1 ∨ 6 < m.out.length
  · have C : Hid (chk m = 1) := by show chk m = 1; unfold chk; rw [if_pos h1]
    obtain ⟨o, nx, rfl, ⟨Ao, co, rfl, ho1, ho⟩, ⟨An, cn, rfl, hn1, hn⟩⟩ := h
    clear ho hn
    unfold maxLen at ho1
    by_cases h0 : m.out.length < 1
    · clear h1
      go_enter Tryd.func11, Tryd.ntmps11
      go_wp2_with fail
      go_ret
      exact ⟨by rw [C.out]; rfl, (Below.refl _ _).alloc (Nat.le_refl _) _⟩
    · have h6 : 6 < m.out.length := by omega
      clear h1
      go_enter Tryd.func11, Tryd.ntmps11
      go_wp2_with fail
      go_ret
      exact ⟨by rw [C.out]; rfl, (Below.refl _ _).alloc (Nat.le_refl _) _⟩
  · by_cases h2 : m.next.length = m.out.length
    · exact check_main m F v w hF h (by omega) (by omega) h2
    · have C : Hid (chk m = 3) := by show chk m = 3; unfold chk; rw [if_neg h1, if_pos h2]
      obtain ⟨o, nx, rfl, ⟨Ao, co, rfl, ho1, ho⟩, ⟨An, cn, rfl, hn1, hn⟩⟩ := h
      clear ho hn
      have d1 : decide ((m.out.length : Int) < 1) = false := by simp; omega
      have d2 : decide (6 < (m.out.length : Int)) = false := by simp; omega
      have d3 : ((m.next.length : Int) != (m.out.length : Int)) = true := by simp; omega
      unfold maxLen at ho1
      clear h1 h2
      go_enter Tryd.func11, Tryd.ntmps11
      go_wp2_with fail
      go_ret
      exact ⟨by rw [C.out]; rfl, (Below.refl _ _).alloc (Nat.le_refl _) _⟩
end Go.Proofs.YtkcggmhllijgcaaDoor
