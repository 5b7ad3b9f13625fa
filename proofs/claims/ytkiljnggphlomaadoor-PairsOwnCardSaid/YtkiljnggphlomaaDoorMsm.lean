/- What pairs.Missing returns as its error. No conditions. -/
import Derived.Test.YtkiljnggphlomaaDoorPms
namespace Go.Proofs.YtkiljnggphlomaaDoor
open Go.RowKit Go.Deep
/-- an entry that is no level -/
def entBad (l row : List Int) (j : Nat) : Bool := decide (at0 row j < 0) || decide (at0 l j ≤ at0 row j)
def rowOff (l row : List Int) : Bool := decide (row.length ≠ l.length) || (List.range row.length).any (entBad l row)
def missC (l : List Int) (rows : List (List Int)) : Int := if pairsC l ≠ 0 then pairsC l else if (List.range rows.length).any (fun k => rowOff l (rowAt rows k)) then 3 else 0
theorem rowOff_ent {l row : List Int} {j : Nat} (hj : j < row.length) (h : entBad l row j = true) : rowOff l row = true := by
  unfold rowOff
  have : (List.range row.length).any (entBad l row) = true := by rw [List.any_eq_true]; exact ⟨j, by simpa using hj, h⟩
  rw [this]; simp
theorem rowOff_no {l row : List Int} (hl : row.length = l.length) (h : ∀ j, j < row.length → entBad l row j = false) : rowOff l row = false := by
  unfold rowOff
  have : (List.range row.length).any (entBad l row) = false := by
    rw [List.any_eq_false]; intro j hj; rw [h j (by simpa using hj)]; simp
  rw [this]; simp [hl]
theorem missC_hit {l : List Int} {rows : List (List Int)} {k : Nat} (h0 : pairsC l = 0) (hk : k < rows.length) (h : rowOff l (rowAt rows k) = true) : missC l rows = 3 := by
  unfold missC
  rw [if_neg (by simpa using h0), if_pos]
  rw [List.any_eq_true]; exact ⟨k, by simpa using hk, h⟩
theorem missC_none {l : List Int} {rows : List (List Int)} (h0 : pairsC l = 0) (h : ∀ k, k < rows.length → rowOff l (rowAt rows k) = false) : missC l rows = 0 := by
  unfold missC
  rw [if_neg (by simpa using h0), if_neg]
  rw [Bool.not_eq_true, List.any_eq_false]; intro k hk; rw [h k (by simpa using hk)]; simp
theorem missC_bad {l : List Int} {rows : List (List Int)} (h0 : pairsC l ≠ 0) : missC l rows = pairsC l := by unfold missC; rw [if_pos h0]
theorem rowOff_len {l row : List Int} (h : rowOff l row = false) : row.length = l.length := by
  unfold rowOff at h; simp at h; exact h.1
def MissPost (W : World) (l : List Int) (rows : List (List Int)) (e : Ending) (w' : World) : Prop := Below W.heap.size W w' ∧ ∃ r, e = .returned (.tuple #[r, errV (missC l rows)])
set_option maxRecDepth 100000 in
set_option maxHeartbeats 4000000 in
theorem missing_any (l : List Int) (rows : List (List Int)) (F : Nat → Prop) (v u : Value) (w : World) (hF : ∀ b, F b → b < w.heap.size) (hv : IntsIn .i64 F w v l) (hu : RowsIn F w u rows) :
    Calls Tryd.prog 18 #[v, u] w (MissPost w l rows) := by
  have HF := hid hF
  have HV := hid hv
  have HU := hid hu
  obtain ⟨A, c, rfl, hl1, _, h3⟩ := hv
  obtain ⟨A2, c2, rfl, hl2, h4⟩ := hu
  have H3 := hid h3
  have H4 := hid h4
  unfold maxLen at hl1 hl2
  clear hF h3 h4
  by_cases hc : pairsC l = 0
  · have OK := hid (pairsC_ok hc)
    have HC := hid hc
    have ln := OK.out.len
    clear hc
    go_enter Tryd.func18, Tryd.ntmps18
    go_wp2_with fail
    refine (pcheck_any l F _ w HF.out HV.out).mono ?_
    rintro e w0 ⟨rfl, rfl⟩
    rw [HC.out, errV_0]
    go_wp2_with fail
    go_loopw [18] (fun ki wr => ∃ k : Nat, k ≤ rows.length ∧ ki = .int .i64 k ∧ w0 = wr ∧ Hid (∀ j, j < k → rowOff l (rowAt rows j) = false)) (fun ki _ => rows.length - (intOf ki).toNat)
    case atStart => exact ⟨0, Nat.zero_le _, rfl, rfl, fun j hj => by omega⟩
    case round =>
      obtain ⟨k, hk, rfl, hw, hold⟩ := hrel
      subst hw
      by_cases hlt : k < rows.length
      · obtain ⟨b, o, rfl, hb, hcc⟩ := H4.out (by omega)
        obtain ⟨r, hr, A3, c3, hrr, hr1, _, hr3⟩ := hcc k hlt
        subst hrr
        have HR3 := hid hr3
        have i1 : (k : Int) < (rows.length : Int) := by omega
        obtain ⟨row, hrow⟩ : ∃ row, row = rowAt rows k := ⟨_, rfl⟩
        rw [← hrow] at hr hr1 HR3
        have HROW := hid hrow
        unfold maxLen at hr1
        clear hcc hr3 hrow
        by_cases hlen : row.length = l.length
        · have HLEN := hid hlen
          have e1 : ((row.length : Int) != (l.length : Int)) = false := by simp; omega
          have e2 : decide ((row.length : Int) = (l.length : Int)) = true := by simp; omega
          have rl : row.length ≤ l.length ∧ l.length ≤ row.length := by omega
          clear hlen
          go_wp2_with fail
          go_loopw [30] (fun ji wr => ∃ j : Nat, j ≤ row.length ∧ ji = .int .i64 j ∧ w0 = wr ∧ Hid (∀ i, i < j → entBad l row i = false)) (fun ji _ => row.length - (intOf ji).toNat)
          case atStart => exact ⟨0, Nat.zero_le _, rfl, rfl, fun j hj => by omega⟩
          case round =>
            obtain ⟨j, hj, rfl, hw, hold2⟩ := hrel
            subst hw
            by_cases hjt : j < row.length
            · obtain ⟨b3, o3, rfl, _, hc3⟩ := HR3.out (by omega)
              obtain ⟨b1, o1, rfl, _, hc1⟩ := H3.out (by omega)
              have c1 := hc3 j hjt
              have c0 := hc1 j (by omega)
              have E : Hid (entBad l row j = (decide (row.getD j 0 < 0) || decide (l.getD j 0 ≤ row.getD j 0))) := rfl
              generalize row.getD j 0 = x at c1 E
              generalize l.getD j 0 = y at c0 E
              have j1 : (j : Int) < (row.length : Int) := by omega
              have j2 : (j : Int) < (l.length : Int) := by omega
              clear hc3 hc1
              by_cases hx0 : x < 0 ∨ y ≤ x
              · have EB : Hid (missC l rows = 3) := missC_hit HC.out hlt (by rw [← HROW.out]; exact rowOff_ent hjt (by rw [E.out]; simp; exact hx0))
                go_wp2_with fail
                all_goals first | (exfalso; omega) | skip
                all_goals go_ret2
                all_goals exact ⟨Below.refl _ _, _, by rw [EB.out, errV_no (by decide)]; rfl⟩
              · have EB : Hid (entBad l row j = false) := by show _ = _; rw [E.out]; simp; omega
                have x0 : 0 ≤ x ∧ x < y := by omega
                have N : Hid (∀ i, i < j + 1 → entBad l row i = false) := fun i hi => by
                  by_cases hij : i = j
                  · subst hij; exact EB.out
                  · exact hold2.out i (by omega)
                clear hx0
                go_wp2_with fail
                all_goals first | (exfalso; omega) | skip
                go_roundw
                case rel => exact ⟨j + 1, by omega, by go_num, by first | rfl | trivial, N⟩
                case measure => simp [intOf]; omega
            · have RO : Hid (rowOff l (rowAt rows k) = false) := by
                show _ = _
                rw [← HROW.out]; exact rowOff_no HLEN.out fun i hi => hold2.out i (by omega)
              have N : Hid (∀ j, j < k + 1 → rowOff l (rowAt rows j) = false) := fun i hi => by
                by_cases hij : i = k
                · subst hij; exact RO.out
                · exact hold.out i (by omega)
              obtain rfl : j = row.length := by omega
              go_wp2_with fail
              go_roundw
              case rel => exact ⟨k + 1, by omega, by go_num, by first | rfl | trivial, N⟩
              case measure => simp [intOf]; omega
        · have EB : Hid (missC l rows = 3) := missC_hit HC.out hlt (by rw [← HROW.out]; unfold rowOff; simp [hlen])
          have e1 : ((row.length : Int) != (l.length : Int)) = true := by simp; omega
          have e2 : decide ((row.length : Int) = (l.length : Int)) = false := by simp; omega
          have e3 : ¬ row.length = l.length := hlen
          clear hlen
          go_wp2_with fail
          go_ret2
          exact ⟨Below.refl _ _, _, by rw [EB.out, errV_no (by decide)]; rfl⟩
      · obtain rfl : k = rows.length := by omega
        have EB : Hid (missC l rows = 0) := missC_none HC.out hold.out
        have LL : Hid (∀ k, k < rows.length → (rowAt rows k).length = l.length) := fun k hk => rowOff_len (hold.out k hk)
        go_wp2_with fail
        refine (miss_any l rows F _ _ w0 HF.out HV.out HU.out OK.out LL.out).mono ?_
        rintro e w6 ⟨ov6, rfl, hO6, hb6⟩
        have B6 := hid hb6
        clear hO6 hb6
        go_wp2_with fail
        go_ret2
        exact ⟨B6.out, _, by rw [EB.out, errV_0]; rfl⟩
  · have HC := hid hc
    clear hc
    go_enter Tryd.func18, Tryd.ntmps18
    go_wp2_with fail
    refine (pcheck_any l F _ w HF.out HV.out).mono ?_
    rintro e w0 ⟨rfl, rfl⟩
    rw [errV_no HC.out]
    go_wp2_with fail
    go_ret2
    exact ⟨Below.refl _ _, _, by rw [missC_bad HC.out, errV_no HC.out]; rfl⟩
end Go.Proofs.YtkiljnggphlomaaDoor
