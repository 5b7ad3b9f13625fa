/- What pairs.Check returns. No conditions. -/
import Derived.Test.YtkiljnggphlomaaDoorPrn
import Derived.Test.YtkiljnggphlomaaDoorErv
namespace Go.Proofs.YtkiljnggphlomaaDoor
open Go.RowKit
def pBad (n : Int) : Bool := decide (n < 1) || decide (5 < n)
set_option maxHeartbeats 1000000 in
theorem pcheck_any (l : List Int) (F : Nat → Prop) (v : Value) (w : World) (hF : ∀ b, F b → b < w.heap.size) (hv : IntsIn .i64 F w v l) :
    Calls Tryd.prog 44 #[v] w fun e w' => e = .returned (errV (pairsC l)) ∧ w' = w := by
  obtain ⟨A, c, rfl, h1, _, h3⟩ := hv
  have H3 := hid h3
  unfold maxLen at h1
  clear h3 hF
  by_cases h4 : 12 < l.length
  · have E : pairsC l = 4 := by unfold pairsC; rw [if_pos h4]
    rw [E]
    clear E
    have d1 : decide ((12 : Int) < (l.length : Int)) = true := by simp; omega
    have d2 : decide (12 < l.length) = true := by simp; omega
    clear h4
    go_enter Tryd.func44, Tryd.ntmps44
    go_wp2_with fail
    go_ret
    exact ⟨rfl, rfl⟩
  · have E : Hid (pairsC l = if l.any pBad then 1 else 0) := by show _ = _; unfold pairsC; rw [if_neg h4]; rfl
    have d1 : decide ((12 : Int) < (l.length : Int)) = false := by simp; omega
    have d2 : decide (12 < l.length) = false := by simp; omega
    clear h4
    go_enter Tryd.func44, Tryd.ntmps44
    go_wp2_with fail
    go_loop [11] (fun i => ∃ j : Nat, j ≤ l.length ∧ i = .int .i64 j ∧ Hid (∀ k, k < j → pBad (at0 l k) = false)) (fun i => l.length - (intOf i).toNat)
    case atStart => exact ⟨0, Nat.zero_le _, rfl, fun k hk => by omega⟩
    case round =>
      obtain ⟨j, hj, rfl, hold⟩ := hrel
      by_cases hlt : j < l.length
      · obtain ⟨b, o, rfl, hb, hc⟩ := H3.out (by omega)
        have c1 := hc j hlt
        have i1 : (j : Int) < (l.length : Int) := by omega
        have MJ := hid (mem_at hlt)
        have EX : Hid (at0 l j = l.getD j 0) := rfl
        rw [← EX.out] at c1
        generalize hx : at0 l j = x at c1 MJ
        have HX := hid hx
        clear hx hc
        by_cases hbad : pBad x = true
        · have R : Hid (l.any pBad = true) := by
            show _ = _
            rw [List.any_eq_true]; exact ⟨x, MJ.out, hbad⟩
          have hb2 : x < 1 ∨ 5 < x := by simpa [pBad] using hbad
          clear hbad
          go_wp2_with fail
          all_goals first | (exfalso; omega) | skip
          all_goals go_ret
          all_goals exact ⟨by rw [E.out, if_pos R.out]; rfl, rfl⟩
        · have hb2 : 1 ≤ x ∧ x ≤ 5 := by
            have : pBad x = false := by simpa using hbad
            simp [pBad] at this; omega
          have N : Hid (∀ k, k < j + 1 → pBad (at0 l k) = false) := fun k hk => by
            by_cases hkj : k = j
            · subst hkj; rw [HX.out]; simpa using hbad
            · exact hold.out k (by omega)
          clear hbad
          go_wp2_with fail
          all_goals first | (exfalso; omega) | skip
          go_round
          case rel => exact ⟨j + 1, by omega, by go_num, N⟩
          case measure => simp [intOf]; omega
      · have R : Hid (l.any pBad = false) := by
          show _ = _
          rw [List.any_eq_false]
          intro x hx
          obtain ⟨k, hk, rfl⟩ := List.getElem_of_mem hx
          have := hold.out k (by omega)
          unfold at0 at this
          rw [List.getD_eq_getElem?_getD, List.getElem?_eq_getElem hk] at this
          simpa using this
        go_wp2_with fail
        go_ret
        exact ⟨by rw [E.out, if_neg (by rw [R.out]; simp)]; rfl, rfl⟩
end Go.Proofs.YtkiljnggphlomaaDoor
