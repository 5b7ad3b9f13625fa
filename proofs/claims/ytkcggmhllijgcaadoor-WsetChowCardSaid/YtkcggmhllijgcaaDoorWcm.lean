/- What the law WsetChow asks, as mathematics: who passes, who is told apart. No conditions. -/
import Derived.Test.YtkcggmhllijgcaaDoorChw
import Derived.Test.YtkcggmhllijgcaaDoorSui
namespace Go.Proofs.YtkcggmhllijgcaaDoor
open Go.RowKit
theorem suite_pos {m : MachD} {k x e : Nat} {seen : List Int} {reach : List (List Int)} (hR : Reach m k x seen reach) : 0 < (suiteL m e reach).length := by
  have h0 : [] ∈ reach := by
    have := hR.fst
    rw [← this]
    unfold rowAt
    rw [List.getD_eq_getElem?_getD, List.getElem?_eq_getElem (by have := hR.len; have := hR.pos; omega)]
    exact List.getElem_mem _
  obtain ⟨u, hu⟩ : ∃ u, u ∈ setW m := by
    unfold setW
    split
    · exact ⟨[], by simp⟩
    · rename_i h
      cases hs : setL m with
      | nil => exact absurd hs h
      | cons a b => exact ⟨a, by simp⟩
  exact List.length_pos_of_mem (mem_suite.2 ⟨[], h0, [], fun x hx => by simp at hx, Nat.zero_le _, u, hu, rfl⟩)
theorem suite_len {m : MachD} (g : Good m) {k x e : Nat} (he : e ≤ 2) {seen : List Int} {reach : List (List Int)} (hR : Reach m k x seen reach) : (suiteL m e reach).length ≤ 20000 := by
  have h1 := (sOut_short g hR e).2
  have h2 : 4 ^ e ≤ 4 ^ 2 := Nat.pow_le_pow_right (by omega) he
  have h3 := (setW_short g).2
  have h4 := times_len (sOut (ins m) reach e) (setW m)
  have h5 : (sOut (ins m) reach e).length * (setW m).length ≤ 384 * 15 := Nat.mul_le_mul (by omega) h3
  show (timesL _ _).length ≤ _
  omega
section
variable {m l o : MachD} {c : List Int}
theorem apC_eqv (gl : Good l) (go : Good o) (hi : ins l = ins o) : apC l o = 2 ↔ XEqv l 0 o 0 := by
  have e : apC l o = apartN l o 0 0 := by unfold apC; rw [if_neg (by simp [good_chk gl]), if_neg (by simp [good_chk go]), if_neg (by simp [hi])]
  rw [e]
  constructor
  · intro h
    rcases first_or l o 0 0 with ⟨f, hf⟩ | h2
    · rw [(apart_yes hf).2] at h; cases h
    · exact h2
  · exact fun h => (apart_no h).2
theorem chow_pass (g : Good m) (hc : ClassOf m c) (hl : LeastD m c l) (go : Good o) (hi : ins l = ins o) {e : Nat} {seen : List Int} {reach : List (List Int)} (hR : Reach l seen.length 0 seen reach) :
    passFault l o (suiteL l e reach) = 0 ∧ (apC l o = 2 → passB l o (suiteL l e reach) = true) ∧ (o.out.length ≤ l.out.length + e → passB l o (suiteL l e reach) = true → apC l o = 2) := by
  have lp := least_props g hc hl
  have gl := lp.1
  have hw : ∀ w ∈ suiteL l e reach, word l w := fun w h => (suite_word gl hR h).1
  have hf : passFault l o (suiteL l e reach) = 0 := by
    unfold passFault
    rw [if_neg (by simp [good_chk gl]), if_neg (by simp [good_chk go]), if_neg (by simp [hi]), if_pos]
    intro w h x hx
    have := hw w h x hx
    unfold letter at this
    exact this
  refine ⟨hf, fun h => ?_, fun hN h => ?_⟩
  · have hx := (apC_eqv gl go hi).1 h
    unfold passB passVal
    rw [hf, decide_eq_true rfl, Bool.true_and, List.all_eq_true]
    exact fun w hm => decide_eq_true (hx w (hw w hm))
  · rw [apC_eqv gl go hi]
    unfold passB passVal at h
    rw [hf, decide_eq_true rfl, Bool.true_and, List.all_eq_true] at h
    have hs : ∀ k, k < l.out.length → (k : Int) ∈ seen := by
      refine least_closed g hc hl (S := fun k => (k : Int) ∈ seen) ?_ fun k hk h x hx => ?_
      · have hw0 := hR.way 0 hR.pos
        rw [hR.fst] at hw0
        have := at0_mem hR.pos
        rw [← hw0.2.1] at this
        exact this
      · obtain ⟨i, hi2, e2⟩ := List.getElem_of_mem h
        have := hR.shut i hi2 x (by rw [lp.2.1]; exact hx)
        rw [show at0 seen i = (k : Int) by rw [← e2]; exact at0_get hi2] at this
        exact this
    refine chow (W := setW l) (reach := reach) (e := e) gl go hi ?_ (fun i hi2 => ?_) ?_ (fun i k h1 h2 hik => ?_) hN (fun r hr v hv hl2 u hu => ?_)
    · have := hR.fst
      rw [← this]
      unfold rowAt
      rw [List.getD_eq_getElem?_getD, List.getElem?_eq_getElem (by have := hR.len; have := hR.pos; omega)]
      exact List.getElem_mem _
    · obtain ⟨j, hj, e2⟩ := List.getElem_of_mem (hs i hi2)
      have hw0 := hR.way j hj
      refine ⟨rowAt reach j, ?_, hw0.1, ?_⟩
      · unfold rowAt
        rw [List.getD_eq_getElem?_getD, List.getElem?_eq_getElem (by have := hR.len; omega)]
        exact List.getElem_mem _
      · have := hw0.2.1
        rw [at0_get hj, e2] at this
        omega
    · unfold setW
      split
      · exact ⟨[], by simp⟩
      · rename_i h
        cases hs : setL l with
        | nil => exact absurd hs h
        | cons a b => exact ⟨a, by simp⟩
    · obtain ⟨x, hx, hn⟩ := setL_tells g hc hl h1 h2 hik
      refine ⟨x, ?_, hn⟩
      unfold setW
      rw [if_neg (fun e => by rw [e] at hx; cases hx)]
      exact hx
    · exact of_decide_eq_true (h _ (mem_suite.2 ⟨r, hr, v, hv, hl2, u, hu, rfl⟩))
end
end Go.Proofs.YtkcggmhllijgcaaDoor
