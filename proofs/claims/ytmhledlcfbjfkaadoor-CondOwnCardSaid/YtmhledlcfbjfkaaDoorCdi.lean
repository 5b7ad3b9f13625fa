/- What cond.Covers returns. No conditions. -/
import Derived.Test.YtmhledlcfbjfkaaDoorCdh
namespace Go.Proofs.YtmhledlcfbjfkaaDoor
open Go.RowKit Go.Deep
def inB (f : List Bool) (t : Int) : Bool := decide (0 ≤ t ∧ t < (f.length : Int))
def covE (n : Int) (f : List Bool) (T : List Int) : Int := if chkC n f ≠ 0 then chkC n f else if T.all (inB f) then 0 else 1
def covB (n : Int) (f : List Bool) (T : List Int) : Bool := decide (covE n f T = 0) && cov n.toNat f T
def CoversPost (n : Int) (f : List Bool) (T : List Int) (w : World) (e : Ending) (w' : World) : Prop := e = .returned (.tuple #[.bool (covB n f T), errV (covE n f T)]) ∧ Below w.heap.size w w'
theorem cov_ok {n : Int} {f : List Bool} {T : List Int} (h : covE n f T = 0) : ∃ N : Nat, n = N ∧ 1 ≤ N ∧ N ≤ 6 ∧ f.length = 2 ^ N ∧ InR N T ∧ covB n f T = cov N f T := by
  have h' := h
  unfold covE at h
  split at h
  · omega
  · rename_i hc
    obtain ⟨N, rfl, h1, h6, hl⟩ := chkC_ok (n := n) (f := f) (by omega)
    split at h
    · rename_i ha
      rw [List.all_eq_true] at ha
      refine ⟨N, rfl, h1, h6, hl, fun t ht => ?_, by unfold covB; rw [h']; simp⟩
      have := of_decide_eq_true (ha t ht)
      rw [hl] at this; exact this
    · omega
set_option maxRecDepth 100000 in
set_option maxHeartbeats 2000000 in
theorem Covers_any (n : Int) (f : List Bool) (T : List Int) (F : Nat → Prop) (fv tv : Value) (w : World) (hF : ∀ b, F b → b < w.heap.size) (hf : BoolsIn F w fv f) (ht : IntsIn .i64 F w tv T) :
    Calls Tryd.prog 6 #[.int .i64 n, fv, tv] w fun e w' => e = .returned (.tuple #[.bool (covB n f T), errV (covE n f T)]) ∧ Below w.heap.size w w' := by
  have HF := hid hF
  have FV := hid hf
  have TV := hid ht
  obtain ⟨Af, cf, rfl, hf1, hf2, _⟩ := hf
  obtain ⟨At, ct, rfl, tl1, _, tc⟩ := ht
  have TC := hid tc
  have tl3 : T.length ≤ 9223372036854775807 := by have h1 := tl1.1; have h2 := tl1.2; unfold maxLen at h2; omega
  have fl3 : f.length ≤ 9223372036854775807 := by unfold maxLen at hf2; omega
  clear hF tc tl1 hf1 hf2
  by_cases hc : chkC n f = 0
  · obtain ⟨N, rfl, h1N, hN, hl⟩ := chkC_ok hc
    have HC := hid hc
    have HL := hid hl
    have BAD : Hid (∀ i, i < T.length → inB f (T.getD i 0) = false → covE N f T = 1 ∧ covB N f T = false) := fun i hi hb => by
      have e : covE N f T = 1 := by
        unfold covE
        rw [if_neg (by omega), if_neg]
        rw [List.all_eq_true]
        intro h
        have := h _ (List.getElem_mem hi)
        rw [List.getD_eq_getElem?_getD, List.getElem?_eq_getElem hi] at hb
        simp only [Option.getD_some] at hb
        rw [hb] at this; cases this
      exact ⟨e, by unfold covB; rw [e]; rfl⟩
    have ALL : Hid ((∀ i, i < T.length → inB f (T.getD i 0) = true) → covE N f T = 0) := fun h => by
      unfold covE
      rw [if_neg (by omega), if_pos]
      rw [List.all_eq_true]
      intro t ht
      obtain ⟨i, hi, rfl⟩ := List.getElem_of_mem ht
      have := h i hi
      rw [List.getD_eq_getElem?_getD, List.getElem?_eq_getElem hi] at this
      exact this
    clear hc hl
    go_enter Tryd.func6, Tryd.ntmps6
    go_wp2_with fail
    refine (ccheck_any N f F _ w FV.out).mono ?_
    rintro e w1 ⟨rfl, rfl⟩
    rw [HC.out, errV_0]
    go_wp2_with fail
    go_loopw [19] (fun iv wr => ∃ i : Nat, i ≤ T.length ∧ iv = .int .i64 i ∧ Hid (∀ k, k < i → inB f (T.getD k 0) = true) ∧ w1 = wr) (fun iv _ => T.length - (intOf iv).toNat)
    case atStart => exact ⟨0, Nat.zero_le _, rfl, fun k hk => by omega, rfl⟩
    case round =>
      obtain ⟨i, hi, rfl, hold, hw⟩ := hrel
      subst hw
      by_cases hlt : i < T.length
      · obtain ⟨b, o, rfl, hb, hcl⟩ := TC.out (by omega)
        have c1 := hcl i hlt
        have i1 : (i : Int) < (T.length : Int) := by omega
        have BI := hid (BAD.out i hlt)
        have NI : Hid (inB f (T.getD i 0) = true → ∀ k, k < i + 1 → inB f (T.getD k 0) = true) := fun h k hk => by
          by_cases e : k = i
          · rw [e]; exact h
          · exact hold.out k (by omega)
        generalize T.getD i 0 = t at *
        clear hcl
        by_cases t0 : t < 0
        · have e : inB f t = false := by unfold inB; rw [decide_eq_false_iff_not]; omega
          obtain ⟨e1, e2⟩ := BI.out e
          have E1 := hid e1
          have E2 := hid e2
          have d1 : decide (t < 0) = true := by simpa using t0
          clear e e1 e2 t0
          go_wp2_with fail
          go_ret2
          exact ⟨by rw [E1.out, E2.out]; rfl, Below.refl _ _⟩
        · have d1 : decide (t < 0) = false := by simpa using t0
          by_cases t2 : t < (f.length : Int)
          · have e : inB f t = true := by unfold inB; rw [decide_eq_true_eq]; omega
            have NN := hid (NI.out e)
            have d2 : decide ((f.length : Int) ≤ t) = false := by simp; omega
            clear e t0
            go_wp2_with fail
            go_roundw
            case rel => exact ⟨i + 1, by omega, by go_num, NN, by first | rfl | trivial⟩
            case measure => simp [intOf]; omega
          · have e : inB f t = false := by unfold inB; rw [decide_eq_false_iff_not]; omega
            obtain ⟨e1, e2⟩ := BI.out e
            have E1 := hid e1
            have E2 := hid e2
            have d2 : decide ((f.length : Int) ≤ t) = true := by simp; omega
            clear e e1 e2 t0
            go_wp2_with fail
            go_ret2
            exact ⟨by rw [E1.out, E2.out]; rfl, Below.refl _ _⟩
      · obtain rfl : i = T.length := by omega
        have C0 := hid (ALL.out hold.out)
        obtain ⟨N', e, -, -, -, hr, hcb⟩ := cov_ok C0.out
        obtain rfl : N = N' := by omega
        have HR := hid hr
        have HCB := hid hcb
        clear e hr hcb
        go_wp2_with fail
        refine (covers_ok N f T F _ _ w1 HF.out FV.out TV.out h1N hN HL.out HR.out).mono ?_
        rintro e w2 ⟨rfl, hb2⟩
        have B2 := hid hb2
        clear hb2
        go_wp2_with fail
        go_ret2
        exact ⟨by rw [C0.out, HCB.out]; rfl, B2.out⟩
  · have e : covE n f T = chkC n f := by unfold covE; rw [if_pos hc]
    have E1 := hid e
    have E2 : Hid (covB n f T = false) := by show _ = _; unfold covB; rw [e]; simp [hc]
    have HC := hid hc
    have CK := hid (ccheck_any n f F _ w FV.out)
    have EV := hid (errV_no hc)
    generalize chkC n f = cc at *
    generalize covE n f T = ce at *
    generalize covB n f T = cb at *
    have e1 : ce = cc := E1.out
    have e2 : cb = false := E2.out
    subst e1 e2
    clear e hc HC E1 E2
    go_enter Tryd.func6, Tryd.ntmps6
    go_wp2_with fail
    refine CK.out.mono ?_
    rintro e w1 ⟨rfl, rfl⟩
    rw [EV.out]
    go_wp2_with fail
    go_ret2
    exact ⟨by rw [EV.out]; rfl, Below.refl _ _⟩
end Go.Proofs.YtmhledlcfbjfkaaDoor
