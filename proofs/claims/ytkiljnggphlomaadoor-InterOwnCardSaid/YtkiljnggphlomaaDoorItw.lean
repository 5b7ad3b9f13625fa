/- What inter's check, count and Count and slices.Max return; append of one that leaves the row what it was. No conditions but the sums' own. -/
import Derived.Test.YtkiljnggphlomaaDoorItm
import Derived.Test.YtkiljnggphlomaaDoorOwh
import Derived.Test.YtkiljnggphlomaaDoorErv
import Derived.Test.YtkiljnggphlomaaDoorClo
import Derived.Lib.MinMax
namespace Go.Proofs.YtkiljnggphlomaaDoor
open Go.RowKit Go.Deep
def iBad (n : Int) : Bool := decide (n < 0) || decide (8 < n)
theorem li_wf {l : List Nat} (h : LenOk l) : ∀ z ∈ li l, (Lit.int .i64 z).wf = true := by
  intro z hz
  obtain ⟨i, hi, rfl⟩ := List.getElem_of_mem hz
  rw [li_len] at hi
  have h1 := h.le i hi
  have h2 := li_at l i
  unfold at0 at h2
  rw [List.getD_eq_getElem?_getD, List.getElem?_eq_getElem (by rw [li_len]; exact hi)] at h2
  simp only [Option.getD_some] at h2
  rw [h2]
  exact WalkArith.wf_i64 (n := ((nAt l i : Nat) : Int)) (by omega)
theorem sumI_take {lens : List Int} {j : Nat} (hj : j < lens.length) : sumN ((lens.take (j + 1)).map Int.toNat) = sumN ((lens.take j).map Int.toNat) + (at0 lens j).toNat := by
  rw [List.take_succ_eq_append_getElem hj, List.map_append, sumN_append]
  unfold at0
  rw [List.getD_eq_getElem?_getD, List.getElem?_eq_getElem hj]
  simp [sumN]
set_option maxHeartbeats 1000000 in
theorem icheck_any (lens : List Int) (F : Nat → Prop) (v : Value) (w : World) (hF : ∀ b, F b → b < w.heap.size) (hv : IntsIn .i64 F w v lens) :
    Calls Tryd.prog 62 #[v] w fun e w' => e = .returned (errV (interC lens)) ∧ w' = w := by
  obtain ⟨A, c, rfl, h1, _, h3⟩ := hv
  have H3 := hid h3
  unfold maxLen at h1
  clear h3 hF
  by_cases h4 : 6 < lens.length
  · have E : interC lens = 4 := by unfold interC; rw [if_pos h4]
    rw [E]
    clear E
    have d1 : decide ((6 : Int) < (lens.length : Int)) = true := by simp; omega
    have d2 : decide (6 < lens.length) = true := by simp; omega
    clear h4
    go_enter Tryd.func62, Tryd.ntmps62
    go_wp2_with fail
    go_ret
    exact ⟨rfl, rfl⟩
  · have E : Hid (interC lens = if lens.any iBad then 1 else if 20 < sumN (lens.map Int.toNat) then 4 else 0) := by show _ = _; unfold interC; rw [if_neg h4]; rfl
    have d1 : decide ((6 : Int) < (lens.length : Int)) = false := by simp; omega
    have d2 : decide (6 < lens.length) = false := by simp; omega
    have h5 : lens.length ≤ 6 := by omega
    clear h4
    go_enter Tryd.func62, Tryd.ntmps62
    go_wp2_with fail
    go_loop [3, 12] (fun a i => ∃ j : Nat, j ≤ lens.length ∧ i = .int .i64 j ∧ a = .int .i64 ((sumN ((lens.take j).map Int.toNat) : Nat) : Int) ∧ sumN ((lens.take j).map Int.toNat) ≤ j * 8 ∧ Hid (∀ k, k < j → iBad (at0 lens k) = false)) (fun _ i => lens.length - (intOf i).toNat)
    case atStart => exact ⟨0, Nat.zero_le _, rfl, by simp [sumN], by simp [sumN], fun k hk => by omega⟩
    case round =>
      obtain ⟨j, hj, rfl, rfl, hs, hold⟩ := hrel
      by_cases hlt : j < lens.length
      · obtain ⟨b, o, rfl, hb, hc⟩ := H3.out (by omega)
        have c1 := hc j hlt
        have i1 : (j : Int) < (lens.length : Int) := by omega
        have MJ : Hid (at0 lens j ∈ lens) := by show _ ∈ _; unfold at0; rw [List.getD_eq_getElem?_getD, List.getElem?_eq_getElem hlt]; exact List.getElem_mem _
        have ST := hid (sumI_take hlt)
        have EX : Hid (at0 lens j = lens.getD j 0) := rfl
        rw [← EX.out] at c1
        obtain ⟨s, hs2⟩ : ∃ s, s = sumN ((lens.take j).map Int.toNat) := ⟨_, rfl⟩
        rw [← hs2] at hs ST ⊢
        generalize hx : at0 lens j = x at c1 MJ ST
        have HX := hid hx
        clear hx hc hs2
        by_cases hbad : iBad x = true
        · have R : Hid (lens.any iBad = true) := by
            show _ = _
            rw [List.any_eq_true]; exact ⟨x, MJ.out, hbad⟩
          have hb2 : x < 0 ∨ 8 < x := by simpa [iBad] using hbad
          clear hbad
          go_wp2_with fail
          all_goals first | (exfalso; omega) | skip
          all_goals go_ret
          all_goals exact ⟨by rw [E.out, if_pos R.out]; rfl, rfl⟩
        · have hb2 : 0 ≤ x ∧ x ≤ 8 := by
            have : iBad x = false := by simpa using hbad
            simp [iBad] at this; omega
          have N : Hid (∀ k, k < j + 1 → iBad (at0 lens k) = false) := fun k hk => by
            by_cases hkj : k = j
            · subst hkj; rw [HX.out]; simpa using hbad
            · exact hold.out k (by omega)
          have SE : Hid ((((sumN ((lens.take (j + 1)).map Int.toNat)) : Nat) : Int) = (s : Int) + x ∧ sumN ((lens.take (j + 1)).map Int.toNat) ≤ (j + 1) * 8) := by
            show _ ∧ _
            rw [ST.out]
            omega
          have sb : s ≤ 48 := by omega
          clear hbad
          go_wp2_with fail
          all_goals first | (exfalso; omega) | skip
          go_round
          case rel => exact ⟨j + 1, by omega, by go_num, by rw [SE.out.1], SE.out.2, N⟩
          case measure => simp [intOf]; omega
      · obtain rfl : j = lens.length := by omega
        rw [List.take_length] at hs ⊢
        have R : Hid (lens.any iBad = false) := by
          show _ = _
          rw [List.any_eq_false]
          intro x hx
          obtain ⟨k, hk, rfl⟩ := List.getElem_of_mem hx
          have := hold.out k (by omega)
          unfold at0 at this
          rw [List.getD_eq_getElem?_getD, List.getElem?_eq_getElem hk] at this
          simpa using this
        by_cases h20 : 20 < sumN (lens.map Int.toNat)
        · have E2 : Hid (interC lens = 4) := by show _ = _; rw [E.out, if_neg (by rw [R.out]; simp), if_pos h20]
          have d3 : decide ((20 : Int) < ((sumN (lens.map Int.toNat) : Nat) : Int)) = true := decide_eq_true (by omega)
          have d4 : (20 : Int) < ((sumN (lens.map Int.toNat) : Nat) : Int) := by omega
          clear h20
          go_wp2_with fail
          go_ret
          exact ⟨by rw [E2.out]; rfl, rfl⟩
        · have E2 : Hid (interC lens = 0) := by show _ = _; rw [E.out, if_neg (by rw [R.out]; simp), if_neg h20]
          have d3 : decide ((20 : Int) < ((sumN (lens.map Int.toNat) : Nat) : Int)) = false := decide_eq_false (by omega)
          have d4 : ¬ (20 : Int) < ((sumN (lens.map Int.toNat) : Nat) : Int) := by omega
          clear h20
          go_wp2_with fail
          go_ret
          exact ⟨by rw [E2.out]; rfl, rfl⟩
theorem nAt_take {l : List Nat} {j : Nat} (hj : j < l.length) : l.take (j + 1) = l.take j ++ [nAt l j] := by
  rw [List.take_succ_eq_append_getElem hj]; unfold nAt; rw [List.getD_eq_getElem?_getD, List.getElem?_eq_getElem hj]; rfl
theorem sum_take_le (l : List Nat) (j : Nat) : sumN (l.take j) ≤ sumN l := by
  have h : l = l.take j ++ l.drop j := (List.take_append_drop j l).symm
  have h2 := sumN_append (l.take j) (l.drop j)
  rw [← h] at h2; omega
set_option maxHeartbeats 1000000 in
theorem icount_any (l : List Nat) (F : Nat → Prop) (v : Value) (w : World) (hF : ∀ b, F b → b < w.heap.size) (hv : IntsIn .i64 F w v (li l)) (ho : LenOk l) :
    Calls Tryd.prog 61 #[v] w fun e w' => e = .returned (.int .i64 ((cntO l : Nat) : Int)) ∧ w' = w := by
  obtain ⟨A, c, rfl, h1, _, h3⟩ := hv
  have H3 := hid h3
  have OK := hid ho
  have ln := ho.len
  rw [li_len] at h1 H3 ⊢
  clear h3 hF ho h1
  go_enter Tryd.func61, Tryd.ntmps61
  go_wp2_with fail
  go_loop [3, 4, 10] (fun o a ji => ∃ j : Nat, j ≤ l.length ∧ ji = .int .i64 j ∧ o = .int .i64 ((cntO (l.take j) : Nat) : Int) ∧ a = .int .i64 ((sumN (l.take j) : Nat) : Int)) (fun _ _ ji => l.length - (intOf ji).toNat)
  case atStart => exact ⟨0, Nat.zero_le _, rfl, rfl, rfl⟩
  case round =>
    obtain ⟨j, hj, rfl, rfl, rfl⟩ := hrel
    by_cases hlt : j < l.length
    · obtain ⟨b, of, rfl, hb, hc⟩ := H3.out (by omega)
      have c1 := hc j hlt
      have i1 : (j : Int) < (l.length : Int) := by omega
      have E1 := li_at l j
      unfold at0 at E1
      rw [E1] at c1
      obtain ⟨n, hn⟩ : ∃ n, n = nAt l j := ⟨_, rfl⟩
      rw [← hn] at c1
      obtain ⟨q, hq⟩ : ∃ q, q = l.take j := ⟨_, rfl⟩
      have TK : Hid (l.take (j + 1) = q ++ [n]) := by show _ = _; rw [nAt_take hlt, hn, hq]
      have SB : sumN q + n ≤ 20 := by
        have h1 := sum_take_le l (j + 1)
        have h2 := OK.out.sum
        rw [TK.out, sumN_append] at h1
        simp only [sumN, Nat.add_zero] at h1
        omega
      rw [← hq]
      clear hc hn hq E1
      go_wp2_with fail
      go_loop [3, 4, 15] (fun o a ii => ∃ i : Nat, i ≤ n ∧ ii = .int .i64 i ∧ o = .int .i64 ((cntO (q ++ [i]) : Nat) : Int) ∧ a = .int .i64 (((sumN q + i : Nat)) : Int)) (fun _ _ ii => n - (intOf ii).toNat)
      case atStart => exact ⟨0, Nat.zero_le _, rfl, by rw [cntO_zero], by rw [Nat.add_zero]⟩
      case round =>
        obtain ⟨i, hi, rfl, rfl, rfl⟩ := hrel
        by_cases hit : i < n
        · have i2 : (i : Int) < (n : Int) := by omega
          have BG := cntO_big (q := q) (i := i) (by omega)
          have DV := cntO_div q i
          obtain ⟨s, hs⟩ : ∃ s, s = sumN q + i := ⟨_, rfl⟩
          have HS := hid hs
          rw [← hs] at BG DV ⊢
          obtain ⟨k, hk⟩ : ∃ k, k = cntO (q ++ [i]) := ⟨_, rfl⟩
          rw [← hk] at BG DV ⊢
          obtain ⟨k', hk'⟩ : ∃ k', k' = cntO (q ++ [i + 1]) := ⟨_, rfl⟩
          have kb : k' ≤ 2432902008176640000 := by rw [hk']; exact cntO_small (by rw [sumN_append]; simp only [sumN]; omega)
          rw [← hk'] at DV
          have HK' := hid hk'
          obtain ⟨P, hP⟩ : ∃ P, P = k * (s + 1) := ⟨_, rfl⟩
          rw [← hP] at BG DV
          have eP : (k : Int) * ((s : Int) + 1) = (P : Int) := by rw [hP]; simp
          have p0 : (0 : Int) ≤ (P : Int) := by omega
          have p1 : (P : Int) ≤ 2432902008176640000 := by omega
          have eD : (P : Int) / ((i : Int) + 1) = (k' : Int) := by rw [← DV]; simp
          have y1 : (1 : Int) ≤ (i : Int) + 1 := by omega
          have sb : s ≤ 20 := by omega
          have ib : i ≤ 20 := by omega
          clear hs hk hk' hP BG DV
          go_wp2_with fail
          go_round
          case rel => exact ⟨i + 1, by omega, by go_num, by rw [← HK'.out], by rw [← Nat.add_assoc, ← HS.out]; rfl⟩
          case measure => simp [intOf]; omega
        · obtain rfl : i = n := by omega
          have SE : Hid (sumN (q ++ [i]) = sumN q + i) := by show _ = _; rw [sumN_append]; simp [sumN]
          go_wp2_with fail
          go_round
          case rel => exact ⟨j + 1, by omega, by go_num, by rw [TK.out], by rw [TK.out, SE.out]⟩
          case measure => simp [intOf]; omega
    · obtain rfl : j = l.length := by omega
      rw [List.take_length]
      go_wp2_with fail
      go_ret
      exact ⟨rfl, rfl⟩
set_option maxHeartbeats 1000000 in
theorem iCount_any (lens : List Int) (F : Nat → Prop) (v : Value) (w : World) (hF : ∀ b, F b → b < w.heap.size) (hv : IntsIn .i64 F w v lens) :
    Calls Tryd.prog 31 #[v] w fun e w' => e = .returned (.tuple #[.int .i64 (if interC lens = 0 then ((cntO (lens.map Int.toNat) : Nat) : Int) else 0), errV (interC lens)]) ∧ w' = w := by
  have HF := hid hF
  have HV := hid hv
  obtain ⟨A, c, rfl, _, _⟩ := hv
  clear hF
  by_cases hc : interC lens = 0
  · have OK := hid (interC_ok hc)
    have HC := hid hc
    rw [hc, if_pos rfl]
    clear hc
    go_enter Tryd.func31, Tryd.ntmps31
    go_wp2_with fail
    refine (icheck_any lens F _ w HF.out HV.out).mono ?_
    rintro e w0 ⟨rfl, rfl⟩
    rw [HC.out, errV_0]
    go_wp2_with fail
    refine (icount_any (lens.map Int.toNat) F _ w0 HF.out (by rw [OK.out.2]; exact HV.out) OK.out.1).mono ?_
    rintro e w1 ⟨rfl, rfl⟩
    go_wp2_with fail
    go_ret2
    exact ⟨rfl, rfl⟩
  · have HC := hid hc
    rw [if_neg hc]
    clear hc
    go_enter Tryd.func31, Tryd.ntmps31
    go_wp2_with fail
    refine (icheck_any lens F _ w HF.out HV.out).mono ?_
    rintro e w0 ⟨rfl, rfl⟩
    rw [errV_no HC.out]
    go_wp2_with fail
    go_ret2
    exact ⟨by rw [errV_no HC.out]; rfl, rfl⟩
end Go.Proofs.YtkiljnggphlomaaDoor
