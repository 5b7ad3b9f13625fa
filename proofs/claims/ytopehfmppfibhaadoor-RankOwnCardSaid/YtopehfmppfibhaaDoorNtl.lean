/- That each number below the count is the rank of one tape. No conditions. -/
import Derived.Test.YtopehfmppfibhaaDoorRke
namespace Go.Proofs.YtopehfmppfibhaaDoor
open Go.RowKit
theorem prod_three (a b : Int) (s rest : List Ge) : Ges.prod (.mk 3 a b s :: rest) = Ges.prod (s ++ rest) := by
  rw [Ges.prod, Ge.ways, if_neg (by decide), if_pos rfl, prod_app]
theorem prod_oneK (a b : Int) (s rest : List Ge) : Ges.prod (.mk 1 a b s :: rest) = Ges.prod rest := by
  rw [Ges.prod, Ge.ways, if_neg (by decide), if_neg (by decide), if_neg (by decide), if_neg (by decide), Nat.one_mul]
theorem good_three {a b : Int} {s rest : List Ge} (h : ∀ y ∈ (Ge.mk 3 a b s :: rest), GoodG y) : ∀ y ∈ s ++ rest, GoodG y := fun y hy => by
  rcases List.mem_append.1 hy with hy | hy
  · exact (h (.mk 3 a b s) (by simp)).part y hy
  · exact h y (by simp [hy])
theorem wt_three (a b : Int) (s rest : List Ge) : Ges.wt (s ++ rest) < Ges.wt (.mk 3 a b s :: rest) := by rw [wt_app, Ges.wt, Ge.wt, if_neg (by decide)]; omega
structure PickG (k a b : Int) (s rest : List Ge) : Prop where
  len : (Ge.mk k a b s).brs.length ≤ 1001
  tot : Ges.prod (.mk k a b s :: rest) = Ges.prod rest * sumTo (Ge.mk k a b s).brs (Ge.mk k a b s).brs.length
  good : ∀ j (hj : j < (Ge.mk k a b s).brs.length), ∀ y ∈ (Ge.mk k a b s).brs[j] ++ rest, GoodG y
  wt : ∀ j (hj : j < (Ge.mk k a b s).brs.length), Ges.wt ((Ge.mk k a b s).brs[j] ++ rest) < Ges.wt (.mk k a b s :: rest)
  step : ∀ j (hj : j < (Ge.mk k a b s).brs.length), Ges.prod rest * sumTo (Ge.mk k a b s).brs (j + 1) = Ges.prod rest * sumTo (Ge.mk k a b s).brs j + Ges.prod ((Ge.mk k a b s).brs[j] ++ rest)
theorem pickG {k a b : Int} {s rest : List Ge} (h : ∀ y ∈ (Ge.mk k a b s :: rest), GoodG y) (k1 : k ≠ 1) (k3 : k ≠ 3) : PickG k a b s rest := by
  have hG := h (.mk k a b s) (by simp)
  obtain ⟨m, q1, q2, q3, q4, q5⟩ := brs_spec hG.right hG.wide k1 k3
  refine ⟨by omega, ?_, fun j hj y hy => ?_, fun j hj => ?_, fun j hj => ?_⟩
  · rw [Ges.prod, q1, q3, Nat.mul_comm]
  · rcases List.mem_append.1 hy with hy | hy
    · exact hG.part y (q5 _ (List.getElem_mem hj) y hy)
    · exact h y (by simp [hy])
  · have hw := brs_wt hG.right _ (List.getElem_mem hj)
    rw [wt_app, Ges.wt]; omega
  · rw [sumTo_succ _ j hj, Nat.mul_add, prod_app, Nat.mul_comm (Ges.prod (Ge.mk k a b s).brs[j])]
theorem rk_lt {td : List Ge} {t : List Int} {r : Nat} (h : Rk td t r) : (∀ y ∈ td, GoodG y) → r < Ges.prod td ∧ t.length ≤ Ges.wt td ∧ ∀ z ∈ t, 0 ≤ z ∧ z ≤ 1000 := by
  induction h with
  | nil => intro _; exact ⟨by rw [Ges.prod]; omega, Nat.zero_le _, fun z hz => by cases hz⟩
  | both h ih =>
    intro hg
    obtain ⟨h1, h2, h3⟩ := ih (good_three hg)
    exact ⟨by rw [prod_three]; exact h1, Nat.le_of_lt (Nat.lt_of_le_of_lt h2 (wt_three _ _ _ _)), h3⟩
  | just h ih =>
    intro hg
    obtain ⟨h1, h2, h3⟩ := ih fun y hy => hg y (by simp [hy])
    exact ⟨by rw [prod_oneK]; exact h1, by rw [Ges.wt]; omega, h3⟩
  | @pick k a b s rest t r j k1 k3 hj h ih =>
    intro hg
    have P := pickG hg k1 k3
    obtain ⟨h1, h2, h3⟩ := ih (P.good j hj)
    have h4 := P.wt j hj
    have h5 := P.step j hj
    have h6 := Nat.mul_le_mul_left (Ges.prod rest) (sumTo_mono (Ge.mk k a b s).brs (i := j + 1) (j := (Ge.mk k a b s).brs.length) (by omega) (Nat.le_refl _))
    refine ⟨by rw [P.tot]; omega, by rw [List.length_cons]; omega, fun z hz => ?_⟩
    rcases List.mem_cons.1 hz with rfl | hz
    · have := P.len; omega
    · exact h3 z hz
theorem find_br (l : List (List Ge)) (p i : Nat) : ∀ m, m ≤ l.length → i < p * sumTo l m → ∃ j, j < m ∧ p * sumTo l j ≤ i ∧ i < p * sumTo l (j + 1)
  | 0, _, h => by rw [sumTo, Nat.mul_zero] at h; omega
  | m + 1, hm, h => by
    by_cases hl : i < p * sumTo l m
    · obtain ⟨j, h1, h2, h3⟩ := find_br l p i m (by omega) hl
      exact ⟨j, by omega, h2, h3⟩
    · exact ⟨m, by omega, by omega, h⟩
theorem rk_all : ∀ (n : Nat) (td : List Ge), Ges.wt td ≤ n → (∀ y ∈ td, GoodG y) → ∀ i, i < Ges.prod td → ∃ t, Rk td t i
  | _, [], _, _, i, hi => by
    rw [Ges.prod] at hi
    obtain rfl : i = 0 := by omega
    exact ⟨[], .nil⟩
  | 0, g :: rest, hw, _, _, _ => by rw [Ges.wt] at hw; have := wt_pos g; omega
  | n + 1, .mk k a b s :: rest, hw, hg, i, hi => by
    by_cases k3 : k = 3
    · subst k3
      rw [prod_three] at hi
      obtain ⟨t, ht⟩ := rk_all n (s ++ rest) (by have := wt_three a b s rest; omega) (good_three hg) i hi
      exact ⟨t, .both ht⟩
    · by_cases k1 : k = 1
      · subst k1
        rw [prod_oneK] at hi
        obtain ⟨t, ht⟩ := rk_all n rest (by rw [Ges.wt] at hw; have := wt_pos (.mk 1 a b s); omega) (fun y hy => hg y (by simp [hy])) i hi
        exact ⟨t, .just ht⟩
      · have P := pickG hg k1 k3
        rw [P.tot] at hi
        obtain ⟨j, hj, h1, h2⟩ := find_br _ _ i _ (Nat.le_refl _) hi
        have h3 := P.step j hj
        obtain ⟨t, ht⟩ := rk_all n _ (by have := P.wt j hj; omega) (P.good j hj) (i - Ges.prod rest * sumTo (Ge.mk k a b s).brs j) (by omega)
        refine ⟨(j : Int) :: t, ?_⟩
        have := Rk.pick k1 k3 hj ht
        rw [show Ges.prod rest * sumTo (Ge.mk k a b s).brs j + (i - Ges.prod rest * sumTo (Ge.mk k a b s).brs j) = i by omega] at this
        exact this
/-- what is wrong with a number that is asked for -/
def nthE (g : Ge) (i : Int) : Int := if cntE g ≠ 0 then cntE g else if i < 0 ∨ (g.ways : Int) ≤ i then 1 else 0
open Classical in
/-- the tape of a number -/
noncomputable def nthL (g : Ge) (i : Int) : List Int := if h : ∃ t, nthE g i = 0 ∧ Rk [g] t i.toNat then h.choose else []
theorem nthL_rk {g : Ge} {i : Int} (h : nthE g i = 0) : Rk [g] (nthL g i) i.toNat ∧ 0 ≤ i ∧ i < (g.ways : Int) ∧ cntE g = 0 := by
  have h0 := h
  unfold nthE at h
  have hc : cntE g = 0 := by
    by_cases hc : cntE g = 0
    · exact hc
    · rw [if_pos hc] at h; exact h
  rw [if_neg (by simp [hc])] at h
  have hi : ¬(i < 0 ∨ (g.ways : Int) ≤ i) := fun hh => by rw [if_pos hh] at h; omega
  obtain ⟨c1, _, _⟩ := cnt_good hc
  have he : ∃ t, nthE g i = 0 ∧ Rk [g] t i.toNat := by
    obtain ⟨t, ht⟩ := rk_all _ [g] (Nat.le_refl _) (fun y hy => by simp at hy; subst hy; exact c1) i.toNat (by rw [prod_one]; omega)
    exact ⟨t, h0, ht⟩
  refine ⟨?_, by omega, by omega, hc⟩
  unfold nthL
  rw [dif_pos he]
  exact he.choose_spec.2
theorem nthL_nil {g : Ge} {i : Int} (h : nthE g i ≠ 0) : nthL g i = [] := by
  unfold nthL
  rw [dif_neg]
  rintro ⟨t, h1, _⟩
  exact h h1
theorem nthL_small {g : Ge} {i : Int} : (∀ z ∈ nthL g i, 0 ≤ z ∧ z ≤ 1000) ∧ (nthL g i).length ≤ 887503681 := by
  by_cases h : nthE g i = 0
  · obtain ⟨h1, _, _, hc⟩ := nthL_rk h
    obtain ⟨c1, _, _⟩ := cnt_good hc
    obtain ⟨_, h2, h3⟩ := rk_lt h1 fun y hy => by simp at hy; subst hy; exact c1
    have hw := wt_high g 6 c1.high (Ge.parts_wide g 0 (chkG_good (goodG_chk c1)).1) c1.right
    refine ⟨h3, ?_⟩
    rw [Ges.wt, Ges.wt] at h2
    omega
  · rw [nthL_nil h]
    exact ⟨fun z hz => by (cases hz), by simp⟩
/-- where rank.Nth stands: what lies ahead, the number that is left, and the tape that is still to come -/
structure NtInv (N : Nat) (t : List Int) (td : List Ge) (n m : Nat) : Prop where
  at_le : m ≤ t.length
  rk : Rk td (t.drop m) n
  sum : Ges.prod td ≤ N
  good : ∀ y ∈ td, GoodG y
  wt : Ges.wt td ≤ 31 ^ 6
theorem NtInv.both {N n m : Nat} {t : List Int} {a b : Int} {s rest : List Ge} (h : NtInv N t (.mk 3 a b s :: rest) n m) : NtInv N t (s ++ rest) n m ∧ Ges.wt (s ++ rest) < Ges.wt (.mk 3 a b s :: rest) := by
  have hw := wt_three a b s rest
  refine ⟨⟨h.at_le, ?_, by rw [← prod_three a b]; exact h.sum, good_three h.good, by have := h.wt; omega⟩, hw⟩
  have h1 := h.rk
  generalize t.drop m = td at h1 ⊢
  cases h1 with
  | both h1 => exact h1
  | pick h1 h3 hj h => exact absurd rfl h3
theorem NtInv.just {N n m : Nat} {t : List Int} {a b : Int} {s rest : List Ge} (h : NtInv N t (.mk 1 a b s :: rest) n m) : NtInv N t rest n m ∧ Ges.wt rest < Ges.wt (.mk 1 a b s :: rest) := by
  have hw : Ges.wt rest < Ges.wt (.mk 1 a b s :: rest) := by rw [Ges.wt]; have := wt_pos (.mk 1 a b s); omega
  refine ⟨⟨h.at_le, ?_, by rw [← prod_oneK a b s]; exact h.sum, fun y hy => h.good y (by simp [hy]), by have := h.wt; omega⟩, hw⟩
  have h1 := h.rk
  generalize t.drop m = td at h1 ⊢
  cases h1 with
  | just h1 => exact h1
  | pick h1 h3 hj h => exact absurd rfl h1
theorem NtInv.pick {N n m : Nat} {t : List Int} {k a b : Int} {s rest : List Ge} (h : NtInv N t (.mk k a b s :: rest) n m) (k1 : k ≠ 1) (k3 : k ≠ 3) : ∃ (j : Nat) (hj : j < (Ge.mk k a b s).brs.length) (ht : m < t.length), t[m] = (j : Int) ∧ (Ge.mk k a b s).brs.length ≤ 1001 ∧ n ≤ N ∧
    (∀ i (hi : i < (Ge.mk k a b s).brs.length), Ges.prod (Ge.mk k a b s).brs[i] ≤ N ∧ Ges.prod rest * Ges.prod (Ge.mk k a b s).brs[i] ≤ N ∧ ∀ y ∈ (Ge.mk k a b s).brs[i], GoodG y) ∧
    (∀ i (hi : i < (Ge.mk k a b s).brs.length), i < j → Ges.prod rest * sumTo (Ge.mk k a b s).brs i + Ges.prod rest * Ges.prod (Ge.mk k a b s).brs[i] ≤ n) ∧
    n < Ges.prod rest * sumTo (Ge.mk k a b s).brs j + Ges.prod rest * Ges.prod (Ge.mk k a b s).brs[j] ∧ Ges.prod rest * sumTo (Ge.mk k a b s).brs j ≤ n ∧ Ges.prod rest ≤ N ∧
    NtInv N t ((Ge.mk k a b s).brs[j] ++ rest) (n - Ges.prod rest * sumTo (Ge.mk k a b s).brs j) (m + 1) ∧ Ges.wt ((Ge.mk k a b s).brs[j] ++ rest) < Ges.wt (.mk k a b s :: rest) := by
  have hG := h.good (.mk k a b s) (by simp)
  have hr : ∀ y ∈ rest, GoodG y := fun y hy => h.good y (by simp [hy])
  have P := pickG h.good k1 k3
  have p1 := prod_pos rest fun y hy => (hr y hy).ways
  have hs := h.sum
  have hlt := (rk_lt h.rk h.good).1
  have gp : ∀ i (hi : i < (Ge.mk k a b s).brs.length), ∀ y ∈ (Ge.mk k a b s).brs[i], GoodG y := fun i hi y hy => P.good i hi y (List.mem_append.2 (.inl hy))
  have stp : ∀ i (hi : i < (Ge.mk k a b s).brs.length), Ges.prod rest * sumTo (Ge.mk k a b s).brs (i + 1) = Ges.prod rest * sumTo (Ge.mk k a b s).brs i + Ges.prod rest * Ges.prod (Ge.mk k a b s).brs[i] := fun i hi => by
    rw [P.step i hi, prod_app, Nat.mul_comm (Ges.prod (Ge.mk k a b s).brs[i])]
  have mono : ∀ i j, i ≤ j → j ≤ (Ge.mk k a b s).brs.length → Ges.prod rest * sumTo (Ge.mk k a b s).brs i ≤ Ges.prod rest * sumTo (Ge.mk k a b s).brs j := fun i j hij hj => Nat.mul_le_mul_left _ (sumTo_mono _ hij hj)
  have h1 := h.rk
  generalize hd : t.drop m = td at h1
  generalize hn : n = n' at h1
  cases h1 with
  | both h1 => exact absurd rfl k3
  | just h1 => exact absurd rfl k1
  | @pick _ _ _ _ _ t' r' j _ _ hj h1 =>
    have ht : m < t.length := by
      rcases Nat.lt_or_ge m t.length with h | h
      · exact h
      · rw [List.drop_eq_nil_of_le h] at hd; cases hd
    rw [List.drop_eq_getElem_cons ht] at hd
    injection hd with hd1 hd2
    have hW := P.wt j hj
    have hl := (rk_lt h1 (P.good j hj)).1
    have sj := P.step j hj
    have sj2 := stp j hj
    subst hn
    refine ⟨j, hj, ht, hd1, P.len, by omega, fun i hi => ?_, fun i hi hij => ?_, by omega, by omega, ?_, ⟨by omega, ?_, ?_, P.good j hj, by have := h.wt; omega⟩, hW⟩
    · have s1 := stp i hi
      have s2 := mono (i + 1) _ (by omega) (Nat.le_refl _)
      rw [← P.tot] at s2
      have := Nat.le_mul_of_pos_left (Ges.prod (Ge.mk k a b s).brs[i]) p1
      exact ⟨by omega, by omega, gp i hi⟩
    · have s1 := stp i hi
      have s2 := mono (i + 1) j (by omega) (by omega)
      omega
    · rw [Ges.prod] at hs
      have := Nat.le_mul_of_pos_left (Ges.prod rest) (hG.ways)
      omega
    · rw [hd2, show Ges.prod rest * sumTo (Ge.mk k a b s).brs j + r' - Ges.prod rest * sumTo (Ge.mk k a b s).brs j = r' by omega]
      exact h1
    · have s2 := mono (j + 1) _ (by omega) (Nat.le_refl _)
      rw [← P.tot] at s2
      omega
end Go.Proofs.YtopehfmppfibhaaDoor
