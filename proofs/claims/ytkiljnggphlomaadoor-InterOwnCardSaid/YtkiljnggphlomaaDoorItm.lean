/- Orders of lists that are mixed, as mathematics: how many there are; of each that comes first so many; the order with so many ahead; what is wrong with lens, with an order. No program in sight. No conditions. -/
import Derived.Test.YtkiljnggphlomaaDoorMach
namespace Go.Proofs.YtkiljnggphlomaaDoor
def ch : Nat → Nat → Nat
  | _, 0 => 1
  | 0, _ + 1 => 0
  | n + 1, k + 1 => ch n k + ch n (k + 1)
theorem ch_zero (n : Nat) : ch n 0 = 1 := by cases n <;> rfl
theorem ch_step : ∀ (n k : Nat), ch n k * (n + 1) = ch (n + 1) (k + 1) * (k + 1)
  | 0, 0 => rfl
  | 0, k + 1 => by simp [ch]
  | n + 1, 0 => by
    have h := ch_step n 0
    simp only [ch_zero, ch, Nat.one_mul, Nat.mul_one, Nat.zero_add] at h ⊢
    omega
  | n + 1, k + 1 => by
    have h1 := ch_step n k
    have h2 := ch_step n (k + 1)
    have e : ch (n + 1 + 1) (k + 1 + 1) = ch (n + 1) (k + 1) + ch (n + 1) (k + 1 + 1) := rfl
    have e2 : ch (n + 1) (k + 1) = ch n k + ch n (k + 1) := rfl
    rw [e, Nat.add_mul, ← h2]
    have h3 : ch (n + 1) (k + 1) * (k + 1 + 1) = ch (n + 1) (k + 1) * (k + 1) + ch (n + 1) (k + 1) := by rw [Nat.mul_add, Nat.mul_one]
    rw [h3, ← h1, Nat.mul_add (ch (n + 1) (k + 1)) (n + 1) 1, Nat.mul_one]
    have h4 : ch (n + 1) (k + 1) * (n + 1) = ch n k * (n + 1) + ch n (k + 1) * (n + 1) := by rw [e2, Nat.add_mul]
    omega
def fct : Nat → Nat
  | 0 => 1
  | n + 1 => fct n * (n + 1)
theorem fct_pos : ∀ n, 0 < fct n
  | 0 => by decide
  | n + 1 => Nat.mul_pos (fct_pos n) (by omega)
theorem fct_mono : ∀ {a b : Nat}, a ≤ b → fct a ≤ fct b
  | a, b, h => by
    induction h with
    | refl => exact Nat.le_refl _
    | step h ih => exact Nat.le_trans ih (by rename_i m; show fct m ≤ fct m * (m + 1); exact Nat.le_mul_of_pos_right _ (by omega))
theorem ch_fct (a : Nat) : ∀ k, ch (a + k) k * fct k * fct a = fct (a + k)
  | 0 => by simp [ch_zero, fct]
  | k + 1 => by
    have h := ch_fct a k
    have hs := ch_step (a + k) k
    show ch (a + k + 1) (k + 1) * (fct k * (k + 1)) * fct a = fct (a + k) * (a + k + 1)
    rw [← h]
    have : ch (a + k + 1) (k + 1) * (fct k * (k + 1)) = ch (a + k) k * (a + k + 1) * fct k := by
      rw [hs, Nat.mul_assoc, Nat.mul_comm (fct k)]
    rw [this]
    simp [Nat.mul_assoc, Nat.mul_comm, Nat.mul_left_comm]
def sumN : List Nat → Nat
  | [] => 0
  | n :: l => n + sumN l
def fctL : List Nat → Nat
  | [] => 1
  | n :: l => fct n * fctL l
theorem fctL_pos : ∀ l, 0 < fctL l
  | [] => by decide
  | n :: l => Nat.mul_pos (fct_pos n) (fctL_pos l)
/-- so many orders of a list, behind so many places -/
def mo : Nat → List Nat → Nat
  | _, [] => 1
  | a, n :: l => ch (a + n) n * mo (a + n) l
theorem mo_fct : ∀ (l : List Nat) (a : Nat), mo a l * fctL l * fct a = fct (a + sumN l)
  | [], a => by simp [mo, fctL, sumN]
  | n :: l, a => by
    have h := mo_fct l (a + n)
    have hc := ch_fct a n
    simp only [mo, fctL, sumN]
    rw [← Nat.add_assoc, ← h, ← hc]
    simp [Nat.mul_assoc, Nat.mul_comm, Nat.mul_left_comm]
theorem mo_snoc : ∀ (l : List Nat) (a n : Nat), mo a (l ++ [n]) = mo a l * ch (a + sumN l + n) n
  | [], a, n => by simp [mo, sumN]
  | m :: l, a, n => by
    have h := mo_snoc l (a + m) n
    simp only [List.cons_append, mo, sumN]
    rw [h, Nat.mul_assoc, Nat.add_assoc a m]
theorem sumN_append : ∀ (a b : List Nat), sumN (a ++ b) = sumN a + sumN b
  | [], b => by simp [sumN]
  | x :: a, b => by simp only [List.cons_append, sumN, sumN_append a b]; omega
/-- how many orders -/
def cntO (l : List Nat) : Nat := mo 0 l
theorem cntO_fct (l : List Nat) : cntO l * fctL l = fct (sumN l) := by
  have := mo_fct l 0
  simpa [fct, cntO] using this
theorem cntO_le (l : List Nat) : cntO l ≤ fct (sumN l) := by
  rw [← cntO_fct]; exact Nat.le_mul_of_pos_right _ (fctL_pos l)
theorem cntO_pos (l : List Nat) : 0 < cntO l := by
  have h := cntO_fct l
  have h2 := fct_pos (sumN l)
  rcases Nat.eq_zero_or_pos (cntO l) with h0 | h0
  · rw [h0] at h; omega
  · exact h0
theorem fct20 : fct 20 = 2432902008176640000 := by decide
/-- one step of counting: one more place -/
theorem cntO_step (q : List Nat) (i : Nat) : cntO (q ++ [i]) * (sumN q + i + 1) = cntO (q ++ [i + 1]) * (i + 1) := by
  unfold cntO
  rw [mo_snoc, mo_snoc, Nat.zero_add, Nat.mul_assoc, ch_step, Nat.mul_assoc]
  rfl
theorem cntO_zero (q : List Nat) : cntO (q ++ [0]) = cntO q := by unfold cntO; rw [mo_snoc, ch_zero, Nat.mul_one]
theorem cntO_div (q : List Nat) (i : Nat) : cntO (q ++ [i]) * (sumN q + i + 1) / (i + 1) = cntO (q ++ [i + 1]) := by
  rw [cntO_step]; exact Nat.mul_div_cancel _ (by omega)
theorem cntO_big {q : List Nat} {i : Nat} (h : sumN q + i + 1 ≤ 20) : cntO (q ++ [i]) * (sumN q + i + 1) ≤ 2432902008176640000 := by
  have h1 := cntO_le (q ++ [i])
  rw [sumN_append] at h1
  simp only [sumN, Nat.add_zero] at h1
  have h2 := Nat.mul_le_mul_right (sumN q + i + 1) h1
  have h3 : fct (sumN q + i) * (sumN q + i + 1) = fct (sumN q + i + 1) := rfl
  have h4 := fct_mono h
  rw [fct20] at h4
  omega
theorem cntO_small {l : List Nat} (h : sumN l ≤ 20) : cntO l ≤ 2432902008176640000 := by
  have h1 := cntO_le l
  have h2 := fct_mono h
  rw [fct20] at h2
  omega
def nAt (l : List Nat) (i : Nat) : Nat := l.getD i 0
/-- one less of list i -/
def dec (l : List Nat) (i : Nat) : List Nat := l.set i (nAt l i - 1)
theorem dec_len (l : List Nat) (i : Nat) : (dec l i).length = l.length := by simp [dec]
theorem dec_sum : ∀ (l : List Nat) (i : Nat), 0 < nAt l i → sumN (dec l i) + 1 = sumN l
  | [], i, h => by simp [nAt] at h
  | n :: l, 0, h => by simp [nAt] at h; simp [dec, nAt, sumN]; omega
  | n :: l, i + 1, h => by
    have := dec_sum l i (by simpa [nAt] using h)
    simp only [dec, nAt, List.set_cons_succ, List.getD_cons_succ, sumN] at this ⊢
    omega
theorem dec_fct : ∀ (l : List Nat) (i : Nat), 0 < nAt l i → fctL (dec l i) * nAt l i = fctL l
  | [], i, h => by simp [nAt] at h
  | n :: l, 0, h => by
    simp [nAt] at h
    obtain ⟨m, rfl⟩ : ∃ m, n = m + 1 := ⟨n - 1, by omega⟩
    simp only [dec, nAt, List.set_cons_zero, List.getD_cons_zero, fctL, Nat.add_sub_cancel]
    show fct m * fctL l * (m + 1) = fct m * (m + 1) * fctL l
    simp [Nat.mul_assoc, Nat.mul_comm, Nat.mul_left_comm]
  | n :: l, i + 1, h => by
    have := dec_fct l i (by simpa [nAt] using h)
    simp only [dec, nAt, List.set_cons_succ, List.getD_cons_succ, fctL] at this ⊢
    rw [Nat.mul_assoc, this]
theorem dec_cnt {l : List Nat} {i : Nat} (h : 0 < nAt l i) : cntO (dec l i) * fctL l = nAt l i * fct (sumN l - 1) := by
  have h1 := cntO_fct (dec l i)
  have h2 := dec_fct l i h
  have h3 := dec_sum l i h
  rw [show sumN (dec l i) = sumN l - 1 by omega] at h1
  rw [← h2, ← Nat.mul_assoc, h1, Nat.mul_comm]
/-- orders whose first is one of the lists below j -/
def upO (l : List Nat) : Nat → Nat
  | 0 => 0
  | j + 1 => upO l j + (if nAt l j = 0 then 0 else cntO (dec l j))
def sumTo (l : List Nat) (j : Nat) : Nat := sumN (l.take j)
theorem sumTo_succ (l : List Nat) (j : Nat) : sumTo l (j + 1) = sumTo l j + nAt l j := by
  unfold sumTo nAt
  by_cases h : j < l.length
  · rw [List.take_succ_eq_append_getElem h, sumN_append, List.getD_eq_getElem?_getD, List.getElem?_eq_getElem h]
    simp [sumN]
  · rw [List.take_of_length_le (by omega), List.take_of_length_le (by omega), List.getD_eq_getElem?_getD, List.getElem?_eq_none (by omega)]
    rfl
theorem upO_fct (l : List Nat) : ∀ j, upO l j * fctL l = sumTo l j * fct (sumN l - 1)
  | 0 => by simp [upO, sumTo, sumN]
  | j + 1 => by
    have h := upO_fct l j
    rw [sumTo_succ, Nat.add_mul, ← h]
    simp only [upO]
    split
    · rename_i h0; rw [h0]; simp
    · rename_i h0; rw [Nat.add_mul, dec_cnt (by omega)]
theorem upO_all {l : List Nat} (h : 0 < sumN l) : upO l l.length = cntO l := by
  have h1 := upO_fct l l.length
  have h2 := cntO_fct l
  have h3 : sumTo l l.length = sumN l := by unfold sumTo; rw [List.take_length]
  obtain ⟨m, hm⟩ : ∃ m, sumN l = m + 1 := ⟨sumN l - 1, by omega⟩
  have h4 : sumN l * fct (sumN l - 1) = fct (sumN l) := by rw [hm, Nat.add_sub_cancel]; show (m + 1) * fct m = fct m * (m + 1); exact Nat.mul_comm _ _
  rw [h3, h4, ← h2] at h1
  exact Nat.eq_of_mul_eq_mul_right (fctL_pos l) h1
theorem cntO_nil_sum {l : List Nat} (h : sumN l = 0) : cntO l = 1 := by
  have h1 := cntO_fct l
  have h2 := cntO_pos l
  have h3 := fctL_pos l
  rw [h] at h1
  have : cntO l * fctL l = 1 := h1
  exact Nat.eq_one_of_mul_eq_one_right this
/-- which list comes first where k are ahead -/
def firO (l : List Nat) (k : Nat) : Nat := ((List.range l.length).find? fun i => decide (k < upO l (i + 1))).getD 0
theorem firO_at {l : List Nat} {k i : Nat} (hi : i < l.length) (h : k < upO l (i + 1)) (hlo : upO l i ≤ k) : firO l k = i := by
  have mono : ∀ a b, a ≤ b → upO l a ≤ upO l b := fun a b hab => by
    induction hab with
    | refl => exact Nat.le_refl _
    | step _ ih => exact Nat.le_trans ih (by simp only [upO]; omega)
  unfold firO
  have : (List.range l.length).find? (fun i => decide (k < upO l (i + 1))) = some i := by
    rw [List.find?_range_eq_some]
    refine ⟨by simpa using h, by simpa using hi, fun j hj => ?_⟩
    have := mono (j + 1) i (by omega)
    simp; omega
  rw [this]; rfl
def nthO : Nat → List Nat → Nat → List Int
  | 0, _, _ => []
  | m + 1, l, k => ((firO l k : Nat) : Int) :: nthO m (dec l (firO l k)) (k - upO l (firO l k))
theorem nthO_len : ∀ (m : Nat) (l : List Nat) (k : Nat), (nthO m l k).length = m
  | 0, _, _ => rfl
  | m + 1, l, k => by simp [nthO, nthO_len m]
def interC (lens : List Int) : Int := if 6 < lens.length then 4 else if lens.any (fun n => decide (n < 0) || decide (8 < n)) then 1 else if 20 < sumN (lens.map Int.toNat) then 4 else 0
structure LenOk (l : List Nat) : Prop where
  len : l.length ≤ 6
  le : ∀ i, i < l.length → nAt l i ≤ 8
  sum : sumN l ≤ 20
theorem LenOk.dec {l : List Nat} (h : LenOk l) {i : Nat} (hi : 0 < nAt l i) : LenOk (Go.Proofs.YtkiljnggphlomaaDoor.dec l i) := by
  refine ⟨by rw [dec_len]; exact h.len, fun j hj => ?_, by have := dec_sum l i hi; have := h.sum; omega⟩
  rw [dec_len] at hj
  have := h.le j hj
  have e : nAt (Go.Proofs.YtkiljnggphlomaaDoor.dec l i) j ≤ nAt l j := by
    unfold Go.Proofs.YtkiljnggphlomaaDoor.dec nAt
    rw [List.getD_eq_getElem?_getD, List.getD_eq_getElem?_getD, List.getElem?_set]
    split
    · rename_i h2; subst h2; split <;> simp
    · exact Nat.le_refl _
  omega
def li (l : List Nat) : List Int := l.map fun (n : Nat) => (n : Int)
theorem li_len (l : List Nat) : (li l).length = l.length := by simp [li]
theorem li_at (l : List Nat) (i : Nat) : at0 (li l) i = (nAt l i : Nat) := by
  unfold at0 li nAt
  rw [List.getD_eq_getElem?_getD, List.getD_eq_getElem?_getD, List.getElem?_map]
  cases l[i]? <;> rfl
theorem li_set (l : List Nat) (i n : Nat) : (li l).set i (n : Int) = li (l.set i n) := by unfold li; rw [List.map_set]
theorem interC_ok {lens : List Int} (h : interC lens = 0) : LenOk (lens.map Int.toNat) ∧ li (lens.map Int.toNat) = lens := by
  unfold interC at h
  split at h
  · simp at h
  · split at h
    · simp at h
    · split at h
      · simp at h
      · rename_i h1 h2 h3
        rw [Bool.not_eq_true, List.any_eq_false] at h2
        have hb : ∀ n ∈ lens, 0 ≤ n ∧ n ≤ 8 := fun n hn => by have := h2 n hn; simp at this; omega
        refine ⟨⟨by simp; omega, fun i hi => ?_, by omega⟩, ?_⟩
        · simp at hi
          have := hb _ (List.getElem_mem hi)
          unfold nAt
          rw [List.getD_eq_getElem?_getD, List.getElem?_map, List.getElem?_eq_getElem hi]
          simp; omega
        · unfold li
          rw [List.map_map]
          conv => rhs; rw [← List.map_id lens]
          apply List.map_congr_left
          intro n hn
          have := hb n hn
          simp; omega
def rankR : List Nat → List Int → Int
  | l, [] => if 0 < sumN l then 3 else 0
  | l, x :: o => if x < 0 ∨ (l.length : Int) ≤ x ∨ nAt l x.toNat = 0 then 3 else rankR (dec l x.toNat) o
def rankOC (lens order : List Int) : Int := if interC lens ≠ 0 then interC lens else rankR (lens.map Int.toNat) order
def nthOC (lens : List Int) (k : Int) : Int := if interC lens ≠ 0 then interC lens else if k < 0 ∨ (cntO (lens.map Int.toNat) : Int) ≤ k then 1 else 0
def nthOL (lens : List Int) (k : Int) : List Int := if nthOC lens k ≠ 0 then [] else nthO (sumN (lens.map Int.toNat)) (lens.map Int.toNat) k.toNat
end Go.Proofs.YtkiljnggphlomaaDoor
