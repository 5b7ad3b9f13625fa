/- The butterflies keep the sum of squares, but for a factor two each stage, by the wrapped arithmetic of an int: plain mathematics. No conditions. -/
import Derived.Test.YtcnhccpoakldnaaHadA
namespace Go.Proofs.Ytcnhccpoakldnaa
open Go.RowKit
def MM : Int := 18446744073709551616
def cg (a b : Int) : Prop := ∃ q : Int, a = b + 18446744073709551616 * q
theorem cg.refl (a : Int) : cg a a := ⟨0, by omega⟩
theorem cg.symm {a b : Int} (h : cg a b) : cg b a := by obtain ⟨q, rfl⟩ := h; exact ⟨-q, by omega⟩
theorem cg.trans {a b c : Int} (h : cg a b) (k : cg b c) : cg a c := by obtain ⟨q, rfl⟩ := h; obtain ⟨r, rfl⟩ := k; exact ⟨r + q, by omega⟩
theorem cg.add {a b c d : Int} (h : cg a b) (k : cg c d) : cg (a + c) (b + d) := by obtain ⟨q, rfl⟩ := h; obtain ⟨r, rfl⟩ := k; exact ⟨q + r, by omega⟩
theorem cg.mul {a b c d : Int} (h : cg a b) (k : cg c d) : cg (a * c) (b * d) := by
  obtain ⟨q, rfl⟩ := h; obtain ⟨r, rfl⟩ := k
  refine ⟨b * r + q * d + 18446744073709551616 * (q * r), ?_⟩
  simp only [Int.add_mul, Int.mul_add, Int.mul_assoc, Int.mul_left_comm]
  omega
theorem cg_wrap (a : Int) : cg (wrap64 a) a := by
  rw [← IntWalk.i64_left, IntKind.wrap_i64]
  exact ⟨-((a + 9223372036854775808) / 18446744073709551616), by omega⟩
theorem wrap_cg {a b : Int} (h : cg a b) : wrap64 a = wrap64 b := by
  obtain ⟨q, rfl⟩ := h
  rw [← IntWalk.i64_left, ← IntWalk.i64_left, IntKind.wrap_i64, IntKind.wrap_i64]
  omega
def sumTo (f : Nat → Int) : Nat → Int
  | 0 => 0
  | n + 1 => sumTo f n + f n
theorem sumTo_congr {f g : Nat → Int} : ∀ n, (∀ j, j < n → f j = g j) → sumTo f n = sumTo g n
  | 0, _ => rfl
  | n + 1, h => by rw [sumTo, sumTo, sumTo_congr n (fun j hj => h j (by omega)), h n (by omega)]
theorem sumTo_mul (c : Int) (f : Nat → Int) : ∀ n, sumTo (fun j => c * f j) n = c * sumTo f n
  | 0 => by simp [sumTo]
  | n + 1 => by rw [sumTo, sumTo, sumTo_mul c f n, Int.mul_add]
theorem sumTo_one {f g : Nat → Int} (a : Nat) : ∀ n, a < n → (∀ j, j < n → j ≠ a → f j = g j) → sumTo f n = sumTo g n - g a + f a
  | 0, h, _ => by omega
  | n + 1, h, e => by
    by_cases ha : a = n
    · subst ha; rw [sumTo, sumTo, sumTo_congr a (fun j hj => e j (by omega) (by omega))]; omega
    · rw [sumTo, sumTo, sumTo_one a n (by omega) (fun j hj hn => e j (by omega) hn), e n (by omega) (by omega)]; omega
theorem sumTo_two {f g : Nat → Int} {n a b : Nat} (ha : a < n) (hb : b < n) (hab : a ≠ b) (e : ∀ j, j < n → j ≠ a → j ≠ b → f j = g j) : sumTo f n = sumTo g n - g a - g b + f a + f b := by
  have h1 := sumTo_one (f := f) (g := fun j => if j = b then g b else f j) b n hb (fun j _ hn => by simp [hn])
  have h2 := sumTo_one (f := fun j => if j = b then g b else f j) (g := g) a n ha (fun j hj hn => by by_cases hjb : j = b <;> simp [hjb]; exact e j hj hn hjb)
  simp [hab] at h1 h2
  omega
theorem z_two : ∀ K ≤ 6, ∀ t < K, ∀ i < 2 ^ K, z i (2 ^ t) = true → z (i + 2 ^ t) (2 ^ t) = false := by decide +kernel
theorem z_low : ∀ K ≤ 6, ∀ t < K, ∀ i < 2 ^ K, z i (2 ^ t) = false → 2 ^ t ≤ i ∧ z (i - 2 ^ t) (2 ^ t) = true := by decide +kernel
def wt (s m j : Nat) : Int := if z j s then (if j < m then 1 else 2) else (if j - s < m then 1 else 2)
theorem inner_sum (K t : Nat) (hK : K ≤ 6) (ht : t < K) (x : Nat → Int) : ∀ m, m ≤ 2 ^ K → cg (sumTo (fun j => wt (2 ^ t) m j * (inner (2 ^ t) x m j * inner (2 ^ t) x m j)) (2 ^ K)) (2 * sumTo (fun j => x j * x j) (2 ^ K))
  | 0, _ => by
    rw [← sumTo_mul]
    have : sumTo (fun j => wt (2 ^ t) 0 j * (inner (2 ^ t) x 0 j * inner (2 ^ t) x 0 j)) (2 ^ K) = sumTo (fun j => 2 * (x j * x j)) (2 ^ K) := sumTo_congr _ fun j _ => by simp [wt, inner]
    rw [this]; exact cg.refl _
  | m + 1, hm => by
    have ih := inner_sum K t hK ht x m (by omega)
    refine cg.trans ?_ ih
    cases hz : z m (2 ^ t) with
    | false =>
      have e : sumTo (fun j => wt (2 ^ t) (m + 1) j * (inner (2 ^ t) x (m + 1) j * inner (2 ^ t) x (m + 1) j)) (2 ^ K) = sumTo (fun j => wt (2 ^ t) m j * (inner (2 ^ t) x m j * inner (2 ^ t) x m j)) (2 ^ K) := by
        refine sumTo_congr _ fun j hj => ?_
        have e1 : inner (2 ^ t) x (m + 1) = inner (2 ^ t) x m := by simp [inner, hz]
        have e2 : wt (2 ^ t) (m + 1) j = wt (2 ^ t) m j := by
          unfold wt
          cases hj2 : z j (2 ^ t) with
          | true =>
            have : j ≠ m := by rintro rfl; simp [hz] at hj2
            simp only [if_true]
            by_cases h : j < m
            · rw [if_pos h, if_pos (by omega)]
            · rw [if_neg h, if_neg (by omega)]
          | false =>
            have hl := z_low K hK t ht j hj hj2
            have : j - 2 ^ t ≠ m := by intro h; rw [h, hz] at hl; simp at hl
            simp only [Bool.false_eq_true, if_false]
            by_cases h : j - 2 ^ t < m
            · rw [if_pos h, if_pos (by omega)]
            · rw [if_neg h, if_neg (by omega)]
        rw [e1, e2]
      rw [e]; exact cg.refl _
    | true =>
      have h1 := z_lt K hK t ht m (by omega) hz
      have h2 := z_two K hK t ht m (by omega) hz
      have hs : 1 ≤ 2 ^ t := Nat.two_pow_pos t
      generalize hy : inner (2 ^ t) x m = y at *
      have e1 : inner (2 ^ t) x (m + 1) = bfl (2 ^ t) y m := by simp [inner, hz, hy]
      rw [e1]
      generalize hS : 2 ^ t = s at *
      have e := sumTo_two (f := fun j => wt s (m + 1) j * (bfl s y m j * bfl s y m j)) (g := fun j => wt s m j * (y j * y j)) (n := 2 ^ K) (a := m) (b := m + s) (by omega) h1 (by omega) (by
        intro j hj ha hb
        have e3 : bfl s y m j = y j := by simp [bfl, ha, hb]
        have e2 : wt s (m + 1) j = wt s m j := by
          unfold wt
          cases hj2 : z j s with
          | true =>
            simp only [if_true]
            by_cases h : j < m
            · rw [if_pos h, if_pos (by omega)]
            · rw [if_neg h, if_neg (by omega)]
          | false =>
            have hl := z_low K hK t ht j hj (by rw [hS]; exact hj2)
            rw [hS] at hl
            simp only [Bool.false_eq_true, if_false]
            by_cases h : j - s < m
            · rw [if_pos h, if_pos (by omega)]
            · rw [if_neg h, if_neg (by omega)]
        show wt s (m + 1) j * (bfl s y m j * bfl s y m j) = wt s m j * (y j * y j)
        rw [e2, e3])
      rw [e]
      have w1 : wt s m m = 2 := by simp [wt, hz]
      have w2 : wt s m (m + s) = 2 := by simp [wt, h2]
      have w3 : wt s (m + 1) m = 1 := by simp [wt, hz]
      have w4 : wt s (m + 1) (m + s) = 1 := by simp [wt, h2]
      have b1 : bfl s y m m = wrap64 (y m + y (m + s)) := by
        have : m ≠ m + s := by omega
        simp [bfl]; omega
      have b2 : bfl s y m (m + s) = wrap64 (y m - y (m + s)) := by simp [bfl]
      simp only [w1, w2, w3, w4, b1, b2]
      have g1 := (cg_wrap (y m + y (m + s))).mul (cg_wrap (y m + y (m + s)))
      have g2 := (cg_wrap (y m - y (m + s))).mul (cg_wrap (y m - y (m + s)))
      obtain ⟨q1, q1h⟩ := g1
      obtain ⟨q2, q2h⟩ := g2
      rw [q1h, q2h]
      refine ⟨q1 + q2, ?_⟩
      have r1 : (y m + y (m + s)) * (y m + y (m + s)) = y m * y m + 2 * (y m * y (m + s)) + y (m + s) * y (m + s) := by
        rw [Int.add_mul, Int.mul_add, Int.mul_add, Int.mul_comm (y (m + s)) (y m)]; omega
      have r2 : (y m - y (m + s)) * (y m - y (m + s)) = y m * y m - 2 * (y m * y (m + s)) + y (m + s) * y (m + s) := by
        rw [Int.sub_mul, Int.mul_sub, Int.mul_sub, Int.mul_comm (y (m + s)) (y m)]; omega
      rw [r1, r2]
      omega
theorem stage_sum (K : Nat) (hK : K ≤ 6) (x : Nat → Int) : ∀ t, t ≤ K → cg (sumTo (fun j => stages (2 ^ K) x t j * stages (2 ^ K) x t j) (2 ^ K)) ((2 : Int) ^ t * sumTo (fun j => x j * x j) (2 ^ K))
  | 0, _ => by simp [stages]; exact cg.refl _
  | t + 1, h => by
    have ih := stage_sum K hK x t (by omega)
    have h1 := inner_sum K t hK (by omega) (stages (2 ^ K) x t) (2 ^ K) (Nat.le_refl _)
    have e : sumTo (fun j => wt (2 ^ t) (2 ^ K) j * (inner (2 ^ t) (stages (2 ^ K) x t) (2 ^ K) j * inner (2 ^ t) (stages (2 ^ K) x t) (2 ^ K) j)) (2 ^ K) = sumTo (fun j => stages (2 ^ K) x (t + 1) j * stages (2 ^ K) x (t + 1) j) (2 ^ K) := by
      refine sumTo_congr _ fun j hj => ?_
      have : wt (2 ^ t) (2 ^ K) j = 1 := by
        unfold wt
        rw [if_pos hj, if_pos (Nat.lt_of_le_of_lt (Nat.sub_le _ _) hj)]; split <;> rfl
      rw [this, Int.one_mul]; rfl
    rw [e] at h1
    refine h1.trans ?_
    have := (cg.refl 2).mul ih
    rw [Int.pow_succ]
    refine this.trans ?_
    rw [← Int.mul_assoc, Int.mul_comm 2]; exact cg.refl _
def acc (f : Nat → Int) : Nat → Int
  | 0 => 0
  | i + 1 => wrap64 (acc f i + wrap64 (f i * f i))
theorem acc_cg (f : Nat → Int) : ∀ n, cg (acc f n) (sumTo (fun j => f j * f j) n)
  | 0 => cg.refl _
  | n + 1 => (cg_wrap _).trans ((acc_cg f n).add (cg_wrap _))
theorem acc_wrap (f : Nat → Int) : ∀ n, wrap64 (acc f n) = acc f n
  | 0 => IntWalk.wrap64_in 0 (by omega)
  | n + 1 => wrap_cg (cg_wrap _)
theorem parseval (K : Nat) (hK : K ≤ 6) (x : Nat → Int) : (acc (stages (2 ^ K) x K) (2 ^ K) == wrap64 (acc x (2 ^ K) * ((2 ^ K : Nat) : Int))) = true := by
  rw [beq_iff_eq, ← acc_wrap (stages (2 ^ K) x K)]
  refine wrap_cg ?_
  have e : ((2 ^ K : Nat) : Int) = (2 : Int) ^ K := by simp
  rw [e, Int.mul_comm]
  exact ((acc_cg _ _).trans (stage_sum K hK x K (Nat.le_refl _))).trans ((cg.refl _).mul (acc_cg x _).symm)
end Go.Proofs.Ytcnhccpoakldnaa
