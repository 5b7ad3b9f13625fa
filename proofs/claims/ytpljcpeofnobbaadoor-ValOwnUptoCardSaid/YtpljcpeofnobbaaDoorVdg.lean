/- The reference's Digits: a number's text. No conditions. -/
import Derived.Test.YtpljcpeofnobbaaDoorVtu
import Derived.Lib.ItoaMem
import Derived.Laws.IdiomStrings
namespace Go.Proofs.YtpljcpeofnobbaaDoor
open Go.RowKit Go.Deep
theorem strB_app (a b : List UInt8) : strB a ++ strB b = strB (a ++ b) := by
  apply ByteArray.ext
  simp [strB]
theorem dec_step {u : Nat} (h : 10 ≤ u) : Lib.decDigits u = Lib.decDigits (u / 10) ++ Lib.decDigits (u % 10) := by
  conv => lhs; rw [Lib.decDigits]
  rw [dif_neg (by omega), Lib.decDigits_one (i := u % 10) (by omega)]
def DigOk (n : Int) : Prop := ∀ w, Calls Tryd.prog 16 #[.int .i64 n] w fun e w' => e = .returned (.string (strB (Lib.itoa n))) ∧ Below w.heap.size w w'
theorem itoa_len (n : Int) (h0 : -9223372036854775808 ≤ n) (h1 : n ≤ 9223372036854775807) : (strB (Lib.itoa n)).size ≤ 21 := Lib.itoa_length_le n h0 h1
set_option maxRecDepth 100000 in
set_option maxHeartbeats 1000000 in
theorem dig_small (u : Nat) (h : u < 10) : DigOk (u : Int) := by
  intro w
  have E : Hid (Lib.itoa (u : Int) = [UInt8.ofNat (48 + u)]) := by show _ = _; rw [Lib.itoa_nonneg, Lib.decDigits_one h]
  have BB : ((UInt8.ofNat (48 + u)).toNat : Int) = 48 + (u : Int) := by simp; omega
  generalize UInt8.ofNat (48 + u) = bb at *
  have u0 : (u : Int) < 10 := by omega
  have u1 : ¬ (u : Int) < 0 := by omega
  have CB := run_convert_bytes_back (P := Tryd.prog) (w.alloc (.cells #[.int .u8 (48 + (u : Int))] 5)) 52 9 5 ⟨w.heap.size, 0, none⟩ 1 [bb] Tryd.underlying52 Tryd.underlying5 Tryd.underlying9 (fun j hj => by
    obtain rfl : j = 0 := by simp at hj; omega
    refine ((Has.cell (Has.new _ _) 0).trans ?_)
    show some (Value.int .u8 (48 + (u : Int))) = some (Value.int .u8 ((bb.toNat : Int)))
    rw [BB])
  simp only [List.length_singleton] at CB
  clear BB
  have W8 : IntKind.u8.wrap (48 + (u : Int)) = 48 + (u : Int) := IntWalk.u8_in _ ⟨by omega, by omega⟩
  go_enter Tryd.func16, Tryd.ntmps16
  go_wp2_with fail
  go_ret
  exact ⟨by rw [E.out]; rfl, (Below.refl _ _).alloc (Nat.le_refl _) _⟩
set_option maxRecDepth 100000 in
set_option maxHeartbeats 200000 in
theorem itoa_step {u : Nat} (h : 10 ≤ u) : Lib.itoa (u : Int) = Lib.itoa ((u : Int) / 10) ++ Lib.itoa ((u : Int) % 10) := by
  have e1 : (u : Int) / 10 = ((u / 10 : Nat) : Int) := by omega
  have e2 : (u : Int) % 10 = ((u % 10 : Nat) : Int) := by omega
  rw [e1, e2, Lib.itoa_nonneg u, Lib.itoa_nonneg (u / 10), Lib.itoa_nonneg (u % 10)]
  exact dec_step h
set_option maxRecDepth 100000 in
set_option maxHeartbeats 400000 in
theorem dig_big (u : Nat) (h : 10 ≤ u) (hu : u ≤ 9223372036854775807) (h1 : DigOk ((u : Int) / 10)) (h2 : DigOk ((u : Int) % 10)) : DigOk (u : Int) := by
  intro w
  have E : Hid (Lib.itoa (u : Int) = Lib.itoa ((u : Int) / 10) ++ Lib.itoa ((u : Int) % 10)) := by
    exact itoa_step h
  have I1 := hid (fun w => h1 w)
  have I2 := hid (fun w => h2 w)
  have L1 := itoa_len ((u : Int) / 10) (by omega) (by omega)
  have L2 := itoa_len ((u : Int) % 10) (by omega) (by omega)
  have u0 : ¬ (u : Int) < 10 := by omega
  have u1 : ¬ (u : Int) < 0 := by omega
  clear h1 h2 h
  generalize Lib.itoa ((u : Int) / 10) = a at *
  generalize Lib.itoa ((u : Int) % 10) = c at *
  have SA := strB_app a c
  go_enter Tryd.func16, Tryd.ntmps16
  go_wp2_with fail
  refine (I1.out w).mono ?_
  rintro e w1 ⟨rfl, hb⟩
  have B1 := hid hb
  clear hb
  go_wp2_with fail
  refine (I2.out w1).mono ?_
  rintro e w2 ⟨rfl, hb⟩
  have B2 := hid (B1.out.trans (hb.mono B1.out.size))
  clear hb
  go_wp2_with fail
  go_ret
  exact ⟨by rw [E.out, ← SA]; rfl, B2.out⟩
set_option maxRecDepth 100000 in
set_option maxHeartbeats 2000000 in
theorem dig_neg (n q : Int) (r : Nat) (h0 : n < 0) (hl : -9223372036854775808 ≤ n) (hq : n.tdiv 10 = q) (hr : n.tmod 10 = -(r : Int)) (h10 : r < 10) (hn : n = q * 10 - r) (h1 : q ≠ 0 → DigOk q) (h2 : DigOk (r : Int)) (E1 : q = 0 → Lib.itoa n = [45] ++ Lib.itoa (r : Int)) (E2 : q ≠ 0 → Lib.itoa n = Lib.itoa q ++ Lib.itoa (r : Int)) : DigOk n := by
  intro w
  have L2 := itoa_len (r : Int) (by omega) (by omega)
  have I2 := hid (fun w => h2 w)
  by_cases hz : q = 0
  · have E := hid (E1 hz)
    generalize Lib.itoa (r : Int) = c at *
    have SA := strB_app [45] c
    clear E1 E2 h1 h2 hn
    subst hz
    go_enter Tryd.func16, Tryd.ntmps16
    go_wp2_with fail
    refine (I2.out w).mono ?_
    rintro e w1 ⟨rfl, hb⟩
    have B1 := hid hb
    clear hb
    go_wp2_with fail
    go_ret
    exact ⟨by rw [E.out, ← SA]; rfl, B1.out⟩
  · have E := hid (E2 hz)
    have I1 := hid (fun w => h1 hz w)
    have q1 : -9223372036854775808 ≤ q := by omega
    have q2 : q ≤ 9223372036854775807 := by omega
    have q3 : (q == 0) = false := beq_eq_false_iff_ne.2 hz
    have L1 := itoa_len q q1 q2
    generalize Lib.itoa (r : Int) = c at *
    generalize Lib.itoa q = a at *
    have SA := strB_app a c
    clear E1 E2 h1 h2 hn
    go_enter Tryd.func16, Tryd.ntmps16
    go_wp2_with fail
    refine (I1.out w).mono ?_
    rintro e w1 ⟨rfl, hb⟩
    have B1 := hid hb
    clear hb
    go_wp2_with fail
    refine (I2.out w1).mono ?_
    rintro e w2 ⟨rfl, hb⟩
    have B2 := hid (B1.out.trans (hb.mono B1.out.size))
    clear hb
    go_wp2_with fail
    go_ret
    exact ⟨by rw [E.out, ← SA]; rfl, B2.out⟩
theorem itoa_neg_small {r : Nat} (h0 : 0 < r) : Lib.itoa (-(r : Int)) = [45] ++ Lib.itoa (r : Int) := by
  rw [Lib.itoa_neg r h0, Lib.itoa_nonneg]; rfl
theorem itoa_neg_step {u : Nat} (h : 10 ≤ u) : Lib.itoa (-(u : Int)) = Lib.itoa (-((u / 10 : Nat) : Int)) ++ Lib.itoa ((u % 10 : Nat) : Int) := by
  rw [Lib.itoa_neg u (by omega), Lib.itoa_neg (u / 10) (by omega), Lib.itoa_nonneg, dec_step h]; rfl
theorem dig_nat (u : Nat) (hu : u ≤ 9223372036854775807) : DigOk (u : Int) := by
  induction u using Nat.strongRecOn with
  | _ u ih =>
    by_cases h : u < 10
    · exact dig_small u h
    · have e1 : (u : Int) / 10 = ((u / 10 : Nat) : Int) := by omega
      have e2 : (u : Int) % 10 = ((u % 10 : Nat) : Int) := by omega
      exact dig_big u (by omega) hu (by rw [e1]; exact ih _ (by omega) (by omega)) (by rw [e2]; exact dig_small _ (by omega))
theorem dig_negs (u : Nat) (h0 : 0 < u) (hu : u ≤ 9223372036854775808) : DigOk (-(u : Int)) := by
  induction u using Nat.strongRecOn with
  | _ u ih =>
    have hd : (-(u : Int)).tdiv 10 = -((u / 10 : Nat) : Int) := by rw [Int.neg_tdiv]; rfl
    have hm : (-(u : Int)).tmod 10 = -((u % 10 : Nat) : Int) := by rw [Int.neg_tmod]; rfl
    refine dig_neg (-(u : Int)) (-((u / 10 : Nat) : Int)) (u % 10) (by omega) (by omega) hd hm (by omega) (by omega) (fun h => ih _ (by omega) (by omega) (by omega)) (dig_small _ (by omega)) (fun h => ?_) (fun h => ?_)
    · have e : u % 10 = u := by omega
      rw [e]; exact itoa_neg_small h0
    · exact itoa_neg_step (by omega)
theorem digits_any (n : Int) (h0 : -9223372036854775808 ≤ n) (h1 : n ≤ 9223372036854775807) : DigOk n := by
  by_cases h : n < 0
  · have e : n = -((n.natAbs : Nat) : Int) := by omega
    rw [e]; exact dig_negs _ (by omega) (by omega)
  · have e : n = ((n.toNat : Nat) : Int) := by omega
    rw [e]; exact dig_nat _ (by omega)
end Go.Proofs.YtpljcpeofnobbaaDoor
