/- What slices.Compare and tape.Less return of two lists, to the number; a tape that is less has a lesser rank. No conditions. -/
import Derived.Test.YtbnannlpebggjaaDoorShc
import Derived.Test.YtbnannlpebggjaaDoorGen
import Derived.IntWalk
namespace Go.Proofs.YtbnannlpebggjaaDoor
open Go.RowKit
theorem cmpI_self (x : Int) : Lib.compareInt x x = 0 := by simp [Lib.compareInt]
def cmpL : List Int → List Int → Int
  | [], [] => 0
  | [], _ :: _ => -1
  | _ :: _, [] => 1
  | x :: a, y :: b => if Lib.compareInt x y ≠ 0 then Lib.compareInt x y else cmpL a b
/-- is one tape less than another one? -/
def tlessB (a b : List Int) : Bool := if a.length = b.length then decide (cmpL a b < 0) else decide (a.length < b.length)
theorem at0_drop {a : List Int} {j : Nat} (h : j < a.length) : a.drop j = at0 a j :: a.drop (j + 1) := by
  rw [List.drop_eq_getElem_cons h]; unfold at0; rw [List.getD_eq_getElem?_getD, List.getElem?_eq_getElem h]; rfl
theorem cmpL_self : ∀ a : List Int, cmpL a a = 0
  | [] => rfl
  | x :: a => by rw [cmpL, if_neg (by simp [cmpI_self])]; exact cmpL_self a
def CmpX (c : Int) (w : World) (e : Ending) (w' : World) : Prop := ∃ q : Nat, e = .returned (.int .i64 c) ∧ w' = w.drewN q
def TLessX (c : Bool) (w : World) (e : Ending) (w' : World) : Prop := ∃ q : Nat, e = .returned (.bool c) ∧ w' = w.drewN q
set_option maxHeartbeats 400000 in
theorem compare_is (a b : List Int) (F : Nat → Prop) (u v : Value) (w : World) (hu : IntsIn .i64 F w u a) (hv : IntsIn .i64 F w v b) :
    Calls Tryd.prog 22 #[u, v] w (CmpX (cmpL a b) w) := by
  obtain ⟨A, ca, rfl, ha1, _, ha⟩ := hu
  obtain ⟨B, cb, rfl, hb1, _, hb⟩ := hv
  have HA := hid ha
  have HB := hid hb
  obtain ⟨R, hR⟩ : ∃ R, R = cmpL a b := ⟨_, rfl⟩
  rw [← hR]
  have HR := hid hR
  clear ha hb hR
  unfold maxLen at ha1 hb1
  go_enter Tryd.func22, Tryd.ntmps22
  go_wp2_with fail
  go_loopw [11] (fun i wr => ∃ j q : Nat, j ≤ a.length ∧ i = .int .i64 j ∧ wr = w.drewN q ∧ Hid (R = cmpL (a.drop j) (b.drop j))) (fun i _ => a.length - (intOf i).toNat)
  case atStart => exact ⟨0, 0, Nat.zero_le _, rfl, rfl, by simpa using HR⟩
  case round =>
    obtain ⟨j, q, hj, rfl, rfl, hE⟩ := hrel
    by_cases hlt : j < a.length
    · obtain ⟨b1, o1, rfl, _, hc1⟩ := HA.out (by omega)
      have c1 : w.cell? ⟨b1, o1 + j, none⟩ = some (.int .i64 (at0 a j)) := hc1 j hlt
      clear hc1
      have i1 : (j : Int) < (a.length : Int) := by omega
      by_cases h2 : j < b.length
      · obtain ⟨b2, o2, rfl, _, hc2⟩ := HB.out (by omega)
        have c2 : w.cell? ⟨b2, o2 + j, none⟩ = some (.int .i64 (at0 b j)) := hc2 j h2
        clear hc2
        have i2 : (j : Int) < (b.length : Int) := by omega
        have NE : Hid (R = if Lib.compareInt (at0 a j) (at0 b j) ≠ 0 then Lib.compareInt (at0 a j) (at0 b j) else cmpL (a.drop (j + 1)) (b.drop (j + 1))) := by
          show _ = _
          rw [hE.out, at0_drop hlt, at0_drop h2, cmpL]
        generalize at0 a j = x at *
        generalize at0 b j = y at *
        clear hE
        go_wp2_with fail
        refine (cmp_int x y _).mono ?_
        rintro e w1 ⟨rfl, rfl⟩
        generalize Lib.compareInt x y = z at *
        by_cases hz : z = 0
        · subst hz
          have NF : Hid (R = cmpL (a.drop (j + 1)) (b.drop (j + 1))) := by
            have := NE.out
            rw [if_neg (by simp)] at this; exact this
          clear NE
          go_wp2_with fail
          go_roundw
          case rel => exact ⟨j + 1, _, by omega, by go_num, rfl, NF⟩
          case measure => simp [intOf]; omega
        · have d1 : (z != 0) = true := by simp [hz]
          have NF : Hid (z = R) := by have := NE.out; rw [if_pos hz] at this; exact this.symm
          clear hz NE
          go_wp2_with fail
          go_ret
          exact ⟨_, by rw [← NF.out]; rfl, rfl⟩
      · have NF : Hid (1 = R) := by
          show _ = _
          rw [hE.out, at0_drop hlt, show b.drop j = [] from List.drop_eq_nil_of_le (by omega), cmpL]
        have i2 : (b.length : Int) ≤ (j : Int) := by omega
        clear hE
        go_wp2_with fail
        go_ret
        exact ⟨_, by rw [← NF.out]; rfl, rfl⟩
    · obtain rfl : j = a.length := by omega
      by_cases h3 : a.length < b.length
      · have NF : Hid (-1 = R) := by
          show _ = _
          rw [hE.out, List.drop_length, at0_drop h3, cmpL]
        have i3 : (a.length : Int) < (b.length : Int) := by omega
        clear hE
        go_wp2_with fail
        go_ret
        exact ⟨_, by rw [← NF.out]; rfl, rfl⟩
      · have NF : Hid (0 = R) := by
          show _ = _
          rw [hE.out, List.drop_length, List.drop_eq_nil_of_le (by omega), cmpL]
        have i3 : (b.length : Int) ≤ (a.length : Int) := by omega
        clear hE
        go_wp2_with fail
        go_ret
        exact ⟨_, by rw [← NF.out]; rfl, rfl⟩
set_option maxHeartbeats 400000 in
theorem tless_is (a b : List Int) (F : Nat → Prop) (u v : Value) (w : World) (hu : IntsIn .i64 F w u a) (hv : IntsIn .i64 F w v b) :
    Calls Tryd.prog 17 #[u, v] w (TLessX (tlessB a b) w) := by
  have HU := hid hu
  have HV := hid hv
  obtain ⟨A, ca, rfl, ha1, _, _⟩ := hu
  obtain ⟨B, cb, rfl, hb1, _, _⟩ := hv
  unfold maxLen at ha1 hb1
  by_cases hl : a.length = b.length
  · have e1 : ((a.length : Int) != (b.length : Int)) = false := by simp [hl]
    have E : Hid (tlessB a b = decide (cmpL a b < 0)) := by show _ = _; unfold tlessB; rw [if_pos hl]
    clear hl
    go_enter Tryd.func17, Tryd.ntmps17
    go_wp2_with fail
    refine (compare_is a b F _ _ _ HU.out HV.out).mono ?_
    rintro e w1 ⟨q, rfl, rfl⟩
    generalize cmpL a b = z at *
    go_wp2_with fail
    go_ret
    exact ⟨_, by rw [E.out]; rfl, rfl⟩
  · have e1 : ((a.length : Int) != (b.length : Int)) = true := by simp; omega
    have E : Hid (tlessB a b = decide (a.length < b.length)) := by show _ = _; unfold tlessB; rw [if_neg hl]
    clear hl
    go_enter Tryd.func17, Tryd.ntmps17
    go_wp2_with fail
    go_ret
    exact ⟨0, by rw [E.out]; rfl, rfl⟩
theorem tlessB_self (a : List Int) : tlessB a a = false := by unfold tlessB; rw [if_pos rfl, cmpL_self]; rfl
/-- a tape's rank: shorter ones first -/
def rkT (l : List Int) : Nat := l.foldl (fun a x => a * 1002 + (x.toNat + 1)) 0
theorem rk_from (l : List Int) : ∀ n : Nat, l.foldl (fun a x => a * 1002 + (x.toNat + 1)) n = n * 1002 ^ l.length + rkT l := by
  induction l with
  | nil => intro n; simp [rkT]
  | cons x r ih =>
    intro n
    show r.foldl _ (n * 1002 + (x.toNat + 1)) = n * 1002 ^ (r.length + 1) + r.foldl _ (0 * 1002 + (x.toNat + 1))
    rw [ih, ih (0 * 1002 + (x.toNat + 1)), Nat.pow_succ]
    have e : n * 1002 * 1002 ^ r.length = n * (1002 ^ r.length * 1002) := by rw [Nat.mul_assoc, Nat.mul_comm 1002]
    rw [Nat.add_mul (n * 1002), e, Nat.zero_mul, Nat.zero_add]
    omega
theorem rk_cons (x : Int) (r : List Int) : rkT (x :: r) = (x.toNat + 1) * 1002 ^ r.length + rkT r := by
  show r.foldl _ (0 * 1002 + (x.toNat + 1)) = _
  rw [rk_from]; simp
theorem rk_hi : ∀ l : List Int, (∀ z ∈ l, 0 ≤ z ∧ z ≤ 1000) → rkT l < 1002 ^ l.length
  | [], _ => by simp [rkT]
  | x :: r, h => by
    have h1 := h x (by simp)
    have h2 := rk_hi r fun z hz => h z (by simp [hz])
    rw [rk_cons, List.length_cons, Nat.pow_succ]
    have : (x.toNat + 1) * 1002 ^ r.length ≤ 1001 * 1002 ^ r.length := Nat.mul_le_mul_right _ (by omega)
    omega
theorem rk_lo : ∀ (x : Int) (r : List Int), 1002 ^ r.length ≤ rkT (x :: r)
  | x, r => by
    rw [rk_cons]
    have : 1 * 1002 ^ r.length ≤ (x.toNat + 1) * 1002 ^ r.length := Nat.mul_le_mul_right _ (by omega)
    omega
theorem rk_lex : ∀ a b : List Int, a.length = b.length → (∀ z ∈ a, 0 ≤ z ∧ z ≤ 1000) → (∀ z ∈ b, 0 ≤ z ∧ z ≤ 1000) → cmpL a b < 0 → rkT a < rkT b
  | [], [], _, _, _, h => by rw [cmpL] at h; omega
  | [], _ :: _, h, _, _, _ => by simp at h
  | _ :: _, [], h, _, _, _ => by simp at h
  | x :: a, y :: b, hl, ha, hb, h => by
    have hl2 : a.length = b.length := by simpa using hl
    have hx := ha x (by simp)
    have hy := hb y (by simp)
    rw [rk_cons, rk_cons, hl2]
    rw [cmpL] at h
    by_cases hc : Lib.compareInt x y ≠ 0
    · rw [if_pos hc] at h
      have hxy : x < y := by
        unfold Lib.compareInt at h
        split at h
        · assumption
        · split at h <;> omega
      have h1 := rk_hi a fun z hz => ha z (by simp [hz])
      rw [hl2] at h1
      have : (x.toNat + 1 + 1) * 1002 ^ b.length ≤ (y.toNat + 1) * 1002 ^ b.length := Nat.mul_le_mul_right _ (by omega)
      rw [Nat.add_mul (x.toNat + 1)] at this
      omega
    · rw [if_neg hc] at h
      have hxy : x = y := by
        have h0 : Lib.compareInt x y = 0 := by omega
        unfold Lib.compareInt at h0
        split at h0
        · omega
        · split at h0 <;> omega
      have := rk_lex a b hl2 (fun z hz => ha z (by simp [hz])) (fun z hz => hb z (by simp [hz])) h
      rw [hxy]; omega
theorem rk_less {a b : List Int} (ha : ∀ z ∈ a, 0 ≤ z ∧ z ≤ 1000) (hb : ∀ z ∈ b, 0 ≤ z ∧ z ≤ 1000) (h : tlessB a b = true) : rkT a < rkT b := by
  unfold tlessB at h
  split at h
  · rename_i hl
    exact rk_lex a b hl ha hb (by simpa using h)
  · rename_i hl
    have hlt : a.length < b.length := by simpa using h
    have h1 := rk_hi a ha
    match b, hlt with
    | y :: r, hlt =>
      have h2 := rk_lo y r
      have : 1002 ^ a.length ≤ 1002 ^ r.length := Nat.pow_le_pow_right (by omega) (by simp at hlt; omega)
      omega
end Go.Proofs.YtbnannlpebggjaaDoor
