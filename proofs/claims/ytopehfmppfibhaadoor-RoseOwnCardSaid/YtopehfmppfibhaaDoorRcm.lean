/- What slices.Compare and tape.Less return of two lists; of the same list twice nought and false. No conditions. -/
import Derived.Test.YtopehfmppfibhaaDoorShd
import Derived.Test.YtopehfmppfibhaaDoorGen
import Derived.IntWalk
namespace Go.Proofs.YtopehfmppfibhaaDoor
open Go.RowKit
def CmpPost (a b : List Int) (w : World) (e : Ending) (w' : World) : Prop := ∃ (c : Int) (q : Nat), e = .returned (.int .i64 c) ∧ w' = w.drewN q ∧ (a = b → c = 0)
def TLessPost (a b : List Int) (w : World) (e : Ending) (w' : World) : Prop := ∃ (c : Bool) (q : Nat), e = .returned (.bool c) ∧ w' = w.drewN q ∧ (a = b → c = false)
theorem cmpI_self (x : Int) : Lib.compareInt x x = 0 := by simp [Lib.compareInt]
set_option maxHeartbeats 400000 in
theorem compare_any (a b : List Int) (F : Nat → Prop) (u v : Value) (w : World) (hu : IntsIn .i64 F w u a) (hv : IntsIn .i64 F w v b) :
    Calls Tryd.prog 49 #[u, v] w (CmpPost a b w) := by
  obtain ⟨A, ca, rfl, ha1, _, ha⟩ := hu
  obtain ⟨B, cb, rfl, hb1, _, hb⟩ := hv
  have HA := hid ha
  have HB := hid hb
  clear ha hb
  unfold maxLen at ha1 hb1
  go_enter Tryd.func49, Tryd.ntmps49
  go_wp2_with fail
  go_loopw [11] (fun i wr => ∃ j q : Nat, j ≤ a.length ∧ i = .int .i64 j ∧ wr = w.drewN q) (fun i _ => a.length - (intOf i).toNat)
  case atStart => exact ⟨0, 0, Nat.zero_le _, rfl, rfl⟩
  case round =>
    obtain ⟨j, q, hj, rfl, rfl⟩ := hrel
    by_cases hlt : j < a.length
    · obtain ⟨b1, o1, rfl, _, hc1⟩ := HA.out (by omega)
      have c1 : w.cell? ⟨b1, o1 + j, none⟩ = some (.int .i64 (at0 a j)) := hc1 j hlt
      clear hc1
      have i1 : (j : Int) < (a.length : Int) := by omega
      by_cases h2 : j < b.length
      · obtain ⟨b2, o2, rfl, _, hc2⟩ := HB.out (by omega)
        have c2 : w.cell? ⟨b2, o2 + j, none⟩ = some (.int .i64 (at0 b j)) := hc2 j h2
        clear hc2
        have i2 : (j : Int) < (b.length : Int) := by omega
        have NE : Hid (a = b → Lib.compareInt (at0 a j) (at0 b j) = 0) := fun e => by rw [e]; exact cmpI_self _
        generalize at0 a j = x at *
        generalize at0 b j = y at *
        go_wp2_with fail
        refine (cmp_int x y _).mono ?_
        rintro e w1 ⟨rfl, rfl⟩
        generalize Lib.compareInt x y = z at *
        by_cases hz : z = 0
        · subst hz
          go_wp2_with fail
          go_roundw
          case rel => exact ⟨j + 1, _, by omega, by go_num, rfl⟩
          case measure => simp [intOf]; omega
        · have d1 : (z != 0) = true := by simp [hz]
          have NF : Hid (a = b → z = 0) := NE.out
          clear hz
          go_wp2_with fail
          go_ret
          exact ⟨_, _, rfl, rfl, NF.out⟩
      · have NE : Hid (a = b → (1 : Int) = 0) := fun e => absurd hlt (by rw [e]; exact h2)
        have i2 : (b.length : Int) ≤ (j : Int) := by omega
        go_wp2_with fail
        go_ret
        exact ⟨_, _, rfl, rfl, NE.out⟩
    · obtain rfl : j = a.length := by omega
      by_cases h3 : a.length < b.length
      · have NE : Hid (a = b → (-1 : Int) = 0) := fun e => absurd h3 (by rw [e]; omega)
        have i3 : (a.length : Int) < (b.length : Int) := by omega
        go_wp2_with fail
        go_ret
        exact ⟨_, _, rfl, rfl, NE.out⟩
      · have i3 : (b.length : Int) ≤ (a.length : Int) := by omega
        go_wp2_with fail
        go_ret
        exact ⟨_, _, rfl, rfl, fun _ => rfl⟩
set_option maxHeartbeats 400000 in
theorem tless_any (a b : List Int) (F : Nat → Prop) (u v : Value) (w : World) (hu : IntsIn .i64 F w u a) (hv : IntsIn .i64 F w v b) :
    Calls Tryd.prog 27 #[u, v] w (TLessPost a b w) := by
  have HU := hid hu
  have HV := hid hv
  obtain ⟨A, ca, rfl, ha1, _, _⟩ := hu
  obtain ⟨B, cb, rfl, hb1, _, _⟩ := hv
  unfold maxLen at ha1 hb1
  by_cases hl : a.length = b.length
  · have e1 : ((a.length : Int) != (b.length : Int)) = false := by simp [hl]
    clear hl
    go_enter Tryd.func27, Tryd.ntmps27
    go_wp2_with fail
    refine (compare_any a b F _ _ _ HU.out HV.out).mono ?_
    rintro e w1 ⟨c, q, rfl, rfl, hc⟩
    have HC := hid hc
    clear hc
    go_wp2_with fail
    go_ret
    exact ⟨_, _, rfl, rfl, fun e => by rw [HC.out e]; decide⟩
  · have e1 : ((a.length : Int) != (b.length : Int)) = true := by simp; omega
    have NE : Hid (a ≠ b) := fun e => hl (by rw [e])
    clear hl
    go_enter Tryd.func27, Tryd.ntmps27
    go_wp2_with fail
    go_ret
    exact ⟨_, 0, rfl, rfl, fun e => absurd e NE.out⟩
end Go.Proofs.YtopehfmppfibhaaDoor
