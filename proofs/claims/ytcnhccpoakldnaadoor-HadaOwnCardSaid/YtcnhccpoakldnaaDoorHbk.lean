/- What hada.Effects and hada.Back return, whatever they are given: a list of the call's own, or an error. No conditions. -/
import Derived.Test.YtcnhccpoakldnaaDoorHadA
import Derived.Test.YtcnhccpoakldnaaDoorErv
import Derived.Test.YtcnhccpoakldnaaDoorSpo
namespace Go.Proofs.YtcnhccpoakldnaaDoor
open Go.RowKit
def effC (k : Int) (n : Nat) : Int := if k < 0 ∨ 6 < k then 1 else if n ≠ 2 ^ k.toNat then 3 else 0
def effN (k : Int) (n : Nat) : Nat := if effC k n = 0 then n else 0
theorem effC_good {k : Int} {n : Nat} (h : effC k n = 0) : 0 ≤ k ∧ k ≤ 6 ∧ n = 2 ^ k.toNat := by
  unfold effC at h
  split at h
  · omega
  · split at h
    · omega
    · rename_i h1 h2; exact ⟨by omega, by omega, by simpa using h2⟩
theorem effN_le (k : Int) (n : Nat) : effN k n ≤ 64 := by
  unfold effN
  split
  · rename_i h
    obtain ⟨h1, h2, h3⟩ := effC_good h
    rw [h3]
    exact Nat.le_trans (Nat.pow_le_pow_right (by omega) (show k.toNat ≤ 6 by omega)) (by decide)
  · omega
def OwnPost (B : Nat) (c : Int) (n : Nat) (w : World) (e : Ending) (w' : World) : Prop := ∃ (v : Value) (ys : List Int), e = .returned (.tuple #[v, errV c]) ∧ w'.ownsRow B 3 1 v ys.length (ys.map (Value.int .i64)) ∧ ys.length = n ∧ Below w.heap.size w w'
theorem row_map (n : Nat) (x : Nat → Int) : row n x = ((List.range n).map x).map (Value.int .i64) := by simp [row]
theorem effects_all (k : Int) (zs : List Int) (F : Nat → Prop) (v : Value) (w : World) (hF : ∀ b, F b → b < w.heap.size) (h : IntsIn .i64 F w v zs) :
    Calls Tryd.prog 5 #[.int .i64 k, v] w (OwnPost w.heap.size (effC k zs.length) (effN k zs.length) w) := by
  by_cases h1 : k < 0 ∨ 6 < k
  · refine (effects_bad k zs v F w h h1).mono ?_
    rintro e w' ⟨rfl, rfl⟩
    have e1 : effC k zs.length = 1 := by unfold effC; rw [if_pos h1]
    exact ⟨_, [], by rw [e1]; rfl, World.ownsRow_nil _ _ _ _, by unfold effN; rw [e1]; rfl, Below.refl _ _⟩
  · obtain ⟨K, rfl⟩ : ∃ K : Nat, k = K := ⟨k.toNat, by omega⟩
    by_cases h2 : zs.length = 2 ^ K
    · refine (effects_ok K zs v F w (by omega) hF h h2).mono ?_
      rintro e w' ⟨g, c, rfl, _, ho, hb⟩
      have e1 : effC K zs.length = 0 := by unfold effC; rw [if_neg h1, if_neg (by simpa using h2)]
      rw [row_map] at ho
      refine ⟨_, (List.range (2 ^ K)).map (stages (2 ^ K) (fun j => zs.getD j 0) K), by rw [e1]; rfl, by simpa using ho, ?_, hb⟩
      unfold effN; rw [e1]; simp [h2]
    · refine (effects_len K zs v F w h (by omega) h2).mono ?_
      rintro e w' ⟨rfl, rfl⟩
      have e1 : effC K zs.length = 3 := by unfold effC; rw [if_neg h1, if_pos (by simpa using h2)]
      exact ⟨_, [], by rw [e1]; rfl, World.ownsRow_nil _ _ _ _, by unfold effN; rw [e1]; rfl, Below.refl _ _⟩
def BackPost (c1 : Int) (w : World) (e : Ending) (w' : World) : Prop := ∃ (v : Value) (ys : List Int) (c : Int), e = .returned (.tuple #[v, errV c]) ∧ w'.ownsRow w.heap.size 3 1 v ys.length (ys.map (Value.int .i64)) ∧ ys.length ≤ 64 ∧ (c1 ≠ 0 → c ≠ 0) ∧ Below w.heap.size w w'
theorem own_setI {w : World} {B : Nat} {e : TypeId} {g c n j : Nat} {ys : List Int} (h : w.ownsRow B e 1 (.slice (some ⟨g, 0, none⟩) n c) n (ys.map (Value.int .i64))) (u : Int) :
    (w.setCell ⟨g, j, none⟩ (.int .i64 u)).ownsRow B e 1 (.slice (some ⟨g, 0, none⟩) n c) n ((ys.set j u).map (Value.int .i64)) := by
  have := (h.stored j (.int .i64 u)).1
  rwa [← List.map_set] at this
set_option maxRecDepth 100000 in
set_option maxHeartbeats 1000000 in
theorem back_all (k : Int) (zs : List Int) (F : Nat → Prop) (v : Value) (w : World) (hF : ∀ b, F b → b < w.heap.size) (h : IntsIn .i64 F w v zs) :
    Calls Tryd.prog 6 #[.int .i64 k, v] w (BackPost (effC k zs.length) w) := by
  have H := hid h
  have HF := hid hF
  obtain ⟨A, c, rfl, hm, _, hA⟩ := h
  unfold maxLen at hm
  have HA := hid hA
  clear hF hA
  go_enter Tryd.func6, Tryd.ntmps6
  go_wp2_with fail
  refine (effects_all k zs F _ w HF.out H.out).mono ?_
  rintro e w1 ⟨u, ys, rfl, hO, hy, hb⟩
  have O1 := hid hO
  have B1 := hid hb
  have HY := hid hy
  obtain ⟨A2, c2, rfl, u1, u2⟩ := own_slice1 hO
  unfold maxLen at u2
  have yl : ys.length ≤ 64 := by have := effN_le k zs.length; omega
  clear hO hb hy
  by_cases hc : effC k zs.length = 0
  · have EC := hid (effC_good hc)
    have HN : Hid (ys.length = zs.length) := by show _ = _; rw [HY.out]; unfold effN; rw [if_pos hc]
    have n1 : 1 ≤ zs.length := by rw [EC.out.2.2]; exact Nat.two_pow_pos _
    have n2 : zs.length ≤ 64 := by have := HN.out; omega
    have HC := hid hc
    rw [hc, errV_0]
    clear hc
    obtain ⟨b, off, rfl, hFb, hcell⟩ := HA.out (by omega)
    have HC2 : Hid (∀ i, i < zs.length → w1.cell? ⟨b, off + i, none⟩ = some (.int .i64 (at0 zs i))) := fun i hi => (B1.out.cell (p := ⟨b, off + i, none⟩) (HF.out b hFb)).trans (hcell i hi)
    obtain ⟨g, cg, ea, hg1, hg2, hg3, hg4, _⟩ := own_open O1.out (by have := HN.out; omega)
    injection ea with e1 _ e3
    subst e1 e3
    clear hcell
    go_wp2_with fail
    go_loop [23] (fun iv => ∃ i : Nat, i ≤ zs.length ∧ iv = .int .i64 i) (fun iv => zs.length - (intOf iv).toNat)
    case atStart => exact ⟨0, Nat.zero_le _, rfl⟩
    case round =>
      obtain ⟨i, hi, rfl⟩ := hrel
      by_cases hlt : i < zs.length
      · have q1 := HC2.out i hlt
        have i1 : (i : Int) < (zs.length : Int) := by omega
        generalize at0 zs i = x at *
        go_wp2_with fail
        all_goals first
          | (go_ret2; exact ⟨_, [], 2, rfl, World.ownsRow_nil _ _ _ _, Nat.zero_le _, fun _ => by decide, B1.out⟩)
          | (go_round; (case rel => exact ⟨i + 1, by omega, by go_num⟩); (case measure => simp [intOf]; omega))
      · obtain rfl : i = zs.length := by omega
        have ny : (ys.length : Int) ≤ 64 := by omega
        have nz : (zs = []) = False := eq_false (by intro h; rw [h] at n1; simp at n1)
        go_wp2_with fail
        go_loopw [37] (fun iv wr => ∃ (i : Nat) (xs : List Int), i ≤ ys.length ∧ iv = .int .i64 i ∧ xs.length = ys.length ∧ Hid (wr.ownsRow w.heap.size 3 1 (.slice (some ⟨g, 0, none⟩) ys.length c2) ys.length (xs.map (Value.int .i64))) ∧ Hid (Below w.heap.size w wr)) (fun iv _ => ys.length - (intOf iv).toNat)
        case atStart => exact ⟨0, ys, Nat.zero_le _, rfl, rfl, O1, B1⟩
        case round =>
          obtain ⟨j, xs, hj, rfl, hxl, hO, hB⟩ := hrel
          obtain ⟨wo, rfl⟩ : ∃ wo : World, wo = wr := ⟨_, rfl⟩
          have HX := hid hxl
          clear hxl
          by_cases hjl : j < ys.length
          · have q2 := hO.out.cellAt j (by omega)
            rw [List.getElem?_map, List.getElem?_eq_getElem (by have := HX.out; omega)] at q2
            simp only [Option.map_some] at q2
            have f2 := hO.out.frozenAt j
            have j1 : (j : Int) < (ys.length : Int) := by omega
            generalize xs[j]'_ = x at *
            go_wp2_with fail
            all_goals first
              | (go_ret2; exact ⟨_, [], 2, rfl, World.ownsRow_nil _ _ _ _, Nat.zero_le _, fun _ => by decide, hB.out⟩)
              | (go_roundw; (case rel => exact ⟨j + 1, xs.set j _, by omega, by go_num, by rw [List.length_set]; exact HX.out, own_setI hO.out _, hB.out.setCell hg1 _⟩); (case measure => simp [intOf]; omega))
          · obtain rfl : j = ys.length := by omega
            go_wp2_with fail
            go_ret2
            exact ⟨_, xs, 0, rfl, by rw [HX.out]; exact hO.out, by rw [HX.out]; exact yl, fun h => absurd HC.out h, hB.out⟩
  · have HC := hid hc
    rw [errV_no hc]
    clear hc
    go_wp2_with fail
    go_ret2
    exact ⟨_, [], effC k zs.length, by rw [errV_no HC.out]; rfl, World.ownsRow_nil _ _ _ _, Nat.zero_le _, fun h => h, B1.out⟩
end Go.Proofs.YtcnhccpoakldnaaDoor
