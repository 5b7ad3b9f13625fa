/- Whether a row has a number that is no 0 (ContainsFunc with tour's own function); slices.Reverse of an own row. No conditions. -/
import Derived.Test.YtkiljnggphlomaaDoorOwh
import Derived.Test.YtkiljnggphlomaaDoorMach
namespace Go.Proofs.YtkiljnggphlomaaDoor
open Go.RowKit Go.Deep
set_option maxHeartbeats 400000 in
theorem tne_any (z : Int) (w : World) : Calls Tryd.prog 50 #[.int .i64 z] w fun e w' => e = .returned (.bool (z != 0)) ∧ w' = w := by
  go_enter Tryd.func50, Tryd.ntmps50
  go_wp2_with fail
  go_ret
  exact ⟨rfl, rfl⟩
set_option maxRecDepth 100000 in
set_option maxHeartbeats 1000000 in
theorem tix_any (zs : List Int) (F : Nat → Prop) (v : Value) (w : World) (hv : IntsIn .i64 F w v zs) :
    Calls Tryd.prog 80 #[v, .func (Fn.func 50) #[] #[]] w fun e w' => (∃ m : Int, e = .returned (.int .i64 m) ∧ (0 ≤ m ↔ ∃ j, j < zs.length ∧ at0 zs j ≠ 0)) ∧ w' = w := by
  obtain ⟨A, c, rfl, h1, _, h3⟩ := hv
  have H3 := hid h3
  unfold maxLen at h1
  clear h3
  go_enter Tryd.func80, Tryd.ntmps80
  go_wp2_with fail
  go_loopw [5, 8] (fun _ iv wr => ∃ j : Nat, j ≤ zs.length ∧ iv = .int .i64 j ∧ Hid (∀ k, k < j → at0 zs k = 0) ∧ w = wr) (fun _ iv _ => zs.length - (intOf iv).toNat)
  case atStart => exact ⟨0, Nat.zero_le _, rfl, fun k hk => by omega, rfl⟩
  case round =>
    obtain ⟨j, hj, rfl, hold, hw⟩ := hrel
    subst hw
    by_cases hlt : j < zs.length
    · obtain ⟨b, o, rfl, hb, hc⟩ := H3.out (by omega)
      have c1 := hc j hlt
      have EX : zs.getD j 0 = at0 zs j := rfl
      rw [EX] at c1
      have i1 : (j : Int) < (zs.length : Int) := by omega
      obtain ⟨z, hz⟩ : ∃ z, z = at0 zs j := ⟨_, rfl⟩
      have HZ := hid hz
      rw [← hz] at c1
      clear hc EX hz
      go_wp2_with fail
      refine (tne_any z _).mono ?_
      rintro e w2 ⟨rfl, rfl⟩
      by_cases hp : z = 0
      · have N : Hid (∀ k, k < j + 1 → at0 zs k = 0) := fun k hk => by
          by_cases hkj : k = j
          · subst hkj; rw [← HZ.out]; exact hp
          · exact hold.out k (by omega)
        rw [show (z != 0) = false by simp [hp]]
        clear hp
        go_wp2_with fail
        go_roundw
        case rel => exact ⟨j + 1, by omega, by go_num, N, by first | rfl | trivial⟩
        case measure => simp [intOf]; omega
      · have E : Hid (0 ≤ (j : Int) ↔ ∃ j, j < zs.length ∧ at0 zs j ≠ 0) := ⟨fun _ => ⟨j, hlt, by rw [← HZ.out]; exact hp⟩, fun _ => by omega⟩
        rw [show (z != 0) = true by simpa using hp]
        clear hp
        go_wp2_with fail
        go_ret
        exact ⟨⟨_, rfl, E.out⟩, rfl⟩
    · have E : Hid (0 ≤ (-1 : Int) ↔ ∃ j, j < zs.length ∧ at0 zs j ≠ 0) := ⟨fun h => by omega, fun ⟨k, h1, h2⟩ => absurd (hold.out k (by omega)) h2⟩
      go_wp2_with fail
      go_ret
      exact ⟨⟨_, rfl, E.out⟩, rfl⟩
set_option maxRecDepth 100000 in
set_option maxHeartbeats 1000000 in
theorem tcf_any (zs : List Int) (F : Nat → Prop) (v : Value) (w : World) (hv : IntsIn .i64 F w v zs) :
    Calls Tryd.prog 49 #[v, .func (Fn.func 50) #[] #[]] w fun e w' => (∃ t : Bool, e = .returned (.bool t) ∧ (t = true ↔ ∃ j, j < zs.length ∧ at0 zs j ≠ 0)) ∧ w' = w := by
  have HV := hid hv
  obtain ⟨A, c, rfl, h1, _⟩ := hv
  go_enter Tryd.func49, Tryd.ntmps49
  go_wp2_with fail
  refine (tix_any zs F _ w HV.out).mono ?_
  rintro e w2 ⟨⟨m, rfl, hm⟩, rfl⟩
  have HM := hid hm
  clear hm
  go_wp2_with fail
  go_ret
  exact ⟨⟨_, rfl, by rw [decide_eq_true_eq]; exact HM.out⟩, rfl⟩
set_option maxRecDepth 100000 in
set_option maxHeartbeats 1000000 in
theorem trev_any (zs : List Int) (B : Nat) (v : Value) (w : World) (hv : w.ownsRow B 3 1 v zs.length (zs.map (Value.int .i64))) (hz : zs.length ≤ 1000000) :
    Calls Tryd.prog 51 #[v] w fun e w' => e = .returned (.tuple #[]) ∧ w.grownBy w' v.ownBlock := by
  have H := hid hv
  obtain ⟨A, c, rfl, _, _⟩ := own_sl hv
  obtain ⟨n, hn⟩ : ∃ n, n = zs.length := ⟨_, rfl⟩
  rw [← hn] at H hz ⊢
  clear hv
  have O0 : Hid (∃ xs : List Int, xs.length = n ∧ w.ownsRow B 3 1 (.slice A n c) n (xs.map (Value.int .i64))) := ⟨zs, hn.symm, H.out⟩
  clear hn H
  go_enter Tryd.func51, Tryd.ntmps51
  go_wp2_with fail
  go_loopw [2, 3] (fun iv jv wr => ∃ (i : Nat) (j : Int), iv = .int .i64 i ∧ jv = .int .i64 j ∧ i ≤ n ∧ Hid (j = (n : Int) - 1 - i) ∧ Hid (∃ xs : List Int, xs.length = n ∧ wr.ownsRow B 3 1 (.slice A n c) n (xs.map (Value.int .i64))) ∧ Hid (w.grownBy wr (Value.ownBlock (.slice A n c)))) (fun iv _ _ => n - (intOf iv).toNat)
  case atStart => exact ⟨0, (n : Int) - 1, rfl, by go_num, Nat.zero_le _, (by show _ = _; omega), O0, World.grownBy.refl _ _⟩
  case round =>
    clear O0
    obtain ⟨i, j, rfl, rfl, hi, hj, hO, hG⟩ := hrel
    by_cases hlt : (i : Int) < j
    · obtain ⟨k, rfl⟩ : ∃ k : Nat, j = k := ⟨j.toNat, by omega⟩
      have hjj := hj.out
      have hik : i < k := by omega
      have hkn : k < n := by omega
      obtain ⟨xs, hxl, hown⟩ := hO.out
      obtain ⟨g, cap, e1, hgb, hgl, hq1, hq2, hq3⟩ := own_open hown (by omega)
      clear hq1 hq2 hq3
      injection e1 with e1 e3 e2
      clear e3
      subst e1 e2
      have XL := hid hxl
      have KJ : Hid ((k : Int) - 1 = (n : Int) - 1 - ((i + 1 : Nat) : Int)) := by show _ = _; omega
      clear hjj
      have ci := (hown.cellAt i (by omega)).trans (show _ = some (.int .i64 (at0 xs i)) by rw [List.getElem?_map, List.getElem?_eq_getElem (by rw [XL.out]; omega)]; unfold at0; rw [List.getD_eq_getElem?_getD, List.getElem?_eq_getElem (by rw [XL.out]; omega)]; rfl)
      have ck := (hown.cellAt k (by omega)).trans (show _ = some (.int .i64 (at0 xs k)) by rw [List.getElem?_map, List.getElem?_eq_getElem (by rw [XL.out]; omega)]; unfold at0; rw [List.getD_eq_getElem?_getD, List.getElem?_eq_getElem (by rw [XL.out]; omega)]; rfl)
      have fi := hown.frozenAt i
      have fk := hown.frozenAt k
      generalize at0 xs i = p at ci
      generalize at0 xs k = q at ck
      have S1 := hown.stored i (.int .i64 q)
      have S2 := S1.1.stored k (.int .i64 p)
      have OC : Hid (∃ xs : List Int, xs.length = n ∧ ((wr.setCell ⟨g, i, none⟩ (.int .i64 q)).setCell ⟨g, k, none⟩ (.int .i64 p)).drew.ownsRow B 3 1 (.slice (some ⟨g, 0, none⟩) n c) n (xs.map (Value.int .i64))) :=
        ⟨(xs.set i q).set k p, by rw [List.length_set, List.length_set]; exact XL.out, by
          have := S2.1
          rw [← List.map_set, ← List.map_set] at this; exact this⟩
      have GC : Hid (w.grownBy ((wr.setCell ⟨g, i, none⟩ (.int .i64 q)).setCell ⟨g, k, none⟩ (.int .i64 p)).drew (some g)) :=
        have h : w.grownBy ((wr.setCell ⟨g, i, none⟩ (.int .i64 q)).setCell ⟨g, k, none⟩ (.int .i64 p)) (some g) := (hG.out.trans S1.2).trans S2.2
        ⟨h.os, h.tape, h.output, h.size, h.block⟩
      have ne1 : ¬ i = k := by omega
      have ne2 : ¬ k = i := by omega
      have j1 : (i : Int) < (n : Int) := by omega
      have j2 : (k : Int) < (n : Int) := by omega
      have j3 : (i : Int) < (k : Int) := by omega
      clear S1 S2 hown hxl hlt
      go_upto_region 3 with fail
      go_region
      go_wp2_with fail
      go_roundw
      case rel => exact ⟨i + 1, (k : Int) - 1, by go_num, by go_num, by omega, KJ, OC, GC⟩
      case measure => simp [intOf]; omega
    · have j1 : ¬ (i : Int) < j := hlt
      have j2 : decide ((i : Int) < j) = false := decide_eq_false hlt
      go_wp2_with fail
      go_end0
      exact ⟨rfl, hG.out⟩
theorem trev_at (zs : List Int) (n B : Nat) (v : Value) (w : World) (hn : zs.length = n) (hv : w.ownsRow B 3 1 v n (zs.map (Value.int .i64))) (hz : n ≤ 1000000) :
    Calls Tryd.prog 51 #[v] w fun e w' => e = .returned (.tuple #[]) ∧ w.grownBy w' v.ownBlock := by
  subst hn; exact trev_any zs B v w hv hz
end Go.Proofs.YtkiljnggphlomaaDoor
