/- The two function values of cond.covers. Conditions: tests within the decision. -/
import Derived.Test.YtmhledlcfbjfkaaDoorCdf
import Derived.BigRegion
import Derived.BigQuiet
import Derived.Deep.QuietTactic
import Derived.Deep.RegionLaw
namespace Go.Proofs.YtmhledlcfbjfkaaDoor
open Go.RowKit Go.Deep
set_option maxRecDepth 100000 in
set_option maxHeartbeats 2000000 in
theorem want_ok (f : List Bool) (b : Bool) (z : Int) (F : Nat → Prop) (fv : Value) (gf gw : Nat) (w : World) (hz : 0 ≤ z ∧ z.toNat < f.length) (hf : BoolsIn F w fv f) (c1 : w.cell? ⟨gf, 0, none⟩ = some fv) (c2 : w.cell? ⟨gw, 0, none⟩ = some (.bool b)) :
    Calls Tryd.prog 25 #[.int .i64 z, .pointer (some ⟨gf, 0, none⟩), .pointer (some ⟨gw, 0, none⟩)] w fun e w' => e = .returned (.bool (bat f z.toNat == b)) ∧ Below w.heap.size w w' := by
  obtain ⟨t, rfl⟩ : ∃ t : Nat, z = t := ⟨z.toNat, by omega⟩
  obtain ⟨A, c, rfl, l1, l2, hs⟩ := hf
  unfold maxLen at l2
  rw [Int.toNat_natCast] at hz ⊢
  obtain ⟨bl, off, rfl, hb, hc⟩ := hs (by omega)
  have c3 := hc t hz.2
  have t1 : (t : Int) < (f.length : Int) := by omega
  obtain ⟨x, hx⟩ : ∃ x, x = bat f t := ⟨_, rfl⟩
  rw [← hx] at c3 ⊢
  clear hs hc hx hz
  cases x <;> cases b
  all_goals
    go_enter Tryd.func25, Tryd.ntmps25
    go_wp2_with fail
    go_upto_region 1 with fail
    go_quiet (fail)
    have B2 := hid (below_drewN (Below.refl w.heap.size w) nq)
    go_wp2_with fail
    go_ret
    exact ⟨rfl, B2.out⟩
set_option maxRecDepth 100000 in
set_option maxHeartbeats 4000000 in
theorem has_ok (f : List Bool) (T : List Int) (N i : Nat) (z : Int) (F : Nat → Prop) (fv tv : Value) (gf gb gt : Nat) (w : World) (hN : N ≤ 6) (hi : i < N) (hl : f.length = 2 ^ N) (hz : 0 ≤ z ∧ z < ((2 ^ N : Nat) : Int)) (hf : BoolsIn F w fv f) (ht : IntsIn .i64 F w tv T) (c1 : w.cell? ⟨gf, 0, none⟩ = some fv) (c2 : w.cell? ⟨gb, 0, none⟩ = some (.int .i64 ((2 ^ i : Nat) : Int))) (c3 : w.cell? ⟨gt, 0, none⟩ = some tv) :
    Calls Tryd.prog 22 #[.int .i64 z, .pointer (some ⟨gf, 0, none⟩), .pointer (some ⟨gb, 0, none⟩), .pointer (some ⟨gt, 0, none⟩)] w fun e w' => e = .returned (.bool (hasPt f T i z)) ∧ Below w.heap.size w w' := by
  obtain ⟨t, rfl⟩ : ∃ t : Nat, z = t := ⟨z.toNat, by omega⟩
  have p6 := pow_le6 hN
  have HT := hid ht
  obtain ⟨At, ct, rfl, tl1, _, _⟩ := ht
  obtain ⟨A, c, rfl, l1, l2, hs⟩ := hf
  unfold maxLen at l2
  have xb := xor_bit t i (by omega) (by omega)
  have fb := (fl_lt N hN t i (by omega) (by omega) (by omega) hi).1
  have HP : Hid (hasPt f T i (t : Int) = ((bat f t != bat f (flN t i)) && decide (((flN t i : Nat) : Int) ∈ T))) := by
    show _ = _
    unfold hasPt fl
    rw [Int.toNat_natCast, Int.toNat_natCast]
  obtain ⟨bl, off, rfl, hb, hc⟩ := hs (by omega)
  have c4 := hc t (by omega)
  have c5 := hc (flN t i) (by omega)
  obtain ⟨u, hu⟩ : ∃ u, u = flN t i := ⟨_, rfl⟩
  rw [← hu] at xb fb HP c5
  have t1 : (t : Int) < (f.length : Int) := by omega
  have u1 : (u : Int) < (f.length : Int) := by omega
  obtain ⟨x, hx⟩ : ∃ x, x = bat f t := ⟨_, rfl⟩
  obtain ⟨y, hy⟩ : ∃ y, y = bat f u := ⟨_, rfl⟩
  rw [← hx] at c4 HP
  rw [← hy] at c5 HP
  have CO := hid (contains_any T (u : Int))
  generalize (2 ^ i : Nat) = p at *
  clear hs hc hx hy hu hz hl fb p6 tl1
  by_cases hxy : x = y
  · subst hxy
    have e0 : (x != x) = false := by cases x <;> rfl
    have HF : Hid (hasPt f T i (t : Int) = false) := by show _ = _; rw [HP.out, e0]; rfl
    clear e0
    cases x
    all_goals
      go_enter Tryd.func22, Tryd.ntmps22
      go_wp2_with fail
      go_upto_region 1 with fail
      go_quiet (fail)
      have B2 := hid (below_drewN (Below.refl w.heap.size w) nq)
      go_wp2_with fail
      go_ret
      exact ⟨by rw [HF.out]; rfl, B2.out⟩
  · have e0 : (x != y) = true := by cases x <;> cases y <;> first | rfl | exact absurd rfl hxy
    have HF : Hid (hasPt f T i (t : Int) = decide ((u : Int) ∈ T)) := by show _ = _; rw [HP.out, e0]; rfl
    have e1 : (x == y) = false := by cases x <;> cases y <;> first | rfl | exact absurd rfl hxy
    clear hxy
    go_enter Tryd.func22, Tryd.ntmps22
    go_wp2_with fail
    go_upto_region 1 with fail
    go_region_law (go_simp; go_at_call 23; refine (CO.out F _ w.drew (HT.out.keep (fun _ _ => rfl))).mono ?_; rintro e w2 ⟨rfl, rfl⟩)
    all_goals
      have B2 : Hid (Below w.heap.size w w.drew) := (Below.refl _ _).drew
      go_wp2_with fail
      go_ret
      exact ⟨by rw [HF.out]; rfl, B2.out⟩
end Go.Proofs.YtmhledlcfbjfkaaDoor
