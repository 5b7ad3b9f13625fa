/- slices.Contains at bools; slices.IndexFunc and ContainsFunc at integers, for a function value that answers and writes nothing that was there. Condition: that function's contract. -/
import Derived.Test.YtmhledlcfbjfkaaDoorCdk
import Derived.Test.YtmhledlcfbjfkaaDoorInd
namespace Go.Proofs.YtmhledlcfbjfkaaDoor
open Go.RowKit Go.Deep
set_option maxHeartbeats 1000000 in
theorem bindex_any (f : List Bool) (x : Bool) (F : Nat → Prop) (v : Value) (w : World) (hv : BoolsIn F w v f) :
    Calls Tryd.prog 40 #[v, .bool x] w fun e w' => (∃ m : Int, e = .returned (.int .i64 m) ∧ (0 ≤ m ↔ x ∈ f)) ∧ w = w' := by
  obtain ⟨A, c, rfl, h1, h2, h3⟩ := hv
  have H := hid h3
  unfold maxLen at h2
  have MEM : Hid (∀ j, j < f.length → bat f j ∈ f) := fun j hj => by
    unfold bat; rw [List.getD_eq_getElem?_getD, List.getElem?_eq_getElem hj]; exact List.getElem_mem hj
  have NONE : Hid ((∀ k, k < f.length → bat f k ≠ x) → x ∉ f) := fun h hm => by
    obtain ⟨j, hj, e⟩ := List.getElem_of_mem hm
    have := h j hj
    unfold bat at this
    rw [List.getD_eq_getElem?_getD, List.getElem?_eq_getElem hj] at this
    exact this e
  clear h3
  go_enter Tryd.func40, Tryd.ntmps40
  go_wp2_with fail
  go_loop [8] (fun i => ∃ j : Nat, j ≤ f.length ∧ i = .int .i64 j ∧ Hid (∀ k, k < j → bat f k ≠ x)) (fun i => f.length - (intOf i).toNat)
  case atStart => exact ⟨0, Nat.zero_le _, rfl, fun k hk => by omega⟩
  case round =>
    obtain ⟨j, hj, rfl, hold⟩ := hrel
    by_cases hlt : j < f.length
    · obtain ⟨b, o, rfl, _, hc⟩ := H.out (by omega)
      have c1 := hc j hlt
      have i1 : (j : Int) < (f.length : Int) := by omega
      have MJ := hid (MEM.out j hlt)
      clear hc
      obtain ⟨y, hy⟩ : ∃ y, y = bat f j := ⟨_, rfl⟩
      rw [← hy] at c1 MJ
      have HY := hid hy
      clear hy
      by_cases hxy : x = y
      · subst hxy
        have R : Hid (0 ≤ (j : Int) ↔ x ∈ f) := ⟨fun _ => MJ.out, fun _ => by omega⟩
        have e1 : (x == x) = true := by simp
        go_wp2_with fail
        go_ret
        exact ⟨⟨_, rfl, R.out⟩, rfl⟩
      · have e1 : (x == y) = false := by simp [hxy]
        have N : Hid (∀ k, k < j + 1 → bat f k ≠ x) := fun k hk => by
          by_cases hkj : k = j
          · subst hkj; rw [← HY.out]; exact fun h => hxy h.symm
          · exact hold.out k (by omega)
        cases x <;> cases y
        · exact absurd rfl hxy
        · clear hxy
          go_wp2_with fail
          go_round
          case rel => exact ⟨j + 1, by omega, by go_num, N⟩
          case measure => simp [intOf]; omega
        · clear hxy
          go_wp2_with fail
          go_round
          case rel => exact ⟨j + 1, by omega, by go_num, N⟩
          case measure => simp [intOf]; omega
        · exact absurd rfl hxy
    · obtain rfl : j = f.length := by omega
      have R : Hid (0 ≤ (-1 : Int) ↔ x ∈ f) := ⟨fun h => by omega, fun h => absurd h (NONE.out hold.out)⟩
      go_wp2_with fail
      go_ret
      exact ⟨⟨_, rfl, R.out⟩, rfl⟩
set_option maxHeartbeats 400000 in
theorem bcontains_any (f : List Bool) (x : Bool) (F : Nat → Prop) (v : Value) (w : World) (hv : BoolsIn F w v f) :
    Calls Tryd.prog 24 #[v, .bool x] w fun e w' => e = .returned (.bool (decide (x ∈ f))) ∧ w = w' := by
  have H := hid hv
  obtain ⟨A, c, rfl, _, _, _⟩ := hv
  go_enter Tryd.func24, Tryd.ntmps24
  go_wp2_with fail
  refine (bindex_any f x F _ w H.out).mono ?_
  rintro e w2 ⟨⟨m, rfl, hm⟩, rfl⟩
  have HM := hid hm
  clear hm
  go_wp2_with fail
  go_ret
  exact ⟨by rw [← decide_eq_decide.2 HM.out]; rfl, rfl⟩
def AskZ (fid : FuncId) (caps : Array Value) (P : Int → Bool) (zs : List Int) (B0 : Nat) (w0 : World) : Prop :=
  ∀ (w : World) (z : Int), z ∈ zs → Below B0 w0 w → Calls Tryd.prog fid (#[.int .i64 z] ++ caps) w fun e w' => e = .returned (.bool (P z)) ∧ Below w.heap.size w w'
set_option maxRecDepth 100000 in
set_option maxHeartbeats 1000000 in
theorem zix_any (P : Int → Bool) (fid : FuncId) (caps : Array Value) (zs : List Int) (F : Nat → Prop) (v : Value) (w : World) (hF : ∀ b, F b → b < w.heap.size) (hv : IntsIn .i64 F w v zs) {B0 : Nat} (hB0 : B0 ≤ w.heap.size) (hf : AskZ fid caps P zs B0 w) (hcf : ∀ (args : Array Value) (w : World), Sem.run Tryd.prog (callFunc fid args) w = .ok (.enter fid args) w) :
    Calls Tryd.prog 38 #[v, .func (Fn.func fid) #[] caps] w fun e w' => (∃ m : Int, e = .returned (.int .i64 m) ∧ (0 ≤ m ↔ zs.any P = true)) ∧ Below w.heap.size w w' := by
  have HF := hid hF
  have HA := hid hf
  have HB0 := hid hB0
  obtain ⟨A, c, rfl, h1, _, h3⟩ := hv
  have H3 := hid h3
  have AM : Hid (∀ k, k < zs.length → at0 zs k ∈ zs) := fun k hk => by unfold at0; rw [List.getD_eq_getElem?_getD, List.getElem?_eq_getElem hk]; exact List.getElem_mem hk
  have NO : Hid ((∀ k, k < zs.length → P (at0 zs k) = false) → zs.any P = false) := fun h => by
    rw [List.any_eq_false]
    intro x hx
    obtain ⟨k, hk, rfl⟩ := List.getElem_of_mem hx
    have := h k hk
    unfold at0 at this
    rw [List.getD_eq_getElem?_getD, List.getElem?_eq_getElem hk] at this
    simpa using this
  unfold maxLen at h1
  clear hF hf h3 hB0
  go_enter Tryd.func38, Tryd.ntmps38
  go_wp2_with fail
  go_loopw [5, 8] (fun _ iv wr => ∃ j : Nat, j ≤ zs.length ∧ iv = .int .i64 j ∧ Hid (∀ k, k < j → P (at0 zs k) = false) ∧ Hid (Below w.heap.size w wr)) (fun _ iv _ => zs.length - (intOf iv).toNat)
  case atStart => exact ⟨0, Nat.zero_le _, rfl, fun k hk => by omega, Below.refl _ _⟩
  case round =>
    obtain ⟨j, hj, rfl, hold, hB⟩ := hrel
    have sB := hB.out.size
    by_cases hlt : j < zs.length
    · obtain ⟨b, o, rfl, hb, hc⟩ := H3.out (by omega)
      have lb := HF.out b hb
      have c1 := (hB.out.cell (p := ⟨b, o + j, none⟩) lb).trans (hc j hlt)
      have EX : zs.getD j 0 = at0 zs j := rfl
      rw [EX] at c1
      have i1 : (j : Int) < (zs.length : Int) := by omega
      have AJ := hid (AM.out j hlt)
      clear hc EX
      obtain ⟨x, hx⟩ : ∃ x, x = at0 zs j := ⟨_, rfl⟩
      rw [← hx] at c1 AJ
      have HX := hid hx
      clear hx
      obtain ⟨wo, hwo⟩ : ∃ wo, wo = wr := ⟨_, rfl⟩
      subst hwo
      go_wp2_with fail
      refine (HA.out _ x AJ.out (hB.out.mono HB0.out)).mono ?_
      rintro e w2 ⟨rfl, hb2⟩
      have B2 := hid (hB.out.trans (hb2.mono sB))
      clear hb2
      by_cases hp : P x = true
      · have E : Hid (0 ≤ (j : Int) ↔ zs.any P = true) := ⟨fun _ => List.any_eq_true.2 ⟨x, AJ.out, hp⟩, fun _ => by omega⟩
        rw [hp]
        clear hp
        go_wp2_with fail
        go_ret
        exact ⟨⟨_, rfl, E.out⟩, B2.out⟩
      · have hp' : P x = false := by simpa using hp
        have N : Hid (∀ k, k < j + 1 → P (at0 zs k) = false) := fun k hk => by
          by_cases hkj : k = j
          · subst hkj; rw [← HX.out]; exact hp'
          · exact hold.out k (by omega)
        rw [hp']
        clear hp hp'
        go_wp2_with fail
        go_roundw
        case rel => exact ⟨j + 1, by omega, by go_num, N, B2⟩
        case measure => simp [intOf]; omega
    · obtain rfl : j = zs.length := by omega
      have E : Hid (0 ≤ (-1 : Int) ↔ zs.any P = true) := ⟨fun h => by omega, fun h => by rw [NO.out hold.out] at h; cases h⟩
      go_wp2_with fail
      go_ret
      exact ⟨⟨_, rfl, E.out⟩, hB.out⟩
set_option maxRecDepth 100000 in
set_option maxHeartbeats 1000000 in
theorem zcf_any (P : Int → Bool) (fid : FuncId) (caps : Array Value) (zs : List Int) (F : Nat → Prop) (v : Value) (w : World) (hF : ∀ b, F b → b < w.heap.size) (hv : IntsIn .i64 F w v zs) {B0 : Nat} (hB0 : B0 ≤ w.heap.size) (hf : AskZ fid caps P zs B0 w) (hcf : ∀ (args : Array Value) (w : World), Sem.run Tryd.prog (callFunc fid args) w = .ok (.enter fid args) w) :
    Calls Tryd.prog 21 #[v, .func (Fn.func fid) #[] caps] w fun e w' => e = .returned (.bool (zs.any P)) ∧ Below w.heap.size w w' := by
  have ZA := hid (zix_any P fid caps zs F v w hF hv hB0 hf hcf)
  obtain ⟨A, c, rfl, h1, _, _⟩ := hv
  clear hF hf hcf hB0 h1
  go_enter Tryd.func21, Tryd.ntmps21
  go_wp2_with fail
  refine ZA.out.mono ?_
  rintro e w2 ⟨⟨m, rfl, hm⟩, hb⟩
  have HM : Hid (decide (0 ≤ m) = zs.any P) := by
    show _ = _
    cases ha : zs.any P with
    | true => rw [decide_eq_true_eq]; exact hm.2 ha
    | false => rw [decide_eq_false_iff_not]; intro h; have := hm.1 h; rw [ha] at this; cases this
  have B2 := hid hb
  clear hm hb
  go_wp2_with fail
  go_ret
  exact ⟨by rw [← HM.out]; rfl, B2.out⟩
end Go.Proofs.YtmhledlcfbjfkaaDoor
