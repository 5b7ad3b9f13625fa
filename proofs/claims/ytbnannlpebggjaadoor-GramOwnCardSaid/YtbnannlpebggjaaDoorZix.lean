/- slices.IndexFunc and ContainsFunc at integers, for a function value of unknown number. Condition: its contract. -/
import Derived.Test.YtbnannlpebggjaaDoorIxm
namespace Go.Proofs.YtbnannlpebggjaaDoor
open Go.RowKit
def AskZ (fid : FuncId) (caps : Array Value) (P : Int → Bool) (zs : List Int) (B0 : Nat) (w0 : World) : Prop :=
  ∀ (w : World) (z : Int), z ∈ zs → Below B0 w0 w → Calls Tryd.prog fid (#[.int .i64 z] ++ caps) w fun e w' => e = .returned (.bool (P z)) ∧ Below w.heap.size w w'
set_option maxRecDepth 100000 in
set_option maxHeartbeats 1000000 in
theorem zix_any (P : Int → Bool) (fid : FuncId) (caps : Array Value) (zs : List Int) (F : Nat → Prop) (v : Value) (w : World) (hF : ∀ b, F b → b < w.heap.size) (hv : IntsIn .i64 F w v zs) {B0 : Nat} (hB0 : B0 ≤ w.heap.size) (hf : AskZ fid caps P zs B0 w) (hcf : ∀ (args : Array Value) (w : World), Sem.run Tryd.prog (callFunc fid args) w = .ok (.enter fid args) w) :
    Calls Tryd.prog 21 #[v, .func (Fn.func fid) #[] caps] w fun e w' => (∃ m : Int, e = .returned (.int .i64 m) ∧ (0 ≤ m ↔ zs.any P = true)) ∧ Below w.heap.size w w' := by
  have HF := hid hF
  have HA := hid hf
  have HB0 := hid hB0
  obtain ⟨A, c, rfl, h1, _, h3⟩ := hv
  have H3 := hid h3
  have AM : Hid (∀ k, k < zs.length → at0 zs k ∈ zs) := fun k hk => by unfold at0; rw [List.getD_eq_getElem?_getD, List.getElem?_eq_getElem hk]; exact List.getElem_mem hk
  have NO : Hid ((∀ k, k < zs.length → P (at0 zs k) = false) → zs.any P = false) := fun h => by
    rw [List.any_eq_false]
    intro x hx
    obtain ⟨k, hk, rfl⟩ := List.getElem_of_mem hx
    have := h k hk
    unfold at0 at this
    rw [List.getD_eq_getElem?_getD, List.getElem?_eq_getElem hk] at this
    simpa using this
  unfold maxLen at h1
  clear hF hf h3 hB0
  go_enter Tryd.func21, Tryd.ntmps21
  go_wp2_with fail
  go_loopw [5, 8] (fun _ iv wr => ∃ j : Nat, j ≤ zs.length ∧ iv = .int .i64 j ∧ Hid (∀ k, k < j → P (at0 zs k) = false) ∧ Hid (Below w.heap.size w wr)) (fun _ iv _ => zs.length - (intOf iv).toNat)
  case atStart => exact ⟨0, Nat.zero_le _, rfl, fun k hk => by omega, Below.refl _ _⟩
  case round =>
    obtain ⟨j, hj, rfl, hold, hB⟩ := hrel
    have sB := hB.out.size
    by_cases hlt : j < zs.length
    · obtain ⟨b, o, rfl, hb, hc⟩ := H3.out (by omega)
      have lb := HF.out b hb
      have c1 := (hB.out.cell (p := ⟨b, o + j, none⟩) lb).trans (hc j hlt)
      have EX : zs.getD j 0 = at0 zs j := rfl
      rw [EX] at c1
      have i1 : (j : Int) < (zs.length : Int) := by omega
      have AJ := hid (AM.out j hlt)
      clear hc EX
      obtain ⟨x, hx⟩ : ∃ x, x = at0 zs j := ⟨_, rfl⟩
      rw [← hx] at c1 AJ
      have HX := hid hx
      clear hx
      obtain ⟨wo, hwo⟩ : ∃ wo, wo = wr := ⟨_, rfl⟩
      subst hwo
      go_wp2_with fail
      refine (HA.out _ x AJ.out (hB.out.mono HB0.out)).mono ?_
      rintro e w2 ⟨rfl, hb2⟩
      have B2 := hid (hB.out.trans (hb2.mono sB))
      clear hb2
      by_cases hp : P x = true
      · have E : Hid (0 ≤ (j : Int) ↔ zs.any P = true) := ⟨fun _ => List.any_eq_true.2 ⟨x, AJ.out, hp⟩, fun _ => by omega⟩
        rw [hp]
        clear hp
        go_wp2_with fail
        go_ret
        exact ⟨⟨_, rfl, E.out⟩, B2.out⟩
      · have hp' : P x = false := by simpa using hp
        have N : Hid (∀ k, k < j + 1 → P (at0 zs k) = false) := fun k hk => by
          by_cases hkj : k = j
          · subst hkj; rw [← HX.out]; exact hp'
          · exact hold.out k (by omega)
        rw [hp']
        clear hp hp'
        go_wp2_with fail
        go_roundw
        case rel => exact ⟨j + 1, by omega, by go_num, N, B2⟩
        case measure => simp [intOf]; omega
    · obtain rfl : j = zs.length := by omega
      have E : Hid (0 ≤ (-1 : Int) ↔ zs.any P = true) := ⟨fun h => by omega, fun h => by rw [NO.out hold.out] at h; cases h⟩
      go_wp2_with fail
      go_ret
      exact ⟨⟨_, rfl, E.out⟩, hB.out⟩
set_option maxRecDepth 100000 in
set_option maxHeartbeats 1000000 in
theorem zcf_any (P : Int → Bool) (fid : FuncId) (caps : Array Value) (zs : List Int) (F : Nat → Prop) (v : Value) (w : World) (hF : ∀ b, F b → b < w.heap.size) (hv : IntsIn .i64 F w v zs) {B0 : Nat} (hB0 : B0 ≤ w.heap.size) (hf : AskZ fid caps P zs B0 w) (hcf : ∀ (args : Array Value) (w : World), Sem.run Tryd.prog (callFunc fid args) w = .ok (.enter fid args) w) :
    Calls Tryd.prog 15 #[v, .func (Fn.func fid) #[] caps] w fun e w' => e = .returned (.bool (zs.any P)) ∧ Below w.heap.size w w' := by
  have ZA := hid (zix_any P fid caps zs F v w hF hv hB0 hf hcf)
  obtain ⟨A, c, rfl, h1, _, _⟩ := hv
  clear hF hf hcf hB0 h1
  go_enter Tryd.func15, Tryd.ntmps15
  go_wp2_with fail
  refine ZA.out.mono ?_
  rintro e w2 ⟨⟨m, rfl, hm⟩, hb⟩
  have HM : Hid (decide (0 ≤ m) = zs.any P) := by
    show _ = _
    cases ha : zs.any P with
    | true => rw [decide_eq_true_eq]; exact hm.2 ha
    | false => rw [decide_eq_false_iff_not]; intro h; have := hm.1 h; rw [ha] at this; cases this
  have B2 := hid hb
  clear hm hb
  go_wp2_with fail
  go_ret
  exact ⟨by rw [← HM.out]; rfl, B2.out⟩
end Go.Proofs.YtbnannlpebggjaaDoor
