/- What slices.IndexFunc returns at fours, for whatever function value that answers and writes nothing that was there. Condition: that function's contract. -/
import Derived.Test.YtkiljnggphlomaaDoorPha
namespace Go.Proofs.YtkiljnggphlomaaDoor
open Go.RowKit Go.Deep
def qIx (P : Four → Bool) (l : List Four) : Int := match l.findIdx? P with | some i => (i : Int) | none => -1
theorem qIx_none {P : Four → Bool} {l : List Four} (h : ∀ k, k < l.length → P (qAt l k) = false) : qIx P l = -1 := by
  unfold qIx
  rw [List.findIdx?_eq_none_iff.2]
  intro x hx
  obtain ⟨k, hk, rfl⟩ := List.getElem_of_mem hx
  have := h k hk
  unfold qAt at this
  rwa [List.getD_eq_getElem?_getD, List.getElem?_eq_getElem hk] at this
theorem qIx_hit {P : Four → Bool} {l : List Four} {j : Nat} (hj : j < l.length) (h : ∀ k, k < j → P (qAt l k) = false) (hp : P (qAt l j) = true) : qIx P l = j := by
  have e : ∀ k (hk : k < l.length), qAt l k = l[k] := fun k hk => by unfold qAt; rw [List.getD_eq_getElem?_getD, List.getElem?_eq_getElem hk]; rfl
  unfold qIx
  rw [(List.findIdx?_eq_some_iff_getElem (i := j)).2 ⟨hj, by rw [← e]; exact hp, fun k hk => by rw [← e]; rw [h k hk]; simp⟩]
set_option maxRecDepth 100000 in
set_option maxHeartbeats 1000000 in
theorem qix_any (P : Four → Bool) (S : Four → Prop) (fid : FuncId) (caps : Array Value) (l : List Four) (F : Nat → Prop) (v : Value) (w : World) (hF : ∀ b, F b → b < w.heap.size) (hv : QuadsIn F w v l) (hS : ∀ p ∈ l, S p) {B0 : Nat} (hB0 : B0 ≤ w.heap.size) (hf : AskQ fid caps P S B0 w) (hcf : ∀ (args : Array Value) (w : World), Sem.run Tryd.prog (callFunc fid args) w = .ok (.enter fid args) w) :
    Calls Tryd.prog 89 #[v, .func (Fn.func fid) #[] caps] w fun e w' => e = .returned (.int .i64 (qIx P l)) ∧ Below w.heap.size w w' := by
  have HF := hid hF
  have HA := hid hf
  have HB0 := hid hB0
  obtain ⟨A, c, rfl, h1, h3⟩ := hv
  have H3 := hid h3
  have HS := hid hS
  unfold maxLen at h1
  clear hF hf h3 hS hB0
  go_enter Tryd.func89, Tryd.ntmps89
  go_wp2_with fail
  go_loopw [5, 8] (fun _ iv wr => ∃ j : Nat, j ≤ l.length ∧ iv = .int .i64 j ∧ Hid (∀ k, k < j → P (qAt l k) = false) ∧ Hid (Below w.heap.size w wr)) (fun _ iv _ => l.length - (intOf iv).toNat)
  case atStart => exact ⟨0, Nat.zero_le _, rfl, fun k hk => by omega, Below.refl _ _⟩
  case round =>
    obtain ⟨j, hj, rfl, hold, hB⟩ := hrel
    have sB := hB.out.size
    by_cases hlt : j < l.length
    · obtain ⟨b, o, rfl, hb, hc⟩ := H3.out (by omega)
      have lb := HF.out b hb
      have c1 := (hB.out.cell (p := ⟨b, o + j * 4, none⟩) lb).trans (hc j hlt).1
      have c2 := (hB.out.cell (p := ⟨b, o + j * 4 + 1, none⟩) lb).trans (hc j hlt).2.1
      have c3 := (hB.out.cell (p := ⟨b, o + j * 4 + 2, none⟩) lb).trans (hc j hlt).2.2.1
      have c4 := (hB.out.cell (p := ⟨b, o + j * 4 + 3, none⟩) lb).trans (hc j hlt).2.2.2
      have i1 : (j : Int) < (l.length : Int) := by omega
      clear hc
      have WE := hid (HS.out _ (qAt_mem hlt))
      generalize hx : qAt l j = ee at c1 c2 c3 c4 WE
      obtain ⟨x, y, z, t⟩ := ee
      have HX := hid hx
      clear hx
      obtain ⟨wo, hwo⟩ : ∃ wo, wo = wr := ⟨_, rfl⟩
      subst hwo
      go_wp2_with fail
      refine (HA.out _ (x, y, z, t) WE.out (hB.out.mono HB0.out)).mono ?_
      rintro e w2 ⟨rfl, hb2⟩
      have B2 := hid (hB.out.trans (hb2.mono sB))
      clear hb2
      by_cases hp : P (x, y, z, t) = true
      · have E : Hid (qIx P l = j) := qIx_hit hlt hold.out (by rw [HX.out]; exact hp)
        rw [hp]
        clear hp
        go_wp2_with fail
        go_ret
        exact ⟨by rw [E.out]; rfl, B2.out⟩
      · have hp' : P (x, y, z, t) = false := by simpa using hp
        have N : Hid (∀ k, k < j + 1 → P (qAt l k) = false) := fun k hk => by
          by_cases hkj : k = j
          · subst hkj; rw [HX.out]; exact hp'
          · exact hold.out k (by omega)
        rw [hp']
        clear hp hp'
        go_wp2_with fail
        go_roundw
        case rel => exact ⟨j + 1, by omega, by go_num, N, B2⟩
        case measure => simp [intOf]; omega
    · have E : Hid (qIx P l = -1) := qIx_none fun k hk => hold.out k (by omega)
      go_wp2_with fail
      go_ret
      exact ⟨by rw [E.out]; rfl, hB.out⟩
end Go.Proofs.YtkiljnggphlomaaDoor
