/- What slices.IndexFunc returns at edges, for whatever function value that answers and writes nothing that was there; what DeleteFunc returns where it is never true. Condition: that function's contract. -/
import Derived.Test.YtkiljnggphlomaaEdo
namespace Go.Proofs.Ytkiljnggphlomaa
open Go.RowKit Go.Deep
def eIx (P : Int × Int → Bool) (l : EdgeL) : Int := match l.findIdx? P with | some i => (i : Int) | none => -1
theorem eIx_none {P : Int × Int → Bool} {l : EdgeL} (h : ∀ k, k < l.length → P (eAt l k) = false) : eIx P l = -1 := by
  unfold eIx
  rw [List.findIdx?_eq_none_iff.2]
  intro x hx
  obtain ⟨k, hk, rfl⟩ := List.getElem_of_mem hx
  have := h k hk
  unfold eAt at this
  rwa [List.getD_eq_getElem?_getD, List.getElem?_eq_getElem hk] at this
theorem eIx_hit {P : Int × Int → Bool} {l : EdgeL} {j : Nat} (hj : j < l.length) (h : ∀ k, k < j → P (eAt l k) = false) (hp : P (eAt l j) = true) : eIx P l = j := by
  have e : ∀ k (hk : k < l.length), eAt l k = l[k] := fun k hk => by unfold eAt; rw [List.getD_eq_getElem?_getD, List.getElem?_eq_getElem hk]; rfl
  unfold eIx
  rw [(List.findIdx?_eq_some_iff_getElem (i := j)).2 ⟨hj, by rw [← e]; exact hp, fun k hk => by rw [← e]; rw [h k hk]; simp⟩]
def AskE (fid : FuncId) (caps : Array Value) (P : Int × Int → Bool) (B0 : Nat) (w0 : World) : Prop :=
  ∀ (w : World) (a b : Int), wf64 a ∧ wf64 b → Below B0 w0 w → Calls Try.prog fid (#[.agg #[.int .i64 a, .int .i64 b]] ++ caps) w fun e w' => e = .returned (.bool (P (a, b))) ∧ Below w.heap.size w w'
set_option maxRecDepth 100000 in
set_option maxHeartbeats 1000000 in
theorem eix_any (P : Int × Int → Bool) (fid : FuncId) (caps : Array Value) (l : EdgeL) (F : Nat → Prop) (v : Value) (w : World) (hF : ∀ b, F b → b < w.heap.size) (hv : EdgesIn F w v l) {B0 : Nat} (hB0 : B0 ≤ w.heap.size) (hf : AskE fid caps P B0 w) (hcf : ∀ (args : Array Value) (w : World), Sem.run Try.prog (callFunc fid args) w = .ok (.enter fid args) w) :
    Calls Try.prog 34 #[v, .func (Fn.func fid) #[] caps] w fun e w' => e = .returned (.int .i64 (eIx P l)) ∧ Below w.heap.size w w' := by
  have HF := hid hF
  have HA := hid hf
  have HB0 := hid hB0
  obtain ⟨A, c, rfl, h1, hwf, h3⟩ := hv
  have H3 := hid h3
  have WF := hid hwf
  unfold maxLen at h1
  clear hF hf h3 hwf hB0
  go_enter Try.func34, Try.ntmps34
  go_wp2_with fail
  go_loopw [5, 8] (fun _ iv wr => ∃ j : Nat, j ≤ l.length ∧ iv = .int .i64 j ∧ Hid (∀ k, k < j → P (eAt l k) = false) ∧ Hid (Below w.heap.size w wr)) (fun _ iv _ => l.length - (intOf iv).toNat)
  case atStart => exact ⟨0, Nat.zero_le _, rfl, fun k hk => by omega, Below.refl _ _⟩
  case round =>
    obtain ⟨j, hj, rfl, hold, hB⟩ := hrel
    have sB := hB.out.size
    by_cases hlt : j < l.length
    · obtain ⟨b, o, rfl, hb, hc⟩ := H3.out (by omega)
      have lb := HF.out b hb
      have c1 := (hB.out.cell (p := ⟨b, o + j * 2, none⟩) lb).trans (hc j hlt).1
      have c2 := (hB.out.cell (p := ⟨b, o + j * 2 + 1, none⟩) lb).trans (hc j hlt).2
      have i1 : (j : Int) < (l.length : Int) := by omega
      clear hc
      have WE := hid (WF.out _ (eAt_mem hlt))
      generalize hx : eAt l j = ee at c1 c2 WE
      obtain ⟨x, y⟩ := ee
      have HX := hid hx
      clear hx
      obtain ⟨wo, hwo⟩ : ∃ wo, wo = wr := ⟨_, rfl⟩
      subst hwo
      go_wp2_with fail
      refine (HA.out _ x y WE.out (hB.out.mono HB0.out)).mono ?_
      rintro e w2 ⟨rfl, hb2⟩
      have B2 := hid (hB.out.trans (hb2.mono sB))
      clear hb2
      by_cases hp : P (x, y) = true
      · have E : Hid (eIx P l = j) := eIx_hit hlt hold.out (by rw [HX.out]; exact hp)
        rw [hp]
        clear hp
        go_wp2_with fail
        go_ret
        exact ⟨by rw [E.out]; rfl, B2.out⟩
      · have hp' : P (x, y) = false := by simpa using hp
        have N : Hid (∀ k, k < j + 1 → P (eAt l k) = false) := fun k hk => by
          by_cases hkj : k = j
          · subst hkj; rw [HX.out]; exact hp'
          · exact hold.out k (by omega)
        rw [hp']
        clear hp hp'
        go_wp2_with fail
        go_roundw
        case rel => exact ⟨j + 1, by omega, by go_num, N, B2⟩
        case measure => simp [intOf]; omega
    · have E : Hid (eIx P l = -1) := eIx_none fun k hk => hold.out k (by omega)
      go_wp2_with fail
      go_ret
      exact ⟨by rw [E.out]; rfl, hB.out⟩
set_option maxRecDepth 100000 in
set_option maxHeartbeats 1000000 in
theorem edel_none (fid : FuncId) (caps : Array Value) (l : EdgeL) (F : Nat → Prop) (v : Value) (w : World) (hF : ∀ b, F b → b < w.heap.size) (hv : EdgesIn F w v l) (hf : AskE fid caps (fun _ => false) w.heap.size w) (hcf : ∀ (args : Array Value) (w : World), Sem.run Try.prog (callFunc fid args) w = .ok (.enter fid args) w) :
    Calls Try.prog 22 #[v, .func (Fn.func fid) #[] caps] w fun e w' => e = .returned v ∧ Below w.heap.size w w' := by
  have HF := hid hF
  have HA := hid hf
  have H := hid hv
  obtain ⟨A, c, rfl, h1, _, h3⟩ := hv
  have HC := hid hcf
  unfold maxLen at h1
  clear hF hf h3 hcf
  go_enter Try.func22, Try.ntmps22
  go_wp2_with fail
  refine (eix_any (fun _ => false) fid caps l F _ w HF.out H.out (Nat.le_refl _) HA.out HC.out).mono ?_
  rintro e w2 ⟨rfl, hb2⟩
  have B2 := hid hb2
  rw [eIx_none (fun _ _ => rfl)]
  clear hb2
  go_wp2_with fail
  go_ret
  exact ⟨rfl, B2.out⟩
end Go.Proofs.Ytkiljnggphlomaa
