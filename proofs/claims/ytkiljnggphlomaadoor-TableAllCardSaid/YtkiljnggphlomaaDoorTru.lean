/- Rules (a test's bits, a deed) in memory; slices.IndexFunc and ContainsFunc at rules with a function value that asks whether a rule fits. Conditions: tests below 64. -/
import Derived.Test.YtkiljnggphlomaaDoorTbm
namespace Go.Proofs.YtkiljnggphlomaaDoor
open Go.RowKit Go.Deep
abbrev RuleL := List (Nat × Int)
def ruAt (l : RuleL) (i : Nat) : Nat × Int := l.getD i (0, 0)
def RulesIn (n : Nat) (F : Nat → Prop) (w : World) (v : Value) (l : RuleL) : Prop :=
  ∃ A c, v = .slice A l.length c ∧ (l.length ≤ c ∧ c ≤ maxLen) ∧
    (0 < l.length → ∃ b off, A = some ⟨b, off, none⟩ ∧ F b ∧ ∀ i, i < l.length → ∃ u, w.cell? ⟨b, off + i * 2, none⟩ = some u ∧ IntsIn .i64 F w u (bitsR n (ruAt l i).1) ∧ w.cell? ⟨b, off + i * 2 + 1, none⟩ = some (.int .i64 (ruAt l i).2))
theorem RulesIn.keep {n : Nat} {F : Nat → Prop} {w w' : World} {v : Value} {l : RuleL} (h : RulesIn n F w v l) (hs : Same F w w') : RulesIn n F w' v l := by
  obtain ⟨A, c, rfl, h1, h3⟩ := h
  refine ⟨A, c, rfl, h1, fun hn => ?_⟩
  obtain ⟨b, off, rfl, hF, hc⟩ := h3 hn
  refine ⟨b, off, rfl, hF, fun i hi => ?_⟩
  obtain ⟨u, c1, c2, c3⟩ := hc i hi
  exact ⟨u, (hs.cell (p := ⟨b, off + i * 2, none⟩) hF).trans c1, c2.keep hs, (hs.cell (p := ⟨b, off + i * 2 + 1, none⟩) hF).trans c3⟩
theorem RulesIn.more {n : Nat} {F F' : Nat → Prop} {w : World} {v : Value} {l : RuleL} (h : RulesIn n F w v l) (hF : ∀ b, F b → F' b) : RulesIn n F' w v l := by
  obtain ⟨A, c, rfl, h1, h3⟩ := h
  refine ⟨A, c, rfl, h1, fun hn => ?_⟩
  obtain ⟨b, off, rfl, hFb, hc⟩ := h3 hn
  refine ⟨b, off, rfl, hF _ hFb, fun i hi => ?_⟩
  obtain ⟨u, c1, c2, c3⟩ := hc i hi
  exact ⟨u, c1, c2.more hF, c3⟩
/-- a function value on rules that tells whether a rule fits test t -/
def AskF (n t : Nat) (fid : FuncId) (caps : Array Value) (B0 : Nat) (w0 : World) : Prop :=
  ∀ (w : World) (F : Nat → Prop) (u : Value) (x : Nat) (d : Int), (∀ b, F b → b < w.heap.size) → IntsIn .i64 F w u (bitsR n x) → Below B0 w0 w → Calls Tryd.prog fid (#[.agg #[u, .int .i64 d]] ++ caps) w fun e w' => e = .returned (.bool (fitB n x t)) ∧ Below w.heap.size w w'
theorem enter_which1 : ∀ (args : Array Value) (w : World), Sem.run Tryd.prog (callFunc 54 args) w = .ok (.enter 54 args) w := fun _ _ => by kernel_rfl
theorem enter_holes1 : ∀ (args : Array Value) (w : World), Sem.run Tryd.prog (callFunc 57 args) w = .ok (.enter 57 args) w := fun _ _ => by kernel_rfl
set_option maxHeartbeats 1000000 in
theorem which1_ask (n t g : Nat) (w0 : World) (hn : n ≤ 6) (ht : t < 64) (h : w0.cell? ⟨g, 0, none⟩ = some (.int .i64 t)) : AskF n t 54 #[.pointer (some ⟨g, 0, none⟩)] w0.heap.size w0 := by
  intro w F u x d hF hu hb
  show Calls Tryd.prog 54 #[_, .pointer (some ⟨g, 0, none⟩)] w _
  have c0 := (hb.cell (p := ⟨g, 0, none⟩) (cell_lt h)).trans h
  have lg := cell_lt c0
  have HU := hid hu
  have HF := hid hF
  obtain ⟨A, c, rfl, _, _⟩ := hu
  rw [bitsR_len] at HU ⊢
  have BX := hid ((Below.refl w.heap.size w).alloc (Nat.le_refl _) (.cells #[.slice A n c, .int .i64 d] 51))
  have X := Has.new w (.cells #[.slice A n c, .int .i64 d] 51)
  have c1 := (BX.out.cell (p := ⟨g, 0, none⟩) lg).trans c0
  clear hb h hF X
  go_enter Tryd.func54, Tryd.ntmps54
  go_wp2_with fail
  refine (fits_any n x t d F _ _ (fun b hb => by have := HF.out b hb; simp; omega) (HU.out.keep (Same.of_below BX.out HF.out)) hn ht).mono ?_
  rintro e w2 ⟨rfl, hb2⟩
  have B2 := hid (BX.out.trans (hb2.mono (by simp)))
  clear hb2
  go_wp2_with fail
  go_ret
  exact ⟨rfl, B2.out⟩
set_option maxHeartbeats 1000000 in
theorem holes1_ask (n t g : Nat) (w0 : World) (hn : n ≤ 6) (ht : t < 64) (h : w0.cell? ⟨g, 0, none⟩ = some (.int .i64 t)) : AskF n t 57 #[.pointer (some ⟨g, 0, none⟩)] w0.heap.size w0 := by
  intro w F u x d hF hu hb
  show Calls Tryd.prog 57 #[_, .pointer (some ⟨g, 0, none⟩)] w _
  have c0 := (hb.cell (p := ⟨g, 0, none⟩) (cell_lt h)).trans h
  have lg := cell_lt c0
  have HU := hid hu
  have HF := hid hF
  obtain ⟨A, c, rfl, _, _⟩ := hu
  rw [bitsR_len] at HU ⊢
  have BX := hid ((Below.refl w.heap.size w).alloc (Nat.le_refl _) (.cells #[.slice A n c, .int .i64 d] 51))
  have X := Has.new w (.cells #[.slice A n c, .int .i64 d] 51)
  have c1 := (BX.out.cell (p := ⟨g, 0, none⟩) lg).trans c0
  clear hb h hF X
  go_enter Tryd.func57, Tryd.ntmps57
  go_wp2_with fail
  refine (fits_any n x t d F _ _ (fun b hb => by have := HF.out b hb; simp; omega) (HU.out.keep (Same.of_below BX.out HF.out)) hn ht).mono ?_
  rintro e w2 ⟨rfl, hb2⟩
  have B2 := hid (BX.out.trans (hb2.mono (by simp)))
  clear hb2
  go_wp2_with fail
  go_ret
  exact ⟨rfl, B2.out⟩
def uIx (n t : Nat) (l : RuleL) : Int := match l.findIdx? (fun r => fitB n r.1 t) with | some i => (i : Int) | none => -1
theorem ruAt_get {l : RuleL} {k : Nat} (hk : k < l.length) : ruAt l k = l[k] := by unfold ruAt; rw [List.getD_eq_getElem?_getD, List.getElem?_eq_getElem hk]; rfl
theorem uIx_none {n t : Nat} {l : RuleL} (h : ∀ k, k < l.length → fitB n (ruAt l k).1 t = false) : uIx n t l = -1 := by
  unfold uIx
  rw [List.findIdx?_eq_none_iff.2]
  intro x hx
  obtain ⟨k, hk, rfl⟩ := List.getElem_of_mem hx
  rw [← ruAt_get hk]; exact h k hk
theorem uIx_hit {n t : Nat} {l : RuleL} {j : Nat} (hj : j < l.length) (h : ∀ k, k < j → fitB n (ruAt l k).1 t = false) (hp : fitB n (ruAt l j).1 t = true) : uIx n t l = j := by
  unfold uIx
  rw [(List.findIdx?_eq_some_iff_getElem (i := j)).2 ⟨hj, by rw [← ruAt_get]; exact hp, fun k hk => by rw [← ruAt_get]; rw [h k hk]; simp⟩]
theorem uIx_any (n t : Nat) (l : RuleL) : decide (0 ≤ uIx n t l) = l.any fun r => fitB n r.1 t := by
  unfold uIx
  cases h : l.findIdx? (fun r => fitB n r.1 t) with
  | none =>
    rw [List.findIdx?_eq_none_iff] at h
    have : l.any (fun r => fitB n r.1 t) = false := by rw [List.any_eq_false]; intro x hx; rw [h x hx]; simp
    rw [this]; rfl
  | some i =>
    obtain ⟨h1, h2, _⟩ := List.findIdx?_eq_some_iff_getElem.1 h
    have : l.any (fun r => fitB n r.1 t) = true := by rw [List.any_eq_true]; exact ⟨_, List.getElem_mem h1, h2⟩
    rw [this]; simp
set_option maxRecDepth 100000 in
set_option maxHeartbeats 1000000 in
theorem ruix_any (n t : Nat) (fid : FuncId) (caps : Array Value) (l : RuleL) (F : Nat → Prop) (v : Value) (w : World) (hF : ∀ b, F b → b < w.heap.size) (hv : RulesIn n F w v l) {B0 : Nat} (hB0 : B0 ≤ w.heap.size) (hf : AskF n t fid caps B0 w) (hcf : ∀ (args : Array Value) (w : World), Sem.run Tryd.prog (callFunc fid args) w = .ok (.enter fid args) w) :
    Calls Tryd.prog 53 #[v, .func (Fn.func fid) #[] caps] w fun e w' => e = .returned (.int .i64 (uIx n t l)) ∧ Below w.heap.size w w' := by
  have HF := hid hF
  have HA := hid hf
  have HB0 := hid hB0
  obtain ⟨A, c, rfl, h1, h3⟩ := hv
  have H3 := hid h3
  unfold maxLen at h1
  clear hF hf h3 hB0
  go_enter Tryd.func53, Tryd.ntmps53
  go_wp2_with fail
  go_loopw [5, 8] (fun _ iv wr => ∃ j : Nat, j ≤ l.length ∧ iv = .int .i64 j ∧ Hid (∀ k, k < j → fitB n (ruAt l k).1 t = false) ∧ Hid (Below w.heap.size w wr)) (fun _ iv _ => l.length - (intOf iv).toNat)
  case atStart => exact ⟨0, Nat.zero_le _, rfl, fun k hk => by omega, Below.refl _ _⟩
  case round =>
    obtain ⟨j, hj, rfl, hold, hB⟩ := hrel
    have sB := hB.out.size
    by_cases hlt : j < l.length
    · obtain ⟨b, o, rfl, hb, hc⟩ := H3.out (by omega)
      obtain ⟨r, hr, i2, hd⟩ := hc j hlt
      have lb := HF.out b hb
      have c1 := (hB.out.cell (p := ⟨b, o + j * 2, none⟩) lb).trans hr
      have c2 := (hB.out.cell (p := ⟨b, o + j * 2 + 1, none⟩) lb).trans hd
      have I2 := hid (i2.keep (Same.of_below hB.out HF.out))
      have i1 : (j : Int) < (l.length : Int) := by omega
      obtain ⟨A2, p2, rfl, _, _⟩ := i2
      clear hc hr hd
      obtain ⟨wo, hwo⟩ : ∃ wo, wo = wr := ⟨_, rfl⟩
      subst hwo
      go_wp2_with fail
      refine (HA.out _ F _ (ruAt l j).1 (ruAt l j).2 (fun b h => by have := HF.out b h; omega) I2.out (hB.out.mono HB0.out)).mono ?_
      rintro e w2 ⟨rfl, hb2⟩
      have B2 := hid (hB.out.trans (hb2.mono sB))
      clear hb2
      by_cases hp : fitB n (ruAt l j).1 t = true
      · have E : Hid (uIx n t l = j) := uIx_hit hlt hold.out hp
        rw [hp]
        clear hp
        go_wp2_with fail
        go_ret
        exact ⟨by rw [E.out]; rfl, B2.out⟩
      · have hp' : fitB n (ruAt l j).1 t = false := by simpa using hp
        have N : Hid (∀ k, k < j + 1 → fitB n (ruAt l k).1 t = false) := fun k hk => by
          by_cases hkj : k = j
          · subst hkj; exact hp'
          · exact hold.out k (by omega)
        rw [hp']
        clear hp hp'
        go_wp2_with fail
        go_roundw
        case rel => exact ⟨j + 1, by omega, by go_num, N, B2⟩
        case measure => simp [intOf]; omega
    · have E : Hid (uIx n t l = -1) := uIx_none fun k hk => hold.out k (by omega)
      go_wp2_with fail
      go_ret
      exact ⟨by rw [E.out]; rfl, hB.out⟩
set_option maxRecDepth 100000 in
set_option maxHeartbeats 1000000 in
theorem rucont_any (n t : Nat) (fid : FuncId) (caps : Array Value) (l : RuleL) (F : Nat → Prop) (v : Value) (w : World) (hF : ∀ b, F b → b < w.heap.size) (hv : RulesIn n F w v l) {B0 : Nat} (hB0 : B0 ≤ w.heap.size) (hf : AskF n t fid caps B0 w) (hcf : ∀ (args : Array Value) (w : World), Sem.run Tryd.prog (callFunc fid args) w = .ok (.enter fid args) w) :
    Calls Tryd.prog 56 #[v, .func (Fn.func fid) #[] caps] w fun e w' => e = .returned (.bool (l.any fun r => fitB n r.1 t)) ∧ Below w.heap.size w w' := by
  have HF := hid hF
  have HA := hid hf
  have HV := hid hv
  have HB0 := hid hB0
  have HC := hid hcf
  obtain ⟨A, c, rfl, h1, _⟩ := hv
  clear hF hf hB0 hcf
  go_enter Tryd.func56, Tryd.ntmps56
  go_wp2_with fail
  refine (ruix_any n t fid caps l F _ w HF.out HV.out HB0.out HA.out HC.out).mono ?_
  rintro e w2 ⟨rfl, hb2⟩
  have B2 := hid hb2
  have M := hid (uIx_any n t l)
  clear hb2
  go_wp2_with fail
  go_ret
  exact ⟨by rw [← M.out]; rfl, B2.out⟩
end Go.Proofs.YtkiljnggphlomaaDoor
