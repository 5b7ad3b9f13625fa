/- What pairs.has, slices.IndexFunc and ContainsFunc at rows, and missing's function values return. Conditions: the factors are the row's own. -/
import Derived.Test.YtkiljnggphlomaaDoorPal
import Derived.Test.YtkiljnggphlomaaDoorIxm
namespace Go.Proofs.YtkiljnggphlomaaDoor
open Go.RowKit Go.Deep
/-- a four whose factors are below n -/
def QOk (n : Nat) (p : Four) : Prop := ∃ a x b y : Nat, p = ((a : Int), (x : Int), (b : Int), (y : Int)) ∧ a < n ∧ b < n
set_option maxRecDepth 100000 in
set_option maxHeartbeats 1000000 in
theorem has_any (row : List Int) (p : Four) (F : Nat → Prop) (v : Value) (w : World) (hF : ∀ b, F b → b < w.heap.size) (hv : IntsIn .i64 F w v row) (hp : QOk row.length p) :
    Calls Tryd.prog 77 #[v, .agg #[.int .i64 p.1, .int .i64 p.2.1, .int .i64 p.2.2.1, .int .i64 p.2.2.2]] w fun e w' => e = .returned (.bool (hasP row p)) ∧ Below w.heap.size w w' := by
  obtain ⟨a, x, b, y, rfl, ha, hb⟩ := hp
  obtain ⟨A, c, rfl, h1, _, h3⟩ := hv
  obtain ⟨g, o, rfl, hg, hc⟩ := h3 (by omega)
  have lg := hF g hg
  unfold maxLen at h1
  have BX : Hid (Below w.heap.size w (w.alloc (.cells #[.int .i64 (a : Int), .int .i64 (x : Int), .int .i64 (b : Int), .int .i64 (y : Int)] 118))) := (Below.refl _ _).alloc (Nat.le_refl _) _
  have X := Has.new w (.cells #[.int .i64 (a : Int), .int .i64 (x : Int), .int .i64 (b : Int), .int .i64 (y : Int)] 118)
  have x0 := (Has.cell X 0).trans rfl
  have x1 := (Has.cell X 1).trans rfl
  have x2 := (Has.cell X 2).trans rfl
  have x3 := (Has.cell X 3).trans rfl
  have c1 := (BX.out.cell (p := ⟨g, o + a, none⟩) lg).trans (hc a ha)
  have c2 := (BX.out.cell (p := ⟨g, o + b, none⟩) lg).trans (hc b hb)
  have E : Hid (hasP row ((a : Int), (x : Int), (b : Int), (y : Int)) = (row.getD a 0 == (x : Int) && row.getD b 0 == (y : Int))) := rfl
  generalize row.getD a 0 = p at c1 E
  generalize row.getD b 0 = q at c2 E
  have i1 : (a : Int) < (row.length : Int) := by omega
  have i2 : (b : Int) < (row.length : Int) := by omega
  clear hc hF h3
  go_enter Tryd.func77, Tryd.ntmps77
  go_upto_region 1 with fail
  obtain ⟨w1, hw1⟩ : ∃ w1, w1 = w.alloc (.cells #[.int .i64 (a : Int), .int .i64 (x : Int), .int .i64 (b : Int), .int .i64 (y : Int)] 118) := ⟨_, rfl⟩
  rw [← hw1] at BX x0 x1 x2 x3 c1 c2 ⊢
  clear hw1 X
  by_cases e1 : p = (x : Int)
  · have z1 : (p == (x : Int)) = true := by simpa using e1
    have d1 : decide (p = (x : Int)) = true := by simpa using e1
    clear e1
    by_cases e2 : q = (y : Int)
    · have z2 : (q == (y : Int)) = true := by simpa using e2
      have d2 : decide (q = (y : Int)) = true := by simpa using e2
      clear e2
      go_quiet (fail)
      go_wp2_with fail
      go_ret
      exact ⟨by rw [E.out, z1, z2]; rfl, below_drewN BX.out _⟩
    · have z2 : (q == (y : Int)) = false := by simpa using e2
      have d2 : decide (q = (y : Int)) = false := by simpa using e2
      clear e2
      go_quiet (fail)
      go_wp2_with fail
      go_ret
      exact ⟨by rw [E.out, z1, z2]; rfl, below_drewN BX.out _⟩
  · have z1 : (p == (x : Int)) = false := by simpa using e1
    have d1 : decide (p = (x : Int)) = false := by simpa using e1
    clear e1
    go_quiet (fail)
    go_wp2_with fail
    go_ret
    exact ⟨by rw [E.out, z1]; rfl, below_drewN BX.out _⟩
theorem enter_has1 : ∀ (args : Array Value) (w : World), Sem.run Tryd.prog (callFunc 76 args) w = .ok (.enter 76 args) w := fun _ _ => by kernel_rfl
theorem enter_miss1 : ∀ (args : Array Value) (w : World), Sem.run Tryd.prog (callFunc 74 args) w = .ok (.enter 74 args) w := fun _ _ => by kernel_rfl
/-- a four that lies in a block -/
def FourAt (w : World) (g : Nat) (p : Four) : Prop := w.cell? ⟨g, 0, none⟩ = some (.int .i64 p.1) ∧ w.cell? ⟨g, 1, none⟩ = some (.int .i64 p.2.1) ∧ w.cell? ⟨g, 2, none⟩ = some (.int .i64 p.2.2.1) ∧ w.cell? ⟨g, 3, none⟩ = some (.int .i64 p.2.2.2)
/-- a function value on rows that answers -/
def AskR (fid : FuncId) (caps : Array Value) (P : List Int → Bool) (S : List Int → Prop) (B0 : Nat) (w0 : World) : Prop :=
  ∀ (w : World) (F : Nat → Prop) (u : Value) (row : List Int), (∀ b, F b → b < w.heap.size) → IntsIn .i64 F w u row → S row → Below B0 w0 w → Calls Tryd.prog fid (#[u] ++ caps) w fun e w' => e = .returned (.bool (P row)) ∧ Below w.heap.size w w'
set_option maxRecDepth 100000 in
set_option maxHeartbeats 1000000 in
theorem has1_ask (p : Four) (n : Nat) (g : Nat) (w0 : World) (hg : g < w0.heap.size) (h : FourAt w0 g p) (hp : QOk n p) : AskR 76 #[.pointer (some ⟨g, 0, none⟩)] (fun row => hasP row p) (fun row => row.length = n) w0.heap.size w0 := by
  intro w F u row hF hu hS hb
  show Calls Tryd.prog 76 #[u, .pointer (some ⟨g, 0, none⟩)] w _
  have x0 := (hb.cell (p := ⟨g, 0, none⟩) hg).trans h.1
  have x1 := (hb.cell (p := ⟨g, 1, none⟩) hg).trans h.2.1
  have x2 := (hb.cell (p := ⟨g, 2, none⟩) hg).trans h.2.2.1
  have x3 := (hb.cell (p := ⟨g, 3, none⟩) hg).trans h.2.2.2
  have HU := hid hu
  have HF := hid hF
  have HP := hid hp
  have HS := hid hS
  clear hb h hu hF hp hS
  go_enter Tryd.func76, Tryd.ntmps76
  go_wp2_with fail
  refine (has_any row p F u w HF.out HU.out (by rw [HS.out]; exact HP.out)).mono ?_
  rintro e w2 ⟨rfl, hb2⟩
  have B2 := hid hb2
  clear hb2
  go_wp2_with fail
  go_ret
  exact ⟨rfl, B2.out⟩
def rIx (P : List Int → Bool) (l : List (List Int)) : Int := match l.findIdx? P with | some i => (i : Int) | none => -1
theorem rowAt_get {l : List (List Int)} {k : Nat} (hk : k < l.length) : rowAt l k = l[k] := by
  unfold rowAt; rw [List.getD_eq_getElem?_getD, List.getElem?_eq_getElem hk]; rfl
theorem rIx_none {P : List Int → Bool} {l : List (List Int)} (h : ∀ k, k < l.length → P (rowAt l k) = false) : rIx P l = -1 := by
  unfold rIx
  rw [List.findIdx?_eq_none_iff.2]
  intro x hx
  obtain ⟨k, hk, rfl⟩ := List.getElem_of_mem hx
  rw [← rowAt_get hk]; exact h k hk
theorem rIx_hit {P : List Int → Bool} {l : List (List Int)} {j : Nat} (hj : j < l.length) (h : ∀ k, k < j → P (rowAt l k) = false) (hp : P (rowAt l j) = true) : rIx P l = j := by
  unfold rIx
  rw [(List.findIdx?_eq_some_iff_getElem (i := j)).2 ⟨hj, by rw [← rowAt_get]; exact hp, fun k hk => by rw [← rowAt_get]; rw [h k hk]; simp⟩]
theorem rIx_any (P : List Int → Bool) (l : List (List Int)) : decide (0 ≤ rIx P l) = l.any P := by
  unfold rIx
  cases h : l.findIdx? P with
  | none =>
    rw [List.findIdx?_eq_none_iff] at h
    have : l.any P = false := by rw [List.any_eq_false]; intro x hx; rw [h x hx]; simp
    rw [this]; rfl
  | some i =>
    obtain ⟨h1, h2, _⟩ := List.findIdx?_eq_some_iff_getElem.1 h
    have : l.any P = true := by rw [List.any_eq_true]; exact ⟨_, List.getElem_mem h1, h2⟩
    rw [this]; simp
set_option maxRecDepth 100000 in
set_option maxHeartbeats 1000000 in
theorem rix_any (P : List Int → Bool) (S : List Int → Prop) (fid : FuncId) (caps : Array Value) (l : List (List Int)) (F : Nat → Prop) (v : Value) (w : World) (hF : ∀ b, F b → b < w.heap.size) (hv : RowsIn F w v l) (hS : ∀ k, k < l.length → S (rowAt l k)) {B0 : Nat} (hB0 : B0 ≤ w.heap.size) (hf : AskR fid caps P S B0 w) (hcf : ∀ (args : Array Value) (w : World), Sem.run Tryd.prog (callFunc fid args) w = .ok (.enter fid args) w) :
    Calls Tryd.prog 90 #[v, .func (Fn.func fid) #[] caps] w fun e w' => e = .returned (.int .i64 (rIx P l)) ∧ Below w.heap.size w w' := by
  have HF := hid hF
  have HA := hid hf
  have HB0 := hid hB0
  have HS := hid hS
  obtain ⟨A, c, rfl, h1, h3⟩ := hv
  have H3 := hid h3
  unfold maxLen at h1
  clear hF hf h3 hB0 hS
  go_enter Tryd.func90, Tryd.ntmps90
  go_wp2_with fail
  go_loopw [5, 8] (fun _ iv wr => ∃ j : Nat, j ≤ l.length ∧ iv = .int .i64 j ∧ Hid (∀ k, k < j → P (rowAt l k) = false) ∧ Hid (Below w.heap.size w wr)) (fun _ iv _ => l.length - (intOf iv).toNat)
  case atStart => exact ⟨0, Nat.zero_le _, rfl, fun k hk => by omega, Below.refl _ _⟩
  case round =>
    obtain ⟨j, hj, rfl, hold, hB⟩ := hrel
    have sB := hB.out.size
    by_cases hlt : j < l.length
    · obtain ⟨b, o, rfl, hb, hc⟩ := H3.out (by omega)
      obtain ⟨r, hr, i2⟩ := hc j hlt
      have lb := HF.out b hb
      have c1 := (hB.out.cell (p := ⟨b, o + j, none⟩) lb).trans hr
      have I2 := hid (i2.keep (Same.of_below hB.out HF.out))
      have i1 : (j : Int) < (l.length : Int) := by omega
      clear hc i2 hr
      obtain ⟨wo, hwo⟩ : ∃ wo, wo = wr := ⟨_, rfl⟩
      subst hwo
      go_wp2_with fail
      refine (HA.out _ F r (rowAt l j) (fun b h => by have := HF.out b h; omega) I2.out (HS.out j hlt) (hB.out.mono HB0.out)).mono ?_
      rintro e w2 ⟨rfl, hb2⟩
      have B2 := hid (hB.out.trans (hb2.mono sB))
      clear hb2
      by_cases hp : P (rowAt l j) = true
      · have E : Hid (rIx P l = j) := rIx_hit hlt hold.out hp
        rw [hp]
        clear hp
        go_wp2_with fail
        go_ret
        exact ⟨by rw [E.out]; rfl, B2.out⟩
      · have hp' : P (rowAt l j) = false := by simpa using hp
        have N : Hid (∀ k, k < j + 1 → P (rowAt l k) = false) := fun k hk => by
          by_cases hkj : k = j
          · subst hkj; exact hp'
          · exact hold.out k (by omega)
        rw [hp']
        clear hp hp'
        go_wp2_with fail
        go_roundw
        case rel => exact ⟨j + 1, by omega, by go_num, N, B2⟩
        case measure => simp [intOf]; omega
    · have E : Hid (rIx P l = -1) := rIx_none fun k hk => hold.out k (by omega)
      go_wp2_with fail
      go_ret
      exact ⟨by rw [E.out]; rfl, hB.out⟩
set_option maxRecDepth 100000 in
set_option maxHeartbeats 1000000 in
theorem rcont_any (P : List Int → Bool) (S : List Int → Prop) (fid : FuncId) (caps : Array Value) (l : List (List Int)) (F : Nat → Prop) (v : Value) (w : World) (hF : ∀ b, F b → b < w.heap.size) (hv : RowsIn F w v l) (hS : ∀ k, k < l.length → S (rowAt l k)) {B0 : Nat} (hB0 : B0 ≤ w.heap.size) (hf : AskR fid caps P S B0 w) (hcf : ∀ (args : Array Value) (w : World), Sem.run Tryd.prog (callFunc fid args) w = .ok (.enter fid args) w) :
    Calls Tryd.prog 75 #[v, .func (Fn.func fid) #[] caps] w fun e w' => e = .returned (.bool (l.any P)) ∧ Below w.heap.size w w' := by
  have HF := hid hF
  have HA := hid hf
  have HV := hid hv
  have HB0 := hid hB0
  have HS := hid hS
  have HC := hid hcf
  obtain ⟨A, c, rfl, h1, _⟩ := hv
  clear hF hf hB0 hS hcf
  go_enter Tryd.func75, Tryd.ntmps75
  go_wp2_with fail
  refine (rix_any P S fid caps l F _ w HF.out HV.out HS.out HB0.out HA.out HC.out).mono ?_
  rintro e w2 ⟨rfl, hb2⟩
  have B2 := hid hb2
  have M := hid (rIx_any P l)
  clear hb2
  go_wp2_with fail
  go_ret
  exact ⟨by rw [← M.out]; rfl, B2.out⟩
/-- a function value on fours that answers -/
def AskQ (fid : FuncId) (caps : Array Value) (P : Four → Bool) (S : Four → Prop) (B0 : Nat) (w0 : World) : Prop :=
  ∀ (w : World) (p : Four), S p → Below B0 w0 w → Calls Tryd.prog fid (#[.agg #[.int .i64 p.1, .int .i64 p.2.1, .int .i64 p.2.2.1, .int .i64 p.2.2.2]] ++ caps) w fun e w' => e = .returned (.bool (P p)) ∧ Below w.heap.size w w'
set_option maxRecDepth 100000 in
set_option maxHeartbeats 1000000 in
theorem miss1_ask (rows : List (List Int)) (n : Nat) (g : Nat) (F : Nat → Prop) (u : Value) (w0 : World) (hg : g < w0.heap.size) (hc : w0.cell? ⟨g, 0, none⟩ = some u) (hF : ∀ b, F b → b < w0.heap.size) (hu : RowsIn F w0 u rows) (hn : ∀ k, k < rows.length → (rowAt rows k).length = n) :
    AskQ 74 #[.pointer (some ⟨g, 0, none⟩)] (fun p => rows.any fun r => hasP r p) (QOk n) w0.heap.size w0 := by
  intro w p hS hb
  show Calls Tryd.prog 74 #[_, .pointer (some ⟨g, 0, none⟩)] w _
  have c0 := (hb.cell (p := ⟨g, 0, none⟩) hg).trans hc
  have s0 := hb.size
  have HU := hid (hu.keep (Same.of_below hb hF))
  have HF : Hid (∀ b, F b → b < w.heap.size) := fun b h => by have := hF b h; omega
  obtain ⟨A, c, rfl, _, _⟩ := hu
  have HN := hid hn
  have HS := hid hS
  obtain ⟨x, y, z, t⟩ := p
  have X := Has.new w (.cells #[.int .i64 x, .int .i64 y, .int .i64 z, .int .i64 t] 118)
  have BX : Hid (Below w.heap.size w (w.alloc (.cells #[.int .i64 x, .int .i64 y, .int .i64 z, .int .i64 t] 118))) := (Below.refl _ _).alloc (Nat.le_refl _) _
  have X4 : Hid (FourAt (w.alloc (.cells #[.int .i64 x, .int .i64 y, .int .i64 z, .int .i64 t] 118)) w.heap.size (x, y, z, t)) := ⟨(Has.cell X 0).trans rfl, (Has.cell X 1).trans rfl, (Has.cell X 2).trans rfl, (Has.cell X 3).trans rfl⟩
  have c1 := (BX.out.cell (p := ⟨g, 0, none⟩) (by show g < _; omega)).trans c0
  clear hb hc hF hn hS X
  go_enter Tryd.func74, Tryd.ntmps74
  go_wp2_with fail
  refine (rcont_any (fun r => hasP r (x, y, z, t)) (fun r => r.length = n) 76 #[.pointer (some ⟨w.heap.size, 0, none⟩)] rows F _ _ (fun b h => by have := HF.out b h; simp; omega) (HU.out.keep (Same.of_below BX.out HF.out)) HN.out (Nat.le_refl _) (has1_ask (x, y, z, t) n w.heap.size _ (by simp) X4.out HS.out) enter_has1).mono ?_
  rintro e w2 ⟨rfl, hb2⟩
  have B2 := hid (BX.out.trans (hb2.mono (by simp)))
  clear hb2
  go_wp2_with fail
  go_ret
  exact ⟨rfl, B2.out⟩
end Go.Proofs.YtkiljnggphlomaaDoor
