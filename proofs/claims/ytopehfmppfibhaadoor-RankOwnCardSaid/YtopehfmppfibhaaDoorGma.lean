/- What gen's made does with Any, and with every right generator. Conditions: as for made. -/
import Derived.Test.YtopehfmppfibhaaDoorGmm
namespace Go.Proofs.YtopehfmppfibhaaDoor
open Go.RowKit Go.Deep
set_option maxRecDepth 100000 in
set_option maxHeartbeats 4000000 in
theorem made_pick (a b : Int) (s0 : List Ge) (ih : ∀ y ∈ s0, MadeOk y) {S : Type} {B0 : Nat} (fid : FuncId) (caps : Array Value) (R : S → (Nat → Prop) → World → Prop) (f : S → Int → Except Int (S × Int)) (s s' : S) (va : Va) (D F : Nat → Prop) (u v x c : Value) (w : World)
    (hcf : ∀ (args : Array Value) (w : World), Sem.run Tryd.prog (callFunc fid args) w = .ok (.enter fid args) w) (hC : Chooses B0 fid caps R f) (hF : ∀ b, F b → b < w.heap.size ∧ ¬ D b) (hx : GeIn F w (.mk 5 a b s0) u v x c) (hR : R s D w) (he : (Ge.mk 5 a b s0).err = 0) (hw : (Ge.mk 5 a b s0).wide) (hr : (Ge.mk 5 a b s0).made.run f s = .ok (s', va)) :
    Calls Tryd.prog 37 #[.func (Fn.func fid) #[] caps, .agg #[u, v, x, c]] w (MadePost R D s' w) := by
  have HC := hid hC
  have HR := hid hR
  have lo0 := (hC.lo _ _ _ hR).1
  have HF := hid hF
  have IH := hid ih
  have CF := hid hcf
  obtain ⟨A, cp, rfl, rfl, rfl, rfl, l1, l2, hs⟩ := hx.box
  have ne : 0 < s0.length := by
    have h1 := (Ge.err_parts he).1
    unfold oneE at h1
    rw [if_neg (by omega), if_neg (by omega), if_neg (by omega), if_pos rfl] at h1
    split at h1
    · omega
    · omega
  obtain ⟨bl, off, rfl, hFb, hex⟩ := hs ne
  have lb := HF.out bl hFb
  have ER := hid (Ge.err_parts he).2
  rw [Ge.wide] at hw
  have WD := hid (Ges.wide_mem hw.2)
  have sl := hw.1
  have RUN : Hid (∃ st0 x0, f s ((s0.length : Int) - 1) = .ok (st0, x0) ∧ ∀ X : Nat, x0 = X → ∀ h : X < s0.length, (s0[X]'h).made.run f st0 = .ok (s', va)) := by
    rw [Ge.made] at hr
    simp only [madeM, show ¬ ((5 : Int) = 1) by decide, show ¬ ((5 : Int) = 2) by decide, show ¬ ((5 : Int) = 3) by decide, show ¬ ((5 : Int) = 4) by decide, if_false, if_true] at hr
    obtain ⟨st0, x0, h1, h2⟩ := ask_ok hr
    rw [mades_len] at h1
    refine ⟨st0, x0, h1, fun X hX h => ?_⟩
    subst hX
    rw [Int.toNat_natCast, mades_getD s0 X h] at h2
    exact h2
  have W3 := hid (below3 w (.cells #[.int .i64 5, .int .i64 a, .int .i64 b, .slice (some ⟨bl, off, none⟩) s0.length cp] 24) (.cells #[.bool false, .int .i64 0, .slice none 0 0] 47) (.cells #[.bool true, .int .i64 0, .slice none 0 0] 47))
  have X3 := hid (boxes3 w (.cells #[.int .i64 5, .int .i64 a, .int .i64 b, .slice (some ⟨bl, off, none⟩) s0.length cp] 24) (.cells #[.bool false, .int .i64 0, .slice none 0 0] 47) (.cells #[.bool true, .int .i64 0, .slice none 0 0] 47))
  have DL := hid (HC.out.isIn _ _ _ HR.out)
  have HX := hid hex
  clear hC hR hF ih hs he hr hw hx hex hcf
  have hcf := CF.out
  go_enter Tryd.func37, Tryd.ntmps37
  go_upto_region 19 with fail
  have sz3 : (((w.alloc (.cells #[.int .i64 5, .int .i64 a, .int .i64 b, .slice (some ⟨bl, off, none⟩) s0.length cp] 24)).alloc (.cells #[.bool false, .int .i64 0, .slice none 0 0] 47)).alloc (.cells #[.bool true, .int .i64 0, .slice none 0 0] 47)).heap.size = w.heap.size + 3 := by simp
  have SZ := hid sz3
  clear sz3
  generalize (((w.alloc (.cells #[.int .i64 5, .int .i64 a, .int .i64 b, .slice (some ⟨bl, off, none⟩) s0.length cp] 24)).alloc (.cells #[.bool false, .int .i64 0, .slice none 0 0] 47)).alloc (.cells #[.bool true, .int .i64 0, .slice none 0 0] 47)) = w3 at *
  have x3 := Has.cell X3.out.1 3
  simp at x3
  have R3 := hid (HC.out.keep _ _ _ w3.drew HR.out (fun b hb => W3.out.block b (DL.out b hb)) (fun b hb => W3.out.block b (by omega)) (by show _ ≤ w3.heap.size; exact W3.out.size))
  have l3 : w.heap.size + 3 ≤ w3.heap.size := by have := SZ.out; omega
  have l4 : w3.heap.size ≤ w.heap.size + 3 := by have := SZ.out; omega
  have e1 : IntKind.i64.wrap ((s0.length : Int) - 1) = (s0.length : Int) - 1 := IntWalk.i64_in _ (by omega)
  have lF := hid lb
  go_region_law (first
    | (clear x3; go_simp; go_at_call 37; refine (PI.out S B0 fid caps R f st0 s' va D0 F _ _ _ _ w5 CF.out HC.out F5.out HY5.out R5.out EY.out WY.out RN.out).mono ?_; rintro e w6 ⟨lv, nv, Av5, len5, cp5, rfl, ho, D', hR', hD'⟩; have HO := hid ho; have HR' := hid hR'; have HD' := hid hD'; have Y6 := hid ((ho.2 (w.heap.size + 1) (by omega) (fun hd => by rcases D5.out _ hd with h | h; (have := DL.out _ h; omega); omega)).trans Y5.out); have y0 := Has.cell Y6.out 0; have y1 := Has.cell Y6.out 1; have y2 := Has.cell Y6.out 2; have f0 := Has.froz Y6.out 0; have f1 := Has.froz Y6.out 1; have f2 := Has.froz Y6.out 2; simp at y0 y1 y2; clear ho hR' hD')
    | (go_simp; refine (HC.out.ask s ((s0.length : Int) - 1) D w3.drew R3.out (by omega) (by omega) (by obtain ⟨st0, x0, h, _⟩ := RUN.out; exact ⟨st0, x0, h⟩)).mono ?_; intro e w5 hp; obtain ⟨st0, x0, hf0, hn0⟩ := RUN.out; obtain ⟨rfl, ho, D0, hR0, hD0⟩ := hp _ _ hf0; have hxb := HC.out.ans _ _ _ _ hf0 (by omega); obtain ⟨X, rfl⟩ : ∃ X : Nat, x0 = X := ⟨x0.toNat, by omega⟩; have hX : X < s0.length := (by omega); have PI := hid (IH.out (s0[X]'hX) (List.getElem_mem hX)); have EY := hid (ER.out (s0[X]'hX) (List.getElem_mem hX)); have WY := hid (WD.out (s0[X]'hX) (List.getElem_mem hX)); have RN := hid (hn0 X rfl hX); have lw5 : w3.heap.size ≤ w5.heap.size := ho.1.size; have SM : Hid (Same F w w5) := (fun b hb => (ho.2 b (by have := (HF.out b hb).1; show b < w3.heap.size; omega) (HF.out b hb).2).trans (W3.out.block b (HF.out b hb).1)); obtain ⟨a1, b1, c1, d1, q1, q2, q3, q4, hy⟩ := (GesIn.keep SM.out s0 hFb HX.out).at_ hX; obtain ⟨⟨k1, n1, p1, s1⟩, hy0⟩ : ∃ y, y = s0[X]'hX := ⟨_, rfl⟩; rw [← hy0] at hy PI EY WY RN; obtain ⟨A1, cp1, rfl, rfl, rfl, rfl, _, _, _⟩ := hy.box; have HY5 := hid hy; have R5 := hid hR0; have D5 : Hid (∀ x, D0 x → D x ∨ w3.heap.size ≤ x) := hD0; have F5 : Hid (∀ b, F b → b < w5.heap.size ∧ ¬ D0 b) := (fun b hb => ⟨by have := (HF.out b hb).1; omega, fun hd => by rcases hD0 b hd with h | h; exact (HF.out b hb).2 h; (have := (HF.out b hb).1; have h2 : w3.heap.size ≤ b := h; omega)⟩); have O5 : Hid (OutsD D w3.drew w5) := ho; have Y5 := hid ((ho.2 (w.heap.size + 1) (by show _ < w3.heap.size; omega) (fun hd => by have := DL.out _ hd; omega)).trans X3.out.2.1); have Y3 := (ho.2 w.heap.size (by show _ < w3.heap.size; omega) (fun hd => by have := DL.out _ hd; omega)).trans X3.out.1; have t3 := Has.cell Y3 3; simp at t3; have i1 : (X : Int) < (s0.length : Int) := (by omega); clear hp ho hf0 hn0 hR0 hD0 hxb hy hy0 Y3))
  all_goals
    have X6 := hid (set3 Y6.out (.bool lv) (.int .i64 nv) (.slice Av5 len5 cp5))
    go_wp2_with fail
    refine ⟨rfl, _, made_results _ _ _ _ _ _ _ _ rfl ((Has.cell X6.out.1 0).trans rfl) ((Has.cell X6.out.1 1).trans rfl) ((Has.cell X6.out.1 2).trans rfl), _, _, _, _, _, rfl, ?_, D', ?_, fun b h => ?_⟩
    · have h5 : OutsD D w w5 := (OutsD.below W3.out.drew (Nat.le_refl _)).trans O5.out fun b h => .inl h
      exact (h5.trans HO.out fun b h => by
        rcases D5.out b h with h | h
        · exact .inl h
        · exact .inr (by omega)).then_ X6.out.2.2.2 (by omega)
    · refine HC.out.keep _ _ _ _ HR'.out (fun b hb => X6.out.2.1 b fun e => ?_) (fun b hb => X6.out.2.1 b (by omega)) (Nat.le_of_eq X6.out.2.2.1.symm)
      rcases HD'.out b hb with h | h
      · rcases D5.out b h with h | h
        · have := DL.out b h; omega
        · omega
      · omega
    · rcases HD'.out b h with h | h
      · rcases D5.out b h with h | h
        · exact .inl h
        · exact .inr (by omega)
      · exact .inr (by omega)
theorem made_step (k a b : Int) (s0 : List Ge) (ih : ∀ y ∈ s0, MadeOk y) : MadeOk (.mk k a b s0) := by
  intro S B0 fid caps R f s s' va D F u v x c w hcf hC hF hx hR he hw hr
  by_cases k1 : k = 1
  · subst k1; exact made_just a b s0 fid caps R f s s' va D F u v x c w hC hx hR hr
  by_cases k2 : k = 2
  · subst k2; exact made_int a b s0 fid caps R f s s' va D F u v x c w hcf hC hx hR he hr
  by_cases k3 : k = 3
  · subst k3; exact made_both a b s0 ih fid caps R f s s' va D F u v x c w hcf hC hF hx hR he hw hr
  by_cases k4 : k = 4
  · subst k4
    have : s0.length = 1 := by
      have h1 := (Ge.err_parts he).1
      unfold oneE at h1
      rw [if_neg (by omega), if_pos rfl] at h1
      split at h1
      · omega
      · split at h1 <;> omega
    match s0, this with
    | [y], _ => exact made_many a b y (ih y (by simp)) fid caps R f s s' va D F u v x c w hcf hC hF hx hR he hw hr
  by_cases k5 : k = 5
  · subst k5; exact made_pick a b s0 ih fid caps R f s s' va D F u v x c w hcf hC hF hx hR he hw hr
  · have h1 := (Ge.err_parts he).1
    unfold oneE at h1
    rw [if_neg (by omega), if_neg k4, if_neg k3, if_neg k5] at h1
    omega
theorem made_any : ∀ g, MadeOk g := Ge.ind made_step
end Go.Proofs.YtopehfmppfibhaaDoor
