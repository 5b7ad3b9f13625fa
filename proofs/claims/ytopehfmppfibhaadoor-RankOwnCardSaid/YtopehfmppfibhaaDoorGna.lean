/- What gen's made does with Any, and with every right generator: a value, or a panic where the chooser panics. Conditions: as for made. -/
import Derived.Test.YtopehfmppfibhaaDoorGnm
import Derived.Test.YtopehfmppfibhaaDoorHle
namespace Go.Proofs.YtopehfmppfibhaaDoor
open Go.RowKit Go.Deep
set_option maxRecDepth 100000 in
set_option maxHeartbeats 4000000 in
theorem madeP_pick (a b : Int) (s0 : List Ge) (ih : ∀ y ∈ s0, MadeOkP y) {S : Type} {B0 : Nat} (fid : FuncId) (caps : Array Value) (R : S → (Nat → Prop) → World → Prop) (f : S → Int → Except Int (S × Int)) (s : S) (D F : Nat → Prop) (u v x c : Value) (w : World)
    (hcf : ∀ (args : Array Value) (w : World), Sem.run Tryd.prog (callFunc fid args) w = .ok (.enter fid args) w) (hC : ChoosesP B0 fid caps R f) (hF : ∀ b, F b → b < w.heap.size ∧ ¬ D b) (hx : GeIn F w (.mk 5 a b s0) u v x c) (hR : R s D w) (he : (Ge.mk 5 a b s0).err = 0) (hw : (Ge.mk 5 a b s0).wide) (hN : ∀ c, (Ge.mk 5 a b s0).made.run f s = .error c → c ≠ 0) :
    Calls Tryd.prog 37 #[.func (Fn.func fid) #[] caps, .agg #[u, v, x, c]] w (MadeP R D ((Ge.mk 5 a b s0).made.run f s) w) := by
  have HC := hid hC
  have HR := hid hR
  have lo0 := (hC.lo _ _ _ hR).1
  have HF := hid hF
  have IH := hid ih
  have CF := hid hcf
  obtain ⟨A, cp, rfl, rfl, rfl, rfl, l1, l2, hs⟩ := hx.box
  have ne : 0 < s0.length := by
    have h1 := (Ge.err_parts he).1
    unfold oneE at h1
    rw [if_neg (by omega), if_neg (by omega), if_neg (by omega), if_pos rfl] at h1
    split at h1
    · omega
    · omega
  obtain ⟨bl, off, rfl, hFb, hex⟩ := hs ne
  have lb := HF.out bl hFb
  have ER := hid (Ge.err_parts he).2
  rw [Ge.wide] at hw
  have WD := hid (Ges.wide_mem hw.2)
  have sl := hw.1
  have RUN : Hid ((Ge.mk 5 a b s0).made.run f s = thenR (f s ((s0.length : Int) - 1)) fun st0 x0 => ((Ges.mades s0).getD x0.toNat (.done default)).run f st0) := by
    show _ = _
    rw [Ge.made]
    simp only [madeM, show ¬ ((5 : Int) = 1) by decide, show ¬ ((5 : Int) = 2) by decide, show ¬ ((5 : Int) = 3) by decide, show ¬ ((5 : Int) = 4) by decide, if_false, if_true]
    rw [Ch.run, mades_len]
    cases f s ((s0.length : Int) - 1) with
    | error c => rfl
    | ok p => rfl
  rw [RUN.out] at hN ⊢
  have AN := hid (hC.ans s ((s0.length : Int) - 1))
  have NZ0 : Hid (∀ c, f s ((s0.length : Int) - 1) = .error c → c ≠ 0) := fun c h => hN c (by rw [h]; rfl)
  have ASK := hid (hC.ask s ((s0.length : Int) - 1) D)
  generalize f s ((s0.length : Int) - 1) = r at *
  have W3 := hid (below3 w (.cells #[.int .i64 5, .int .i64 a, .int .i64 b, .slice (some ⟨bl, off, none⟩) s0.length cp] 24) (.cells #[.bool false, .int .i64 0, .slice none 0 0] 47) (.cells #[.bool true, .int .i64 0, .slice none 0 0] 47))
  have X3 := hid (boxes3 w (.cells #[.int .i64 5, .int .i64 a, .int .i64 b, .slice (some ⟨bl, off, none⟩) s0.length cp] 24) (.cells #[.bool false, .int .i64 0, .slice none 0 0] 47) (.cells #[.bool true, .int .i64 0, .slice none 0 0] 47))
  have DL := hid (HC.out.isIn _ _ _ HR.out)
  have HX := hid hex
  have HN := hid hN
  clear hC hR hF ih hs he hw hx hex hcf RUN hN
  have hcf := CF.out
  go_enter Tryd.func37, Tryd.ntmps37
  go_upto_region 19 with fail
  have sz3 : (((w.alloc (.cells #[.int .i64 5, .int .i64 a, .int .i64 b, .slice (some ⟨bl, off, none⟩) s0.length cp] 24)).alloc (.cells #[.bool false, .int .i64 0, .slice none 0 0] 47)).alloc (.cells #[.bool true, .int .i64 0, .slice none 0 0] 47)).heap.size = w.heap.size + 3 := by simp
  have SZ := hid sz3
  clear sz3
  generalize (((w.alloc (.cells #[.int .i64 5, .int .i64 a, .int .i64 b, .slice (some ⟨bl, off, none⟩) s0.length cp] 24)).alloc (.cells #[.bool false, .int .i64 0, .slice none 0 0] 47)).alloc (.cells #[.bool true, .int .i64 0, .slice none 0 0] 47)) = w3 at *
  have x3 := Has.cell X3.out.1 3
  simp at x3
  have R3 := hid (HC.out.keep _ _ _ w3.drew HR.out (fun b hb => W3.out.block b (DL.out b hb)) (fun b hb => W3.out.block b (by omega)) (by show _ ≤ w3.heap.size; exact W3.out.size))
  have l3 : w.heap.size + 3 ≤ w3.heap.size := by have := SZ.out; omega
  have l4 : w3.heap.size ≤ w.heap.size + 3 := by have := SZ.out; omega
  have e1 : IntKind.i64.wrap ((s0.length : Int) - 1) = (s0.length : Int) - 1 := IntWalk.i64_in _ (by omega)
  have lF := hid lb
  cases r with
  | error cc =>
    go_region_dies
    all_goals
      go_simp
      refine (ASK.out w3.drew R3.out (by omega) (by omega) NZ0.out).mono ?_
      rintro e w5 ⟨ho, he⟩
      simp only at he
      subst he
      exact ⟨rfl, (OutsD.below W3.out.drew (Nat.le_refl _)).trans ho fun b h => .inl h, rfl⟩
  | ok p =>
    obtain ⟨st0, x0⟩ := p
    have hxb := AN.out st0 x0 rfl (by omega)
    obtain ⟨X, rfl⟩ : ∃ X : Nat, x0 = X := ⟨x0.toNat, by omega⟩
    have hX : X < s0.length := by omega
    have i1 : (X : Int) < (s0.length : Int) := by omega
    have HN2 := hid HN.out
    simp only [thenR] at HN2
    rw [Int.toNat_natCast, mades_getD s0 X hX] at HN2
    have NYY : Hid (∀ c, (s0[X]'hX).made.run f st0 = .error c → c ≠ 0) := HN2
    obtain ⟨ry, hry⟩ : ∃ ry, (s0[X]'hX).made.run f st0 = ry := ⟨_, rfl⟩
    have RYY := hid hry
    have GL : Hid (thenR (Except.ok (st0, (X : Int)) : Except Int (S × Int)) (fun st0 x0 => ((Ges.mades s0).getD x0.toNat (.done default)).run f st0) = ry) := by
      show ((Ges.mades s0).getD (X : Int).toNat (.done default)).run f st0 = ry
      rw [Int.toNat_natCast, mades_getD s0 X hX, hry]
    have PI := hid (IH.out (s0[X]'hX) (List.getElem_mem hX))
    have EY := hid (ER.out (s0[X]'hX) (List.getElem_mem hX))
    have WY := hid (WD.out (s0[X]'hX) (List.getElem_mem hX))
    clear hry HN HN2 AN hxb
    cases ry with
    | error cc =>
      refine wp_region_l (S := (fun w' => w'.cell? ⟨w.heap.size, 3, none⟩ = some (.slice (some ⟨bl, off, none⟩) s0.length cp))) (Ls := [12]) (by kernel_rfl) x3 (fun hHeld => ?_)
      refine takeL [11, 12] (i := 0) (d := 69) (oi := _) (v := ?_) rfl rfl (by kernel_rfl) (by kernel_rfl) (by kernel_rfl) (by kernel_rfl) (by kernel_rfl) (fun _ _ _ h => h) (Or.inl ⟨by rfl, ?_⟩) (by assumption) ?_
      rotate_left
      · intro wz hSw; (try dsimp only at hSw); go_simp; (try with_reducible rfl)
      try simp only [Act.put, List.setIfInBounds_toArray, List.set_cons_zero, List.set_cons_succ]
      refine takeL [2, 9, 10, 11, 12] (i := 1) (d := 70) (oi := _) (v := ?_) rfl rfl (by kernel_rfl) (by kernel_rfl) (by kernel_rfl) (by kernel_rfl) (by kernel_rfl) (fun _ _ _ h => h) (Or.inl ⟨by rfl, ?_⟩) (by assumption) ?_
      rotate_left
      · intro wz hSw; (try dsimp only at hSw); go_simp; (try with_reducible rfl)
      try simp only [Act.put, List.setIfInBounds_toArray, List.set_cons_zero, List.set_cons_succ]
      refine takeL [9, 10, 11, 12] (i := 2) (d := 71) (oi := _) (v := ?_) rfl rfl (by kernel_rfl) (by kernel_rfl) (by kernel_rfl) (by kernel_rfl) (by kernel_rfl) (fun _ _ _ h => h) (Or.inl ⟨by rfl, ?_⟩) (by assumption) ?_
      rotate_left
      · intro wz hSw; (try dsimp only at hSw); go_simp; (try with_reducible rfl)
      try simp only [Act.put, List.setIfInBounds_toArray, List.set_cons_zero, List.set_cons_succ]
      refine takeL [8, 9, 10, 11, 12] (i := 3) (d := 72) (oi := _) (v := ?_) rfl rfl (by kernel_rfl) (by kernel_rfl) (by kernel_rfl) (by kernel_rfl) (by kernel_rfl) (fun _ _ _ h => h) (Or.inl ⟨by rfl, ?_⟩) (by assumption) ?_
      rotate_left
      · intro wz hSw; (try dsimp only at hSw); go_simp; (try with_reducible rfl)
      try simp only [Act.put, List.setIfInBounds_toArray, List.set_cons_zero, List.set_cons_succ]
      refine takeL [5, 6, 7, 8, 9, 10, 11, 12] (i := 4) (d := 73) (oi := _) (v := ?_) rfl rfl (by kernel_rfl) (by kernel_rfl) (by kernel_rfl) (by kernel_rfl) (by kernel_rfl) (fun _ _ _ h => h) (Or.inl ⟨by rfl, ?_⟩) (by assumption) ?_
      rotate_left
      · intro wz hSw; (try dsimp only at hSw); go_simp; (try with_reducible rfl)
      try simp only [Act.put, List.setIfInBounds_toArray, List.set_cons_zero, List.set_cons_succ]
      refine takeL [6, 7, 8, 9, 10, 11, 12] (i := 5) (d := 74) (oi := _) (v := ?_) rfl rfl (by kernel_rfl) (by kernel_rfl) (by kernel_rfl) (by kernel_rfl) (by kernel_rfl) (fun _ _ _ h => h) (Or.inl ⟨by rfl, ?_⟩) (by assumption) ?_
      rotate_left
      · intro wz hSw; (try dsimp only at hSw); go_simp; (try with_reducible rfl)
      try simp only [Act.put, List.setIfInBounds_toArray, List.set_cons_zero, List.set_cons_succ]
      refine takeL [7, 8, 9, 10, 11, 12] (i := 6) (d := 75) (oi := _) (v := ?_) rfl rfl (by kernel_rfl) (by kernel_rfl) (by kernel_rfl) (by kernel_rfl) (by kernel_rfl) (fun _ _ _ h => h) (Or.inl ⟨by rfl, ?_⟩) (by assumption) ?_
      rotate_left
      · intro wz hSw; (try dsimp only at hSw); go_simp; (try with_reducible rfl)
      try simp only [Act.put, List.setIfInBounds_toArray, List.set_cons_zero, List.set_cons_succ]
      refine takeL [8, 9, 10, 11, 12] (i := 7) (d := 76) (oi := _) (v := ?_) rfl rfl (by kernel_rfl) (by kernel_rfl) (by kernel_rfl) (by kernel_rfl) (by kernel_rfl) (fun _ _ _ h => h) (Or.inl ⟨by rfl, ?_⟩) (by assumption) ?_
      rotate_left
      · intro wz hSw; (try dsimp only at hSw); go_simp; (try with_reducible rfl)
      try simp only [Act.put, List.setIfInBounds_toArray, List.set_cons_zero, List.set_cons_succ]
      refine nxtL (i := 8) (o := _) (by kernel_rfl) rfl (fun K' hK => ?_)
      go_simp
      refine (ASK.out w3.drew R3.out (by omega) (by omega) NZ0.out).mono ?_
      rintro e w5 ⟨ho, he⟩
      simp only at he
      obtain ⟨rfl, D0, hR0, hD0⟩ := he
      have lw5 : w3.heap.size ≤ w5.heap.size := ho.1.size
      have SM : Hid (Same F w w5) := (fun b hb => (ho.2 b (by have := (HF.out b hb).1; show b < w3.heap.size; omega) (HF.out b hb).2).trans (W3.out.block b (HF.out b hb).1))
      obtain ⟨a1, b1, c1, d1, q1, q2, q3, q4, hy⟩ := (GesIn.keep SM.out s0 hFb HX.out).at_ hX
      obtain ⟨⟨k1, n1, p1, s1⟩, hy0⟩ : ∃ y, y = s0[X]'hX := ⟨_, rfl⟩
      rw [← hy0] at hy PI EY WY
      obtain ⟨A1, cp1, rfl, rfl, rfl, rfl, _, _, _⟩ := hy.box
      have HY5 := hid hy
      have R5 := hid hR0
      have D5 : Hid (∀ x, D0 x → D x ∨ w3.heap.size ≤ x) := hD0
      have F5 : Hid (∀ b, F b → b < w5.heap.size ∧ ¬ D0 b) := (fun b hb => ⟨by have := (HF.out b hb).1; omega, fun hd => by rcases hD0 b hd with h | h; exact (HF.out b hb).2 h; (have := (HF.out b hb).1; have h2 : w3.heap.size ≤ b := h; omega)⟩)
      have O5 : Hid (OutsD D w3.drew w5) := ho
      have Y5 := hid ((ho.2 (w.heap.size + 1) (by show _ < w3.heap.size; omega) (fun hd => by have := DL.out _ hd; omega)).trans X3.out.2.1)
      have Y3 := (ho.2 w.heap.size (by show _ < w3.heap.size; omega) (fun hd => by have := DL.out _ hd; omega)).trans X3.out.1
      have t3 := Has.cell Y3 3
      simp at t3
      rw [← hy0] at RYY NYY
      have PQ := hid (PI.out S B0 fid caps R f st0 D0 F _ _ _ _ w5 CF.out HC.out F5.out HY5.out R5.out EY.out WY.out NYY.out)
      rw [RYY.out] at PQ
      clear ho hR0 hD0 hy hy0 Y3
      have hHeld5 : (fun w' => World.cell? w' ⟨w.heap.size, 3, none⟩ = some (.slice (some ⟨bl, off, none⟩) s0.length cp)) w5 := t3
      refine hK.out _ _ (Or.inl hHeld5) ?_
      clear hK K'
      try simp only [Act.put, List.setIfInBounds_toArray, List.set_cons_zero, List.set_cons_succ]
      refine nxtL (i := 9) (o := _) (by kernel_rfl) rfl (fun K' hK => ?_)
      go_simp
      refine hK.out _ _ (Or.inl hHeld5) ?_
      clear hK K'
      try simp only [Act.put, List.setIfInBounds_toArray, List.set_cons_zero, List.set_cons_succ]
      refine nxtL (i := 10) (o := _) (by kernel_rfl) rfl (fun K' hK => ?_)
      go_simp
      refine hK.out _ _ (Or.inl hHeld5) ?_
      clear hK K'
      try simp only [Act.put, List.setIfInBounds_toArray, List.set_cons_zero, List.set_cons_succ]
      refine nxtL (i := 11) (o := _) (by kernel_rfl) rfl (fun K' hK => ?_)
      go_simp
      go_at_call 37
      refine PQ.out.mono ?_
      rintro e w6 ⟨ho, he⟩
      simp only at he
      subst he
      have h5 : OutsD D w w5 := (OutsD.below W3.out.drew (Nat.le_refl _)).trans O5.out fun b h => .inl h
      have h6 : OutsD D w w6 := h5.trans ho fun b h => by
        rcases D5.out b h with h | h
        · exact .inl h
        · exact .inr (by omega)
      exact ⟨rfl, by rw [GL.out]; exact ⟨h6, rfl⟩⟩
    | ok py =>
      obtain ⟨s', ⟨lv, nv, xs⟩⟩ := py
      go_region_law (first
        | (clear x3; go_simp; go_at_call 37; refine PQ.out.mono ?_; rintro e w6 ⟨ho, he⟩; simp only at he; obtain ⟨D', c5, he, hR', hD', hv, hwf⟩ := he; obtain ⟨Av5, cp5, rfl⟩ := hv.slice; subst he; have HV := hid hv; have HW := hid hwf; have HO := hid ho; have HR' := hid hR'; have HD' := hid hD'; have Y6 := hid ((ho.2 (w.heap.size + 1) (by omega) (fun hd => by rcases D5.out _ hd with h | h; (have := DL.out _ h; omega); omega)).trans Y5.out); have y0 := Has.cell Y6.out 0; have y1 := Has.cell Y6.out 1; have y2 := Has.cell Y6.out 2; have f0 := Has.froz Y6.out 0; have f1 := Has.froz Y6.out 1; have f2 := Has.froz Y6.out 2; simp at y0 y1 y2; clear ho hR' hD' hv hwf)
        | (go_simp; refine (ASK.out w3.drew R3.out (by omega) (by omega) NZ0.out).mono ?_; rintro e w5 ⟨ho, he⟩; simp only at he; obtain ⟨rfl, D0, hR0, hD0⟩ := he; have lw5 : w3.heap.size ≤ w5.heap.size := ho.1.size; have SM : Hid (Same F w w5) := (fun b hb => (ho.2 b (by have := (HF.out b hb).1; show b < w3.heap.size; omega) (HF.out b hb).2).trans (W3.out.block b (HF.out b hb).1)); obtain ⟨a1, b1, c1, d1, q1, q2, q3, q4, hy⟩ := (GesIn.keep SM.out s0 hFb HX.out).at_ hX; obtain ⟨⟨k1, n1, p1, s1⟩, hy0⟩ : ∃ y, y = s0[X]'hX := ⟨_, rfl⟩; rw [← hy0] at hy PI EY WY; obtain ⟨A1, cp1, rfl, rfl, rfl, rfl, _, _, _⟩ := hy.box; have HY5 := hid hy; have R5 := hid hR0; have D5 : Hid (∀ x, D0 x → D x ∨ w3.heap.size ≤ x) := hD0; have F5 : Hid (∀ b, F b → b < w5.heap.size ∧ ¬ D0 b) := (fun b hb => ⟨by have := (HF.out b hb).1; omega, fun hd => by rcases hD0 b hd with h | h; exact (HF.out b hb).2 h; (have := (HF.out b hb).1; have h2 : w3.heap.size ≤ b := h; omega)⟩); have O5 : Hid (OutsD D w3.drew w5) := ho; have Y5 := hid ((ho.2 (w.heap.size + 1) (by show _ < w3.heap.size; omega) (fun hd => by have := DL.out _ hd; omega)).trans X3.out.2.1); have Y3 := (ho.2 w.heap.size (by show _ < w3.heap.size; omega) (fun hd => by have := DL.out _ hd; omega)).trans X3.out.1; have t3 := Has.cell Y3 3; simp at t3; rw [← hy0] at RYY NYY; have PQ := hid (PI.out S B0 fid caps R f st0 D0 F _ _ _ _ w5 CF.out HC.out F5.out HY5.out R5.out EY.out WY.out NYY.out); rw [RYY.out] at PQ; clear ho hR0 hD0 hy hy0 Y3))
      all_goals
        have X6 := hid (set3 Y6.out (.bool lv) (.int .i64 nv) (.slice Av5 xs.length cp5))
        go_wp2_with fail
        refine ⟨rfl, _, made_results _ _ _ _ _ _ _ _ rfl ((Has.cell X6.out.1 0).trans rfl) ((Has.cell X6.out.1 1).trans rfl) ((Has.cell X6.out.1 2).trans rfl), ?_⟩
        rw [GL.out]
        refine ⟨?_, D', _, rfl, ?_, fun b h => ?_, ?_, HW.out⟩
        · have h5 : OutsD D w w5 := (OutsD.below W3.out.drew (Nat.le_refl _)).trans O5.out fun b h => .inl h
          exact (h5.trans HO.out fun b h => by
            rcases D5.out b h with h | h
            · exact .inl h
            · exact .inr (by omega)).then_ X6.out.2.2.2 (by omega)
        · refine HC.out.keep _ _ _ _ HR'.out (fun b hb => X6.out.2.1 b fun e => ?_) (fun b hb => X6.out.2.1 b (by omega)) (Nat.le_of_eq X6.out.2.2.1.symm)
          rcases HD'.out b hb with h | h
          · rcases D5.out b h with h | h
            · have := DL.out b h; omega
            · omega
          · omega
        · rcases HD'.out b h with h | h
          · rcases D5.out b h with h | h
            · exact .inl h
            · exact .inr (by omega)
          · exact .inr (by omega)
        · exact (HV.out.keep (fun b h1 _ _ => X6.out.2.1 b (by omega)) (Nat.le_of_eq X6.out.2.2.1.symm) fun b h => .inl h).base (by omega)
theorem madeP_step (k a b : Int) (s0 : List Ge) (ih : ∀ y ∈ s0, MadeOkP y) : MadeOkP (.mk k a b s0) := by
  intro S B0 fid caps R f s D F u v x c w hcf hC hF hx hR he hw hN
  by_cases k1 : k = 1
  · subst k1; exact madeP_just a b s0 fid caps R f s D F u v x c w hC hx hR
  by_cases k2 : k = 2
  · subst k2; exact madeP_int a b s0 fid caps R f s D F u v x c w hcf hC hx hR he hN
  by_cases k3 : k = 3
  · subst k3; exact madeP_both a b s0 ih fid caps R f s D F u v x c w hcf hC hF hx hR he hw hN
  by_cases k4 : k = 4
  · subst k4
    have : s0.length = 1 := by
      have h1 := (Ge.err_parts he).1
      unfold oneE at h1
      rw [if_neg (by omega), if_pos rfl] at h1
      split at h1
      · omega
      · split at h1 <;> omega
    match s0, this with
    | [y], _ => exact madeP_many a b y (ih y (by simp)) fid caps R f s D F u v x c w hcf hC hF hx hR he hw hN
  by_cases k5 : k = 5
  · subst k5; exact madeP_pick a b s0 ih fid caps R f s D F u v x c w hcf hC hF hx hR he hw hN
  · have h1 := (Ge.err_parts he).1
    unfold oneE at h1
    rw [if_neg (by omega), if_neg k4, if_neg k3, if_neg k5] at h1
    omega
theorem madeP_any : ∀ g, MadeOkP g := Ge.ind madeP_step
end Go.Proofs.YtopehfmppfibhaaDoor
