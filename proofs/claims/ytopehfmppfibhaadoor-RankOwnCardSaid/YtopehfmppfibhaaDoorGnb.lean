/- What gen's made does with Both: the items one by one, or a panic where the chooser panics. Conditions: as for made. -/
import Derived.Test.YtopehfmppfibhaaDoorGnd
namespace Go.Proofs.YtopehfmppfibhaaDoor
open Go.RowKit Go.Deep
/-- what a loop of made keeps: the boxes, the items so far, the chooser's state -/
structure MInvP {S : Type} (R : S → (Nat → Prop) → World → Prop) (D : Nat → Prop) (w : World) (k a b : Int) (A : Option Addr) (n cp : Nat) (st : S) (i : Nat) (vs : List Va) (wr : World) : Prop where
  len : vs.length = i
  ex : ∃ (Di : Nat → Prop) (vi : Value) (cs : List Value), R st Di wr ∧ (∀ x, Di x → D x ∨ w.heap.size + 3 ≤ x) ∧ wr.ownsRow (w.heap.size + 3) 47 3 vi i cs ∧ (∀ x, vi.ownBlock = some x → ¬ Di x) ∧
    wr.heap[w.heap.size]? = some (.cells #[.int .i64 k, .int .i64 a, .int .i64 b, .slice A n cp] 24 (0, 0)) ∧ wr.heap[w.heap.size + 1]? = some (.cells #[.bool false, .int .i64 0, .slice none 0 0] 47 (0, 0)) ∧ wr.heap[w.heap.size + 1 + 1]? = some (.cells #[.bool true, .int .i64 0, vi] 47 (0, 0)) ∧
    OutsD D w wr ∧ w.heap.size + 3 ≤ wr.heap.size ∧ VaCells (fun x => w.heap.size + 3 ≤ x ∧ x < wr.heap.size ∧ ¬ Di x ∧ vi.ownBlock ≠ some x) wr cs vs
theorem minvP_step {S : Type} {B0 : Nat} {fid : FuncId} {caps : Array Value} {R : S → (Nat → Prop) → World → Prop} {f : S → Int → Except Int (S × Int)} {D Di D' : Nat → Prop} {w wo w5 w6 : World} {k a b : Int} {A Av : Option Addr} {n cp i cv : Nat} {st1 : S} {cs : List Value} {v6 : Value} {o : Obj} {c0 c1 c2 : Value} {vs : List Va} {x1 : Va} {B5 : Nat}
    (HC : ChoosesP B0 fid caps R f) (LB : B0 ≤ w.heap.size) (DL : ∀ x, D x → x < w.heap.size) (M2 : ∀ x, Di x → D x ∨ w.heap.size + 3 ≤ x) (M3 : wo.ownsRow (w.heap.size + 3) 47 3 (.slice Av i cv) i cs) (M4 : ∀ x, (Value.slice Av i cv).ownBlock = some x → ¬ Di x)
    (M5 : wo.heap[w.heap.size]? = some (.cells #[.int .i64 k, .int .i64 a, .int .i64 b, .slice A n cp] 24 (0, 0))) (M6 : wo.heap[w.heap.size + 1]? = some (.cells #[.bool false, .int .i64 0, .slice none 0 0] 47 (0, 0))) (M7 : wo.heap[w.heap.size + 1 + 1]? = some (.cells #[.bool true, .int .i64 0, .slice Av i cv] 47 (0, 0)))
    (M8 : OutsD D w wo) (M9 : w.heap.size + 3 ≤ wo.heap.size) (ho : ∀ x, x < wo.heap.size → ¬ Di x → w5.heap[x]? = wo.heap[x]?) (hb0 : Below 0 wo w5) (hR : R st1 D' w5) (hD : ∀ x, D' x → Di x ∨ wo.heap.size ≤ x)
    (M10 : VaCells (fun x => w.heap.size + 3 ≤ x ∧ x < wo.heap.size ∧ ¬ Di x ∧ (Value.slice Av i cv).ownBlock ≠ some x) wo cs vs) (LN : vs.length = i) (hB5 : wo.heap.size ≤ B5) (hx1 : VaIn (fun x => B5 ≤ x ∧ x < w5.heap.size ∧ ¬ D' x) w5 x1 c0 c1 c2)
    (hown : w6.ownsRow (w.heap.size + 3) 47 3 v6 (i + 1) (cs ++ [c0, c1, c2])) (hgrow : (w5.alloc o).grownBy w6 (Value.slice Av i cv).ownBlock) (hat : v6.ownBlock = (Value.slice Av i cv).ownBlock ∨ v6.ownBlock = some (w5.alloc o).heap.size) :
    MInvP R D w k a b A n cp st1 (i + 1) (vs ++ [x1]) (w6.setCell ⟨w.heap.size + 1 + 1, 2, none⟩ v6) := by
  have s5 := hb0.size
  have IN := HC.isIn _ _ _ hR
  have vb : ∀ x, (Value.slice Av i cv).ownBlock = some x → w.heap.size + 3 ≤ x ∧ x < wo.heap.size := fun x hx => ⟨own_ge M3 x hx, own_lt M3 x hx⟩
  have nD : ∀ x, D' x → (Value.slice Av i cv).ownBlock ≠ some x := fun x hx e => by
    rcases hD x hx with h | h
    · exact M4 x e h
    · have := (vb x e).2; omega
  have lo : ∀ x, x < w.heap.size + 3 → w.heap.size ≤ x → ¬ Di x := fun x h1 h2 hd => by
    rcases M2 x hd with h | h
    · have := DL x h; omega
    · omega
  have box : ∀ x, w.heap.size ≤ x → x < w.heap.size + 3 → w6.heap[x]? = wo.heap[x]? := fun x h1 h2 => by
    have e1 := hgrow.block x (by simp; omega) (fun e => by have := (vb x e.symm).1; omega)
    exact e1.trans ((Below.heap_alloc _ _ _ (by omega)).trans (ho x (by omega) (lo x h2 h1)))
  have sg : w5.heap.size + 1 ≤ w6.heap.size := by have := hgrow.size; simp at this; omega
  have far : ∀ x, w.heap.size + 3 ≤ x → x < w5.heap.size → (Value.slice Av i cv).ownBlock ≠ some x → (w6.setCell ⟨w.heap.size + 1 + 1, 2, none⟩ v6).heap[x]? = w5.heap[x]? := fun x h1 h2 h3 => by
    rw [Below.heap_setCell _ _ _ _ (by simp; omega)]
    exact (hgrow.block x (by simp; omega) fun e => h3 e.symm).trans (Below.heap_alloc _ _ _ h2)
  refine ⟨by rw [List.length_append, LN]; rfl, ⟨D', v6, cs ++ [c0, c1, c2], ?_, fun x hx => ?_, ?_, fun x hx hd => ?_, ?_, ?_, ?_, ?_, ?_, ?_⟩⟩
  · refine HC.keep _ _ _ _ hR (fun x hx => ?_) (fun x hx => (Below.heap_setCell _ _ _ _ (by simp; omega)).trans ((hgrow.block x (by simp; omega) fun e => by have := (vb x e.symm).1; omega).trans (Below.heap_alloc _ _ _ (by omega)))) (by have := hgrow.size; simp at this ⊢; omega)
    have lx := IN x hx
    have ne : x ≠ w.heap.size + 1 + 1 := fun e => by
      rcases hD x hx with h | h
      · exact lo x (by omega) (by omega) h
      · omega
    rw [Below.heap_setCell _ _ _ _ (by simpa using ne)]
    exact (hgrow.block x (by simp; omega) fun e => nD x hx e.symm).trans (Below.heap_alloc _ _ _ lx)
  · rcases hD x hx with h | h
    · exact M2 x h
    · exact .inr (by omega)
  · refine own_keep hown fun x hx => Below.heap_setCell _ _ _ _ ?_
    have := own_ge hown x hx
    simp; omega
  · rcases hat with e | e
    · rw [e] at hx; exact nD x hd hx
    · rw [e] at hx; injection hx with hx
      have := IN x hd
      simp at hx; omega
  · rw [Below.heap_setCell _ _ _ _ (by simp; omega)]; exact (box _ (Nat.le_refl _) (by omega)).trans M5
  · rw [Below.heap_setCell _ _ _ _ (by simp)]; exact (box _ (by omega) (by omega)).trans M6
  · have h := Has.set ((box (w.heap.size + 1 + 1) (by omega) (by omega)).trans M7) 2 v6
    simpa using h
  · have h1 : OutsD D w w5 := ⟨M8.1.trans hb0, fun x hx hd => (ho x (by omega) fun h => by
      rcases M2 x h with h | h
      · exact hd h
      · omega).trans (M8.2 x hx hd)⟩
    have h2 : Below (w.heap.size + 2) w5 w6 := (((Below.refl _ _).alloc (by omega) o).grown hgrow (by simp; omega) fun x hx => by have := (vb x hx).1; omega)
    exact h1.then_ (h2.setCell (p := ⟨w.heap.size + 1 + 1, 2, none⟩) (Nat.le_refl _) v6) (by omega)
  · simp; omega
  · have n6 : ∀ x, (x < wo.heap.size ∧ (Value.slice Av i cv).ownBlock ≠ some x) ∨ (wo.heap.size ≤ x ∧ x < w5.heap.size) → v6.ownBlock ≠ some x := fun x hx e => by
      rcases hat with h | h
      · rw [h] at e
        rcases hx with hx | hx
        · exact hx.2 e
        · have := (vb x e).2; omega
      · rw [h] at e; injection e with e; simp at e; omega
    refine VaCells.snoc ((M10.keep fun x hx => (far x hx.1 (by omega) hx.2.2.2).trans (ho x hx.2.1 hx.2.2.1)).more fun x hx => ⟨hx.1, by simp; omega, fun hd => ?_, n6 x (.inl ⟨hx.2.1, hx.2.2.2⟩)⟩) (VaIn.more (fun x hx => ⟨by omega, by simp; omega, hx.2.2, n6 x (.inr ⟨by omega, hx.2.1⟩)⟩) _ (VaIn.keep (fun x hx => far x (by omega) hx.2.1 fun e => by have := (vb x e).2; omega) _ hx1))
    rcases hD x hd with h | h
    · exact hx.2.2.1 h
    · omega
theorem minvP_end {S : Type} {B0 : Nat} {fid : FuncId} {caps : Array Value} {R : S → (Nat → Prop) → World → Prop} {f : S → Int → Except Int (S × Int)} {D Di : Nat → Prop} {w wo wz : World} {st : S} {u0 u1 u2 : Value} {t : TypeId} {v : Value} {i : Nat} {cs : List Value} {vs : List Va}
    (HC : ChoosesP B0 fid caps R f) (LB : B0 ≤ w.heap.size) (DL : ∀ x, D x → x < w.heap.size) (hR : R st Di wo) (M2 : ∀ x, Di x → D x ∨ w.heap.size + 3 ≤ x) (M8 : OutsD D w wo) (_M9 : w.heap.size + 3 ≤ wo.heap.size)
    (M3 : wo.ownsRow (w.heap.size + 3) 47 3 v i cs) (M4 : ∀ x, v.ownBlock = some x → ¬ Di x) (M10 : VaCells (fun x => w.heap.size + 3 ≤ x ∧ x < wo.heap.size ∧ ¬ Di x ∧ v.ownBlock ≠ some x) wo cs vs) (LN : vs.length = i)
    (X : wz.heap[w.heap.size + 1]? = some (.cells #[u0, u1, u2] t (0, 0)) ∧ (∀ b, b ≠ w.heap.size + 1 → wz.heap[b]? = wo.heap[b]?) ∧ wz.heap.size = wo.heap.size ∧ Below (w.heap.size + 1) wo wz) :
    OutsD D w wz ∧ R st Di wz ∧ (∀ b, Di b → D b ∨ w.heap.size ≤ b) ∧ VRow w.heap.size Di vs v wz := by
  refine ⟨M8.then_ X.2.2.2 (by omega), HC.keep _ _ _ _ hR (fun b hb => X.2.1 b fun e => ?_) (fun b hb => X.2.1 b (by omega)) (Nat.le_of_eq X.2.2.1.symm), fun b hb => ?_, ?_⟩
  · rcases M2 b hb with h | h
    · have := DL b h; omega
    · omega
  · rcases M2 b hb with h | h
    · exact .inl h
    · exact .inr (by omega)
  · have h : VRow (w.heap.size + 3) Di vs v wo := ⟨⟨cs, by rw [LN]; exact M3, M10⟩, M4⟩
    exact (h.keep (fun b h1 _ _ => X.2.1 b (by omega)) (Nat.le_of_eq X.2.2.1.symm) fun b h => .inl h).base (by omega)
set_option maxRecDepth 100000 in
set_option maxHeartbeats 4000000 in
theorem madeP_both (a b : Int) (s0 : List Ge) (ih : ∀ y ∈ s0, MadeOkP y) {S : Type} {B0 : Nat} (fid : FuncId) (caps : Array Value) (R : S → (Nat → Prop) → World → Prop) (f : S → Int → Except Int (S × Int)) (s : S) (D F : Nat → Prop) (u v x c : Value) (w : World)
    (hcf : ∀ (args : Array Value) (w : World), Sem.run Tryd.prog (callFunc fid args) w = .ok (.enter fid args) w) (hC : ChoosesP B0 fid caps R f) (hF : ∀ b, F b → b < w.heap.size ∧ ¬ D b) (hx : GeIn F w (.mk 3 a b s0) u v x c) (hR : R s D w) (he : (Ge.mk 3 a b s0).err = 0) (hw : (Ge.mk 3 a b s0).wide) (hN : ∀ c, (Ge.mk 3 a b s0).made.run f s = .error c → c ≠ 0) :
    Calls Tryd.prog 37 #[.func (Fn.func fid) #[] caps, .agg #[u, v, x, c]] w (MadeP R D ((Ge.mk 3 a b s0).made.run f s) w) := by
  have HC := hid hC
  have HR := hid hR
  have lo0 := (hC.lo _ _ _ hR).1
  have HF := hid hF
  have IH := hid ih
  have CF := hid hcf
  obtain ⟨A, cp, rfl, rfl, rfl, rfl, l1, l2, hs⟩ := hx.box
  have HS := hid hs
  have ER := hid (Ge.err_parts he).2
  rw [Ge.wide] at hw
  have WD := hid (Ges.wide_mem hw.2)
  have sl := hw.1
  obtain ⟨i0, hi0, hz0, hz1, hz2⟩ := info_parts infoVal
  have RUN : Hid ((Ge.mk 3 a b s0).made.run f s = listR ((Ch.all (Ges.mades s0)).run f s)) := by
    show _ = _
    rw [Ge.made]
    simp only [madeM, show ¬ ((3 : Int) = 1) by decide, show ¬ ((3 : Int) = 2) by decide, if_false, if_true]
    exact bind_list_run f _ s
  rw [RUN.out] at hN ⊢
  have E0 : Hid ((Ch.all (Ges.mades s0)).run f s = glueR [] ((Ch.all (Ges.mades (s0.drop 0))).run f s)) := by
    show _ = _
    rw [List.drop_zero]
    cases (Ch.all (Ges.mades s0)).run f s with
    | error c => rfl
    | ok p => rfl
  generalize (Ch.all (Ges.mades s0)).run f s = r0 at hN E0 ⊢
  have NZ : Hid (∀ c, r0 = .error c → c ≠ 0) := fun c h => hN c (by rw [h]; rfl)
  have W3 := hid (below3 w (.cells #[.int .i64 3, .int .i64 a, .int .i64 b, .slice A s0.length cp] 24) (.cells #[.bool false, .int .i64 0, .slice none 0 0] 47) (.cells #[.bool true, .int .i64 0, .slice none 0 0] 47))
  have X3 := hid (boxes3 w (.cells #[.int .i64 3, .int .i64 a, .int .i64 b, .slice A s0.length cp] 24) (.cells #[.bool false, .int .i64 0, .slice none 0 0] 47) (.cells #[.bool true, .int .i64 0, .slice none 0 0] 47))
  have DL := hid (HC.out.isIn _ _ _ HR.out)
  have M0 : Hid (MInvP R D w 3 a b A s0.length cp s 0 [] (((w.alloc (.cells #[.int .i64 3, .int .i64 a, .int .i64 b, .slice A s0.length cp] 24)).alloc (.cells #[.bool false, .int .i64 0, .slice none 0 0] 47)).alloc (.cells #[.bool true, .int .i64 0, .slice none 0 0] 47))) :=
    ⟨rfl, D, .slice none 0 0, [], HC.out.keep _ _ _ _ HR.out (fun b hb => W3.out.block b (DL.out b hb)) (fun b hb => W3.out.block b (by omega)) W3.out.size, fun x h => .inl h, World.ownsRow_nil _ _ _ _, (fun x h => by cases h), X3.out.1, X3.out.2.1, X3.out.2.2, OutsD.below W3.out (Nat.le_refl _), by simp, VaCells.nil_⟩
  clear hC hR hF ih hs he hw hx hcf hN RUN
  go_enter Tryd.func37, Tryd.ntmps37
  go_wp2_with fail
  go_loopw [34] (fun iv wr => ∃ (i : Nat) (st : S) (vs : List Va), i ≤ s0.length ∧ iv = .int .i64 i ∧ Hid (r0 = glueR vs ((Ch.all (Ges.mades (s0.drop i))).run f st)) ∧ Hid (MInvP R D w 3 a b A s0.length cp st i vs wr)) (fun iv _ => s0.length - (intOf iv).toNat)
  case atStart => exact ⟨0, s, [], Nat.zero_le _, rfl, E0, M0⟩
  case round =>
    obtain ⟨i, st, vs, hi, rfl, hRn, hM⟩ := hrel
    obtain ⟨wo, rfl⟩ : ∃ wo : World, wo = wr := ⟨_, rfl⟩
    obtain ⟨Di, vi, cs, m1, m2, m3, m4, m5, m6, m7, m8, m9, m10⟩ := hM.out.ex
    have LN := hid hM.out.len
    obtain ⟨Av, cv, rfl⟩ := own_slice3 m3
    have M1 := hid m1
    have M2 := hid m2
    have M3 := hid m3
    have M4 := hid m4
    have M5 := hid m5
    have M6 := hid m6
    have M7 := hid m7
    have M8 := hid m8
    have M10 := hid m10
    have IN1 := hid (HC.out.isIn _ _ _ m1)
    clear m1 m2 m3 m4 m5 m6 m7 m8 m10 M0 E0
    by_cases hlt : i < s0.length
    · obtain ⟨bl, off, rfl, hFb, hex⟩ := HS.out (by omega)
      have lb := HF.out bl hFb
      obtain ⟨a1, b1, c1, d1, q1, q2, q3, q4, hy⟩ := (GesIn.keep (M8.out.same HF.out) s0 hFb hex).at_ hlt
      have HY := hid hy
      have PI := hid (IH.out s0[i] (List.getElem_mem hlt))
      have EY := hid (ER.out s0[i] (List.getElem_mem hlt))
      have WY := hid (WD.out s0[i] (List.getElem_mem hlt))
      have i1 : (i : Int) < (s0.length : Int) := by omega
      have RR : Hid (r0 = thenR (s0[i].made.run f st) fun s1 x => glueR (vs ++ [x]) ((Ch.all (Ges.mades (s0.drop (i + 1)))).run f s1)) := by
        show _ = _
        rw [hRn.out, mades_drop hlt, all_cons_run]
        cases s0[i].made.run f st with
        | error c => rfl
        | ok p => obtain ⟨s1, x⟩ := p; exact glue_glue _ _ _
      obtain ⟨⟨k1, n1, p1, s1⟩, hy0⟩ : ∃ y, y = s0[i] := ⟨_, rfl⟩
      rw [← hy0] at HY PI EY WY RR
      obtain ⟨A1, cp1, rfl, rfl, rfl, rfl, _, _, _⟩ := HY.out.box
      have NY : Hid (∀ c, (Ge.mk k1 n1 p1 s1).made.run f st = .error c → c ≠ 0) := fun c h => NZ.out c (by rw [RR.out, h]; rfl)
      have PY := hid (PI.out S B0 fid caps R f st Di)
      generalize (Ge.mk k1 n1 p1 s1).made.run f st = ry at *
      clear hex hy hy0 hRn
      go_upto_region 11 with fail
      have BX : Hid (Below wo.heap.size wo (wo.alloc (.cells #[.int .i64 k1, .int .i64 n1, .int .i64 p1, .slice A1 s1.length cp1] 24))) := (Below.refl _ _).alloc (Nat.le_refl _) _
      have XY := hid (Has.new wo (.cells #[.int .i64 k1, .int .i64 n1, .int .i64 p1, .slice A1 s1.length cp1] 24))
      have szq : (wo.alloc (.cells #[.int .i64 k1, .int .i64 n1, .int .i64 p1, .slice A1 s1.length cp1] 24)).heap.size = wo.heap.size + 1 := by simp
      have SZ := hid szq
      clear szq
      generalize wo.alloc (.cells #[.int .i64 k1, .int .i64 n1, .int .i64 p1, .slice A1 s1.length cp1] 24) = wq at *
      have lq : wo.heap.size < wq.heap.size := by have := SZ.out; omega
      have Z7 := hid ((BX.out.block _ (by omega : w.heap.size + 1 + 1 < wo.heap.size)).trans M7.out)
      have z0 := Has.cell Z7.out 2
      have zx0 := Has.cell XY.out 0
      have zx1 := Has.cell XY.out 1
      have zx2 := Has.cell XY.out 2
      have zx3 := Has.cell XY.out 3
      have fz := Has.froz Z7.out 2
      simp at z0 zx0 zx1 zx2 zx3
      have HYq := hid (GeIn.keep (w' := wq.drew) (fun b hb => BX.out.block b (by have := (HF.out b hb).1; omega)) _ HY.out)
      have FQ : Hid (∀ b, F b → b < wq.drew.heap.size ∧ ¬ Di b) := fun b hb => ⟨by show b < wq.heap.size; have := (HF.out b hb).1; omega, fun hd => by rcases M2.out b hd with h | h; exact (HF.out b hb).2 h; have := (HF.out b hb).1; omega⟩
      have RQ := hid (HC.out.keep _ _ _ wq.drew M1.out (fun b hb => BX.out.block b (IN1.out b hb)) (fun b hb => BX.out.block b (by omega)) (by show _ ≤ wq.heap.size; omega))
      clear q1 q2 q3 q4
      have WQ := hid (show ∀ x, x < wo.heap.size → wq.heap[x]? = wo.heap[x]? from fun x hx => BX.out.block x hx)
      have PQ := hid (PY.out F _ _ _ _ wq.drew CF.out HC.out FQ.out HYq.out RQ.out EY.out WY.out NY.out)
      have l9 := m9
      cases ry with
      | error cc =>
        have E1 : Hid (r0 = .error cc) := RR.out
        clear fz PY PI NY RR
        go_region_dies
        all_goals
          go_at_call 37
          refine PQ.out.mono ?_
          rintro e w5 ⟨ho, he⟩
          simp only at he
          subst he
          have FP : MadeP R D (listR r0) w (diesE cc) w5 := by
            rw [E1.out]
            refine ⟨⟨M8.out.1.trans (((BX.out.mono (Nat.zero_le _)).drew).trans ho.1), fun x hx hd => ?_⟩, rfl⟩
            have lx : x < wq.drew.heap.size := by show x < wq.heap.size; omega
            exact (ho.2 x lx (fun h => by rcases M2.out x h with h | h; exact hd h; omega)).trans ((WQ.out x (by omega)).trans (M8.out.2 x hx hd))
          exact ⟨rfl, FP⟩
      | ok py =>
        obtain ⟨st1, ⟨lv, nv, xs⟩⟩ := py
        have RN : Hid (r0 = glueR (vs ++ [.mk lv nv xs]) ((Ch.all (Ges.mades (s0.drop (i + 1)))).run f st1)) := RR.out
        clear PY PI NY RR
        go_region_law (first
          | (refine step_app _ (by rfl) (.tmp 39) (.tmp 43) 45 (by rfl) (w.heap.size + 3) 47 i0 (.agg #[.bool false, .int .i64 0, .slice none 0 0]) 3 40 Tryd.underlying45 hi0 hz0 hz1 hz2 rfl (by decide) (.slice Av i cv) i cs (by rfl) OW5.out _ _ 1 [.bool lv, .int .i64 nv, .slice Av5 xs.length cp5] (by rfl) (cells_three _ _ _ _ w5.heap.size (fun b => b = w5.heap.size) (by simp) (by simp) (by simp) rfl) (by intro u hu; simp at hu; rcases hu with rfl | rfl | rfl <;> rfl) (by unfold maxLen; omega) (by omega) (by simp; omega) ?_; intro v6 w6 hown6 hgrow6 hat6; obtain ⟨A6, c6, rfl⟩ := own_slice3 hown6; have MS := hid (minvP_step HC.out lo0 DL.out M2.out M3.out M4.out M5.out M6.out M7.out M8.out l9 HO.out.1 HO.out.2.1 HO.out.2.2.1 HO.out.2.2.2 M10.out LN.out LQ.out HV.out hown6 hgrow6 hat6); have Z9 := hid (Has.grown ZA.out hgrow6 (fun e => by have := own_ge M3.out _ e.symm; omega)); have z9 := Has.cell Z9.out 2; have f9 := Has.froz Z9.out 2; simp at z9; clear hown6 hgrow6 hat6)
          | (go_simp; go_at_call 37; refine PQ.out.mono ?_; rintro e w5 ⟨ho, he⟩; simp only at he; obtain ⟨D', c5, he, hR', hD', hv, hwf⟩ := he; obtain ⟨Av5, cp5, rfl⟩ := hv.slice; subst he; have lwq : wq.drew.heap.size = wo.heap.size + 1 := SZ.out; have s5 := ho.1.size; have LQ : Hid (wo.heap.size ≤ wq.drew.heap.size) := (by show _ ≤ _; omega); have HV := hid (hv.va (k := lv) hwf); have HO : Hid ((∀ x, x < wo.heap.size → ¬ Di x → w5.heap[x]? = wo.heap[x]?) ∧ Below 0 wo w5 ∧ R st1 D' w5 ∧ ∀ x, D' x → Di x ∨ wo.heap.size ≤ x) := ⟨fun x hx hd => (ho.2 x (by omega) hd).trans (WQ.out x hx), (BX.out.mono (Nat.zero_le _)).drew.trans ho.1, hR', fun x hx => by rcases hD' x hx with h | h; exact .inl h; exact .inr (by omega)⟩; have Z8 := hid ((HO.out.1 (w.heap.size + 1 + 1) (by omega) (fun hd => by rcases M2.out _ hd with h | h; (have := DL.out _ h; omega); omega)).trans M7.out); have OW5 : Hid ((w5.alloc (.cells #[.bool lv, .int .i64 nv, .slice Av5 xs.length cp5] 47)).ownsRow (w.heap.size + 3) 47 3 (.slice Av i cv) i cs) := own_keep M3.out fun x hx => (Below.heap_alloc _ _ _ (by have := own_lt M3.out x hx; omega)).trans (HO.out.1 x (own_lt M3.out x hx) (M4.out x hx)); have ZA := hid (Has.alloc Z8.out (.cells #[.bool lv, .int .i64 nv, .slice Av5 xs.length cp5] 47)); have z8 := Has.cell Z8.out 2; have za := Has.cell ZA.out 2; simp at z8 za; have lw5 : wo.heap.size + 1 ≤ w5.heap.size := (by omega); clear ho hR' hD' hv hwf lwq s5))
        all_goals
          go_wp2_with fail
          go_roundw
          case rel => exact ⟨i + 1, st1, _, by omega, by go_num, RN, MS⟩
          case measure => simp [intOf]; omega
    · obtain rfl : i = s0.length := by omega
      have RE : Hid (listR r0 = .ok (st, .mk true 0 vs)) := by
        show _ = _
        rw [hRn.out, List.drop_length, Ges.mades, Ch.all, Ch.run]
        simp [glueR, listR]
      have z0 := Has.cell M7.out 0
      have z1 := Has.cell M7.out 1
      have z2 := Has.cell M7.out 2
      have u0 := Has.cell M6.out 0
      have u1 := Has.cell M6.out 1
      have u2 := Has.cell M6.out 2
      have f0 := Has.froz M6.out 0
      have f1 := Has.froz M6.out 1
      have f2 := Has.froz M6.out 2
      simp at z0 z1 z2 u0 u1 u2
      have X6 := hid (set3 M6.out (.bool true) (.int .i64 0) (.slice Av s0.length cv))
      have FIN := hid (minvP_end HC.out lo0 DL.out M1.out M2.out M8.out m9 M3.out M4.out M10.out LN.out X6.out)
      clear M5 hRn
      go_wp2_with fail
      exact ⟨rfl, _, made_results _ _ _ _ _ _ _ _ rfl ((Has.cell X6.out.1 0).trans rfl) ((Has.cell X6.out.1 1).trans rfl) ((Has.cell X6.out.1 2).trans rfl), by rw [RE.out]; exact ⟨FIN.out.1, Di, _, rfl, FIN.out.2.1, FIN.out.2.2.1, FIN.out.2.2.2, by decide⟩⟩
end Go.Proofs.YtopehfmppfibhaaDoor
