/- What gen.Mend returns: the tape that is mended, in a list of the call's own; of no right generator its fault. Condition: 2^47 bytes. -/
import Derived.Test.YtopehfmppfibhaaDoorGml
import Derived.Test.YtopehfmppfibhaaDoorGma
import Derived.Lib.MinMax
namespace Go.Proofs.YtopehfmppfibhaaDoor
open Go.RowKit Go.Deep
theorem cells_oneG (w : World) (x : Value) (t : TypeId) {g : Nat} (hg : g = w.heap.size) : CellsIn (fun b => b = g) (w.alloc (.cells #[x] t)) 1 (.slice (some ⟨g, 0, none⟩) 1 1) 1 [x] := by
  subst hg
  exact ⟨_, 1, rfl, rfl, fun _ => ⟨w.heap.size, 0, rfl, rfl, fun j u hj => by
    match j, hj with
    | 0, hj => simp at hj; subst hj; simp⟩⟩
theorem own_base1 {w : World} {base base' : Nat} {e : TypeId} {size n : Nat} {v : Value} {xs : List Value} (h : w.ownsRow base e size v n xs) (hb : base' ≤ base) : w.ownsRow base' e size v n xs := by
  refine ⟨h.1, ?_⟩
  rcases h.2 with h | ⟨g, cap, cur, rfl, h1, h2⟩
  · exact .inl h
  · exact .inr ⟨g, cap, cur, rfl, by omega, h2⟩
/-- the chooser of Mend: what it has, in the box bo and the list in it -/
def MendR (bo bt : Nat) (tv : Value) (t : List Int) (out : List Int) (D : Nat → Prop) (w : World) : Prop :=
  ∃ v, (∀ b, D b ↔ (b = bo ∨ v.ownBlock = some b)) ∧ w.heap[bo]? = some (.cells #[v] 25 (0, 0)) ∧ w.ownsRow (bo + 1) 3 1 v out.length (out.map (Value.int .i64)) ∧ w.heap[bt]? = some (.cells #[tv] 25 (0, 0)) ∧ bt < bo ∧ bo < w.heap.size ∧ IntsIn .i64 (fun b => b < bo) w tv t
theorem mendR_alloc {bo bt : Nat} {tv : Value} {t out : List Int} {D : Nat → Prop} {w w' : World} (h : MendR bo bt tv t out D w) (hD : ∀ b, D b → w'.heap[b]? = w.heap[b]?) (hB : ∀ b, b < bo → w'.heap[b]? = w.heap[b]?) (hs : w.heap.size ≤ w'.heap.size) : MendR bo bt tv t out D w' := by
  obtain ⟨v, h1, h2, h3, h4, h5, h6, h7⟩ := h
  exact ⟨v, h1, (hD bo ((h1 bo).2 (.inl rfl))).trans h2, own_keep h3 fun k hk => hD k ((h1 k).2 (.inr hk)), (hB bt h5).trans h4, h5, by omega, h7.keep fun b hb => hB b hb⟩
set_option maxRecDepth 100000 in
set_option maxHeartbeats 2000000 in
theorem mend_asks (bo bt : Nat) (tv : Value) (t : List Int) : Chooses bo 36 #[.pointer (some ⟨bo, 0, none⟩), .pointer (some ⟨bt, 0, none⟩)] (MendR bo bt tv t) (mendG t) where
  keep := fun s D w w' h hD hB hs => mendR_alloc h hD hB hs
  lo := fun s D w h => by
    obtain ⟨v, h1, h2, h3, h4, h5, h6, h7⟩ := h
    refine ⟨by omega, fun b hb => ?_⟩
    rcases (h1 b).1 hb with h | h
    · omega
    · have := own_ge h3 b h; omega
  isIn := fun s D w h b hb => by
    obtain ⟨v, h1, h2, h3, h4, h5, h6, h7⟩ := h
    rcases (h1 b).1 hb with h | h
    · omega
    · exact own_lt h3 b h
  ans := fun s m s' x h hm => by
    unfold mendG mendF at h
    split at h
    · injection h with h; injection h with _ h; rw [← h]; exact clamp_in t _ hm
    · cases h
  ask := by
    intro out m D w hR hm0 hm1 hok
    show Calls Tryd.prog 36 #[.int .i64 m, .pointer (some ⟨bo, 0, none⟩), .pointer (some ⟨bt, 0, none⟩)] w _
    have hl : out.length < 1000000000000 := by
      obtain ⟨s', x, h⟩ := hok
      unfold mendG at h
      split at h
      · assumption
      · cases h
    have FR : Hid (mendG t out m = .ok (out ++ [clampT t out.length m], clampT t out.length m)) := by show _ = _; unfold mendG; rw [if_pos hl]; rfl
    obtain ⟨v, h1, h2, h3, h4, h5, h6, h7⟩ := hR
    obtain ⟨A, c, rfl⟩ := own_slice3 h3
    have H1 := hid h1
    have H2 := hid h2
    have H3 := hid h3
    have H4 := hid h4
    have H7 := hid h7
    obtain ⟨At, ct, rfl, tm, _, hta⟩ := h7
    unfold maxLen at tm
    have HTA := hid hta
    have c0 := Has.cell h2 0
    have f0 := Has.froz h2 0
    have c1 := Has.cell h4 0
    simp at c0 c1
    obtain ⟨i0, hi0, hz0, hz1, hz2⟩ := info_parts infoInt
    have fin : Hid (∀ (v5 : Value) (w5 : World) (o : Obj), w5.ownsRow (bo + 1) 3 1 v5 (out.length + 1) (out.map (Value.int .i64) ++ [.int .i64 (clampT t out.length m)]) → (w.alloc o).grownBy w5 (Value.slice A out.length c).ownBlock → (v5.ownBlock = (Value.slice A out.length c).ownBlock ∨ v5.ownBlock = some (w.alloc o).heap.size) → AskPost (MendR bo bt (.slice At t.length ct) t) D (mendG t out m) w (.returned (.int .i64 (clampT t out.length m))) (w5.setCell ⟨bo, 0, none⟩ v5)) := by
      intro v5 w5 o ho hg ha s' x hsx
      rw [FR.out] at hsx
      injection hsx with hsx
      injection hsx with e1 e2
      subst e1 e2
      have sg := hg.size
      simp only [World.size_alloc] at sg
      have vb : ∀ k, (Value.slice A out.length c).ownBlock = some k → bo + 1 ≤ k := own_ge H3.out
      have old : ∀ b, b < w.heap.size → (Value.slice A out.length c).ownBlock ≠ some b → w5.heap[b]? = w.heap[b]? := fun b hb hne => (hg.block b (by simp; omega) fun e => hne e.symm).trans (Below.heap_alloc _ _ _ hb)
      have b5 := own_ge ho
      refine ⟨rfl, ?_, fun b => b = bo ∨ v5.ownBlock = some b, ⟨v5, fun b => Iff.rfl, ?_, ?_, ?_, h5, by simp; omega, ?_⟩, fun b hb => ?_⟩
      · have hb1 : Below 0 w (w5.setCell ⟨bo, 0, none⟩ v5) := (((Below.refl 0 w).alloc (Nat.zero_le _) o).grown hg (Nat.zero_le _) fun _ _ => Nat.zero_le _).setCell (Nat.zero_le _) v5
        refine ⟨hb1, fun b hb hD => ?_⟩
        have n1 : b ≠ bo := fun e => hD ((H1.out b).2 (.inl e))
        have n2 : (Value.slice A out.length c).ownBlock ≠ some b := fun e => hD ((H1.out b).2 (.inr e))
        rw [Below.heap_setCell _ _ _ _ (by simpa using n1)]
        exact old b hb n2
      · have h := Has.set ((old bo (by omega) (fun e => by have := vb bo e; omega)).trans H2.out) 0 v5
        simpa using h
      · have : out.map (Value.int .i64) ++ [.int .i64 (clampT t out.length m)] = (out ++ [clampT t out.length m]).map (Value.int .i64) := by simp
        rw [this] at ho
        rw [List.length_append]
        exact own_keep ho fun k hk => Below.heap_setCell _ _ _ _ (by have := b5 k hk; simp; omega)
      · rw [Below.heap_setCell _ _ _ _ (by simp; omega)]
        exact (old bt (by omega) (fun e => by have := vb bt e; omega)).trans H4.out
      · exact H7.out.keep fun b hb => by
          have hb' : b < bo := hb
          rw [Below.heap_setCell _ _ _ _ (by simp; omega)]
          exact old b (by omega) (fun e => by have := vb b e; omega)
      · rcases hb with h | h
        · exact .inl ((H1.out b).2 (.inl h))
        · rcases ha with e | e
          · exact .inl ((H1.out b).2 (.inr (by rw [← e]; exact h)))
          · rw [e] at h; injection h with h; simp at h; exact .inr (by omega)
    clear h1 h2 h3 h4 hta hok
    by_cases hlt : out.length < t.length
    · obtain ⟨b1, o1, rfl, hb1, hc1⟩ := HTA.out (by omega)
      have q1 : w.cell? ⟨b1, o1 + out.length, none⟩ = some (.int .i64 (at0 t out.length)) := hc1 out.length hlt
      have d1 : decide ((out.length : Int) < (t.length : Int)) = true := by simp; omega
      have d2 : (out.length : Int) < (t.length : Int) := by omega
      have CL : Hid (clampT t out.length m = max 0 (min (at0 t out.length) m)) := by show _ = _; unfold clampT; rw [if_pos hlt]
      rw [CL.out] at fin
      generalize at0 t out.length = z at *
      clear hc1 hlt
      go_enter Tryd.func36, Tryd.ntmps36
      go_wp2_with (at_builtin; refine wpList_app _ rfl (.tmp 19) (.tmp 21) 25 rfl (bo + 1) 3 i0 (.int .i64 0) 1 8 Tryd.underlying25 hi0 hz0 hz1 hz2 rfl (by decide) _ _ _ rfl (H3.out.alloc _) _ _ 1 [.int .i64 (max 0 (min z m))] rfl (cells_oneG _ _ _ (by simp)) (by intro u hu; simp at hu; subst hu; rfl) (by unfold maxLen; omega) (by omega) (by simp; omega) ?_; intro v5 w5 hown5 hgrow5 hat5; have PF := hid (fin.out v5 w5 _ hown5 hgrow5 hat5); have X5 := Has.grown (Has.alloc H2.out (.cells #[.int .i64 (max 0 (min z m))] 3)) hgrow5 (fun e => by have := own_ge H3.out _ e.symm; omega); have e5 := Has.cell X5 0; have g5 := Has.froz X5 0; simp at e5; obtain ⟨A5, c5, rfl⟩ := own_slice3 hown5; clear hown5 hgrow5 hat5 X5)
      go_ret
      exact PF.out
    · have d1 : decide ((out.length : Int) < (t.length : Int)) = false := by simp; omega
      have d2 : (t.length : Int) ≤ (out.length : Int) := by omega
      have d3 : t.length ≤ out.length := by omega
      have CL : Hid (clampT t out.length m = 0) := by show _ = _; unfold clampT; rw [if_neg hlt]
      rw [CL.out] at fin
      clear hlt
      go_enter Tryd.func36, Tryd.ntmps36
      go_wp2_with (at_builtin; refine wpList_app _ rfl (.tmp 19) (.tmp 21) 25 rfl (bo + 1) 3 i0 (.int .i64 0) 1 8 Tryd.underlying25 hi0 hz0 hz1 hz2 rfl (by decide) _ _ _ rfl (H3.out.alloc _) _ _ 1 [.int .i64 0] rfl (cells_oneG _ _ _ (by simp)) (by intro u hu; simp at hu; subst hu; rfl) (by unfold maxLen; omega) (by omega) (by simp; omega) ?_; intro v5 w5 hown5 hgrow5 hat5; have PF := hid (fin.out v5 w5 _ hown5 hgrow5 hat5); have X5 := Has.grown (Has.alloc H2.out (.cells #[.int .i64 0] 3)) hgrow5 (fun e => by have := own_ge H3.out _ e.symm; omega); have e5 := Has.cell X5 0; have g5 := Has.froz X5 0; simp at e5; obtain ⟨A5, c5, rfl⟩ := own_slice3 hown5; clear hown5 hgrow5 hat5 X5)
      go_ret
      exact PF.out
/-- what Mend answers -/
def mendR (g : Ge) (t : List Int) : List Int := if chkG g = 0 then mendL g t else []
def MendPost (g : Ge) (t : List Int) (w : World) (e : Ending) (w' : World) : Prop := ∃ v, e = .returned (.tuple #[v, errV (chkG g)]) ∧ w'.ownsRow w.heap.size 3 1 v (mendR g t).length ((mendR g t).map (Value.int .i64)) ∧ Below w.heap.size w w'
set_option maxRecDepth 100000 in
set_option maxHeartbeats 2000000 in
theorem mend_any (g : Ge) (t : List Int) (F : Nat → Prop) (u v x c tv : Value) (w : World) (hF : ∀ b, F b → b < w.heap.size) (hx : GeIn F w g u v x c) (ht : IntsIn .i64 F w tv t) :
    Calls Tryd.prog 19 #[.agg #[u, v, x, c], tv] w (MendPost g t w) := by
  have HX := hid hx
  have HF := hid hF
  have HT := hid ht
  have ML : Hid (chkG g = 0 → ∃ z, g.made.run (mendG t) [] = .ok (mendL g t, z)) := mendG_run g t
  have MW : Hid (chkG g = 0 → g.err = 0 ∧ g.wide) := fun h => ⟨(chkG_good h).2, Ge.parts_wide g 0 (chkG_good h).1⟩
  have MK := hid (made_any g)
  have CK := hid (fun w => gcheck_any g F u v x c w)
  have MR : Hid (chkG g = 0 → mendR g t = mendL g t) := fun h => by unfold mendR; rw [if_pos h]
  have MR0 : Hid (chkG g ≠ 0 → mendR g t = []) := fun h => by unfold mendR; rw [if_neg h]
  obtain ⟨k, a, b, s⟩ := g
  generalize hG : Ge.mk k a b s = G at HX ML MW MK CK MR MR0 ⊢
  obtain ⟨A, cp, rfl, rfl, rfl, rfl, l1, l2, _⟩ := hx.box
  obtain ⟨At, ct, rfl, tm, _, _⟩ := ht
  clear hF hx hG tm
  have W2 : Hid (Below w.heap.size w ((w.alloc (.cells #[.int .i64 k, .int .i64 a, .int .i64 b, .slice A s.length cp] 24)).alloc (.cells #[.slice At t.length ct] 25))) := ((Below.refl _ _).alloc (Nat.le_refl _) _).alloc (by simp) _
  have X0 : Hid (((w.alloc (.cells #[.int .i64 k, .int .i64 a, .int .i64 b, .slice A s.length cp] 24)).alloc (.cells #[.slice At t.length ct] 25)).heap[w.heap.size]? = some (.cells #[.int .i64 k, .int .i64 a, .int .i64 b, .slice A s.length cp] 24 (0, 0))) := Has.alloc (Has.new _ _) _
  have X1 : Hid (((w.alloc (.cells #[.int .i64 k, .int .i64 a, .int .i64 b, .slice A s.length cp] 24)).alloc (.cells #[.slice At t.length ct] 25)).heap[w.heap.size + 1]? = some (.cells #[.slice At t.length ct] 25 (0, 0))) := Has.newAt _ _ (by simp)
  have hmf : ∀ (fn : Fn) (first cap : Array Value) (w : World), (Instr.makeFunc fn first cap).run Tryd.prog w = .ok (.func fn first cap) w := fun _ _ _ _ => rfl
  go_enter Tryd.func19, Tryd.ntmps19
  go_wp2_with fail
  refine (CK.out _ (fun b hb => by have := HF.out b hb; simp; omega) (GeIn.keep (Same.of_below W2.out HF.out) _ HX.out)).mono ?_
  rintro e w1 ⟨rfl, hb1⟩
  have s1 := hb1.size
  simp only [World.size_alloc] at s1
  have B1 := hid (W2.out.trans (hb1.mono (by simp; omega)))
  have Y0 := hid (Has.below X0.out hb1 (by simp; omega))
  have Y1 := hid (Has.below X1.out hb1 (by simp))
  have y0 := Has.cell Y0.out 0
  have y1 := Has.cell Y0.out 1
  have y2 := Has.cell Y0.out 2
  have y3 := Has.cell Y0.out 3
  simp at y0 y1 y2 y3
  have lY := Has.lt Y0.out
  clear hb1 X0 X1 W2
  by_cases hc : chkG G = 0
  · rw [hc, errV_0]
    have HC0 := hid hc
    have EW := hid (MW.out hc)
    obtain ⟨z, hz⟩ := ML.out hc
    have RN := hid hz
    have MR2 := hid (MR.out hc)
    clear hc hz MR0
    go_wp2_with fail
    have RK : Hid (MendR w1.heap.size (w.heap.size + 1) (.slice At t.length ct) t [] (fun b => b = w1.heap.size) (w1.alloc (.cells #[.slice none 0 0] 25))) :=
      ⟨.slice none 0 0, fun b => by simp [Value.ownBlock], Has.new _ _, World.ownsRow_nil _ _ _ _, Has.alloc Y1.out _, by omega, by simp, (HT.out.keep (Same.of_below (B1.out.alloc (by omega) _) HF.out)).more fun b hb => by have := HF.out b hb; omega⟩
    refine (MK.out (List Int) w1.heap.size _ _ (MendR w1.heap.size (w.heap.size + 1) (.slice At t.length ct) t) (mendG t) [] (mendL G t) z (fun b => b = w1.heap.size) F _ _ _ _ _ (fun _ _ => by kernel_rfl) (mend_asks _ _ _ _) (fun b hb => by have := HF.out b hb; exact ⟨by simp; omega, by omega⟩) (GeIn.keep (Same.of_below (B1.out.alloc (by omega) _) HF.out) _ HX.out) RK.out EW.out.1 EW.out.2 RN.out).mono ?_
    rintro e w2 ⟨lv, nv, Av, len, cpv, rfl, ho, D', ⟨v2, r1, r2, r3, r4, r5, r6, r7⟩, hD'⟩
    obtain ⟨A2, c2, rfl⟩ := own_slice3 r3
    have R3 := hid (own_base1 r3 (show w.heap.size ≤ w1.heap.size + 1 by omega))
    have q0 := Has.cell r2 0
    simp at q0
    have B2 : Hid (Below w.heap.size w w2) := B1.out.trans ⟨ho.1.os, ho.1.tape, ho.1.output, by have := ho.1.size; simp at this; omega, fun b hb => (ho.2 b (by simp; omega) (by omega)).trans (Below.heap_alloc _ _ _ (by omega))⟩
    clear r1 r2 r3 r4 r5 r6 r7 ho hD'
    go_wp2_with fail
    go_ret2
    exact ⟨_, by rw [HC0.out]; rfl, by rw [MR2.out]; exact R3.out, B2.out⟩
  · have HC0 := hid hc
    have MR2 := hid (MR0.out hc)
    rw [errV_no hc]
    clear hc MR
    go_wp2_with fail
    go_ret2
    exact ⟨_, by rw [errV_no HC0.out]; rfl, by rw [MR2.out]; exact World.ownsRow_nil _ _ _ _, B1.out⟩
end Go.Proofs.YtopehfmppfibhaaDoor
