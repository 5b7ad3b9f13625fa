/- What gen.Replay returns of whatever tape: the value, in memory of its own, or the fault: what Check says, what the chooser panics with, or that the tape goes on. No conditions. -/
import Derived.Test.YtopehfmppfibhaaDoorGna
import Derived.Test.YtopehfmppfibhaaDoorGme
import Derived.Test.YtopehfmppfibhaaDoorGrp
import Derived.Defers
import Derived.Recover
namespace Go.Proofs.YtopehfmppfibhaaDoor
open Go.RowKit Go.Deep
theorem replayF_no {t : List Int} {pos : Nat} {m c : Int} (h : replayF t pos m = .error c) : (t.length ≤ pos ∧ c = 5) ∨ (pos < t.length ∧ ¬ (0 ≤ at0 t pos ∧ at0 t pos ≤ m) ∧ c = 1) := by
  unfold replayF at h
  split at h
  · split at h
    · cases h
    · injection h with h; exact .inr ⟨by assumption, by assumption, h.symm⟩
  · injection h with h; exact .inl ⟨by omega, h.symm⟩
set_option maxRecDepth 100000 in
set_option maxHeartbeats 2000000 in
theorem replayP_asks (ba bt : Nat) (tv : Value) (t : List Int) : ChoosesP ba 39 #[.pointer (some ⟨ba, 0, none⟩), .pointer (some ⟨bt, 0, none⟩)] (ReplR ba bt tv t) (replayF t) where
  keep := fun s D w w' h hD hB hs => by
    obtain ⟨h1, h2, h3, h4, h5, h6, h7⟩ := h
    exact ⟨h1, (hD ba ((h1 ba).2 rfl)).trans h2, h3, (hB bt h5).trans h4, h5, by omega, h7.keep fun b hb => hB b hb⟩
  lo := fun s D w h => ⟨by have := h.2.2.2.2.2.1; omega, fun b hb => by have := (h.1 b).1 hb; omega⟩
  isIn := fun s D w h b hb => by have := (h.1 b).1 hb; have := h.2.2.2.2.2.1; omega
  ans := fun s m s' x h hm => by
    unfold replayF at h
    split at h
    · split at h
      · rename_i h2
        injection h with h; injection h with _ h; rw [← h]; exact h2
      · cases h
    · cases h
  ask := by
    intro pos m D w hR hm0 hm1 hok
    show Calls Tryd.prog 39 #[.int .i64 m, .pointer (some ⟨ba, 0, none⟩), .pointer (some ⟨bt, 0, none⟩)] w _
    have FX : Hid ((∃ hl : pos < t.length ∧ 0 ≤ at0 t pos ∧ at0 t pos ≤ m, replayF t pos m = .ok (pos + 1, at0 t pos)) ∨ (pos < t.length ∧ ¬ (0 ≤ at0 t pos ∧ at0 t pos ≤ m) ∧ replayF t pos m = .error 1) ∨ (t.length ≤ pos ∧ replayF t pos m = .error 5)) := by
      show _ ∨ _
      unfold replayF
      by_cases h1 : pos < t.length
      · by_cases h2 : 0 ≤ at0 t pos ∧ at0 t pos ≤ m
        · exact .inl ⟨⟨h1, h2⟩, by rw [if_pos h1, if_pos h2]⟩
        · exact .inr (.inl ⟨h1, h2, by rw [if_pos h1, if_neg h2]⟩)
      · exact .inr (.inr ⟨by omega, by rw [if_neg h1]⟩)
    obtain ⟨h1, h2, h3, h4, h5, h6, h7⟩ := hR
    have H1 := hid h1
    have H2 := hid h2
    have H4 := hid h4
    have H7 := hid h7
    obtain ⟨At, ct, rfl, tm, _, hta⟩ := h7
    unfold maxLen at tm
    have c0 := Has.cell h2 0
    have f0 := Has.froz h2 0
    have c1 := Has.cell h4 0
    simp at c0 c1
    have HTA := hid hta
    clear h1 h2 h4 hta hok
    rcases FX.out with ⟨hl, hfr⟩ | ⟨hl, hno, hfr⟩ | ⟨hl, hfr⟩
    · have FR := hid hfr
      clear hfr FX
      obtain ⟨b1, o1, rfl, hb1, hc1⟩ := HTA.out (by omega)
      have q1 : w.cell? ⟨b1, o1 + pos, none⟩ = some (.int .i64 (at0 t pos)) := hc1 pos hl.1
      obtain ⟨l0, l1, l2⟩ := hl
      have d0 : ((pos : Int) == (t.length : Int)) = false := by simp; omega
      have d1 : (pos == t.length) = false := by simp; omega
      have d2 : (pos : Int) < (t.length : Int) := by omega
      have d3 : (t.length : Int) ≤ 9223372036854775807 := by omega
      generalize hz : at0 t pos = z at *
      have g1 : decide (z < 0) = false := by simp; omega
      have g2 : decide (m < z) = false := by simp; omega
      have fin : Hid (AskP (ReplR ba bt (.slice (some ⟨b1, o1, none⟩) t.length ct) t) D (replayF t pos m) w (.returned (.int .i64 z)) (w.setCell ⟨ba, 0, none⟩ (.int .i64 ((pos + 1 : Nat) : Int)))) := by
        show AskP _ _ _ _ _ _
        rw [FR.out]
        refine ⟨⟨(Below.refl 0 w).setCell (Nat.zero_le _) _, fun b hb hD => Below.heap_setCell _ _ _ _ (fun e => hD ((H1.out b).2 e))⟩, rfl, D, ⟨H1.out, ?_, by omega, ?_, h5, by simpa using h6, ?_⟩, fun b hb => .inl hb⟩
        · have h := Has.set H2.out 0 (.int .i64 ((pos + 1 : Nat) : Int))
          simpa using h
        · rw [Below.heap_setCell _ _ _ _ (by simp; omega)]; exact H4.out
        · exact H7.out.keep fun b hb => by
            have hb' : b < ba := hb
            rw [Below.heap_setCell _ _ _ _ (by simp; omega)]
      have e1 : ((pos + 1 : Nat) : Int) = (pos : Int) + 1 := by omega
      rw [e1] at fin
      clear hc1 hz e1 FR
      go_enter Tryd.func39, Tryd.ntmps39
      go_wp2_with fail
      go_ret
      exact fin.out
    · rw [hfr]
      obtain ⟨b1, o1, rfl, hb1, hc1⟩ := HTA.out (by omega)
      have q1 : w.cell? ⟨b1, o1 + pos, none⟩ = some (.int .i64 (at0 t pos)) := hc1 pos hl
      have d0 : ((pos : Int) == (t.length : Int)) = false := by simp; omega
      have d1 : (pos == t.length) = false := by simp; omega
      have d2 : (pos : Int) < (t.length : Int) := by omega
      have d3 : (t.length : Int) ≤ 9223372036854775807 := by omega
      generalize hz : at0 t pos = z at *
      by_cases z0 : z < 0
      · have g1 : decide (z < 0) = true := by simpa using z0
        clear hc1 hz hfr FX hno
        go_enter Tryd.func39, Tryd.ntmps39
        go_wp2_with fail
        exact ⟨rfl, OutsD.refl _ _, rfl⟩
      · have g1 : decide (z < 0) = false := by simpa using z0
        have g2 : decide (m < z) = true := by simp; omega
        have g3 : m < z := by omega
        clear hc1 hz hfr FX hno
        go_enter Tryd.func39, Tryd.ntmps39
        go_wp2_with fail
        exact ⟨rfl, OutsD.refl _ _, rfl⟩
    · rw [hfr]
      obtain rfl : pos = t.length := by omega
      clear hfr FX HTA
      go_enter Tryd.func39, Tryd.ntmps39
      go_wp2_with fail
      exact ⟨rfl, OutsD.refl _ _, rfl⟩
set_option maxRecDepth 100000 in
set_option maxHeartbeats 4000000 in
theorem rcatch_panicking (g : Nat) (q : Addr) (c : Int) (o0 o1 o2 : Value) (t : TypeId) (older : List PanicEntry) (w : World) (hX : w.heap[g]? = some (.cells #[o0, o1, o2] t (0, 0))) (hq : w.cell? q = some .nilIface) (hz2 : w.frozen? q = false) (hne : g ≠ q.block) :
    CallsD Tryd.prog 38 #[.pointer (some ⟨g, 0, none⟩), .pointer (some q)] (.panicking ({ v := .iface 60 (.int .i64 c), recovered := false } :: older)) w fun e u' w' =>
      e = .returned (.tuple #[]) ∧ u' = .panicking ({ v := .iface 60 (.int .i64 c), recovered := true } :: older) ∧ w' = (((w.setCell ⟨g, 0, none⟩ (.bool false)).setCell ⟨g, 1, none⟩ (.int .i64 0)).setCell ⟨g, 2, none⟩ (.slice none 0 0)).setCell q (.iface 60 (.int .i64 c)) := by
  have h0 := Has.cell hX 0
  have h1 := Has.cell hX 1
  have h2 := Has.cell hX 2
  have f0 := Has.froz hX 0
  have f1 := Has.froz hX 1
  have f2 := Has.froz hX 2
  simp at h0 h1 h2
  refine callsD_of_wpS Tryd.func38 rfl fun c₀ cs hu => ?_
  apply wpS_seq
  apply wpS_region
  simp [wpOpsS, go_sem, recoverD, hu, Tryd.ntmps38, Exit.thenS]
  refine wpS_of_wp ?_
  simp only [Array.replicate_succ,
     Array.replicate_zero, List.push_toArray, List.append_toArray, List.nil_append, List.cons_append, List.setIfInBounds_toArray, List.set_cons_zero, List.set_cons_succ]
  have assertE : ∀ (W : World) (xT : TypeId) (v : Value), (Instr.typeAssert (.iface 60 v) xT 60 true).run Tryd.prog W = .ok (.tuple #[v, .bool true]) W := fun W xT v => by kernel_rfl
  have S1 := set3 hX (.bool false) (.int .i64 0) (.slice none 0 0)
  have hq3 : (((w.setCell ⟨g, 0, none⟩ (.bool false)).setCell ⟨g, 1, none⟩ (.int .i64 0)).setCell ⟨g, 2, none⟩ (.slice none 0 0)).cell? q = some .nilIface := (World.cell?_of_block (w := w) (S1.2.1 _ hne.symm)).trans hq
  have hz3 : (((w.setCell ⟨g, 0, none⟩ (.bool false)).setCell ⟨g, 1, none⟩ (.int .i64 0)).setCell ⟨g, 2, none⟩ (.slice none 0 0)).frozen? q = false := (World.frozen?_of_block (w := w) (S1.2.1 _ hne.symm)).trans hz2
  clear S1 hX
  go_wp2_with fail
  clear hq hz2 hne assertE hq3 hz3 h0 h1 h2 f0 f1 f2
  cases c₀
  simp_all [bodyPostS, results, Tryd.results38]
/-- what Replay answers -/
def replR (g : Ge) (t : List Int) : Except Int Va := if chkG g ≠ 0 then .error (chkG g) else match g.made.run (replayF t) 0 with
  | .error c => .error c
  | .ok (pos, z) => if pos < t.length then .error 3 else .ok z
def ReplP (r : Except Int Va) (w : World) (e : Ending) (w' : World) : Prop := Below w.heap.size w w' ∧ match r with
  | .error c => c ≠ 0 ∧ e = .returned (.tuple #[.agg #[.bool false, .int .i64 0, .slice none 0 0], errV c])
  | .ok (.mk l n s) => ∃ c, e = .returned (.tuple #[.agg #[.bool l, .int .i64 n, c], .nilIface]) ∧ VRow w.heap.size (fun _ => False) s c w' ∧ (Lit.int .i64 n).wf = true
theorem run_replay_no {α : Type} (t : List Int) : ∀ (ch : Ch α) (pos : Nat) (c : Int), ch.run (replayF t) pos = .error c → c ≠ 0
  | .done _, _, _, h => by rw [Ch.run] at h; cases h
  | .ask m k, pos, c, h => by
    rw [Ch.run] at h
    cases hf : replayF t pos m with
    | error e =>
      rw [hf] at h
      injection h with h
      rcases replayF_no hf with h1 | h1
      · omega
      · omega
    | ok p => obtain ⟨p1, x⟩ := p; rw [hf] at h; exact run_replay_no t (k x) p1 c h
set_option maxRecDepth 100000 in
set_option maxHeartbeats 4000000 in
theorem replay_any (g : Ge) (t : List Int) (F : Nat → Prop) (u v x c tv : Value) (w : World) (hF : ∀ b, F b → b < w.heap.size) (hx : GeIn F w g u v x c) (ht : IntsIn .i64 F w tv t) :
    Calls Tryd.prog 20 #[.agg #[u, v, x, c], tv] w (ReplP (replR g t) w) := by
  have HX := hid hx
  have HF := hid hF
  have HT := hid ht
  have EW : Hid (chkG g = 0 → g.err = 0 ∧ g.wide) := fun hc => ⟨(chkG_good hc).2, Ge.parts_wide g 0 (chkG_good hc).1⟩
  have MK := hid (madeP_any g)
  have RR1 : Hid (chkG g ≠ 0 → replR g t = .error (chkG g)) := fun h => by unfold replR; rw [if_pos h]
  have RR2 : Hid (∀ c, chkG g = 0 → g.made.run (replayF t) 0 = .error c → replR g t = .error c) := fun c h h2 => by unfold replR; rw [if_neg (by omega), h2]
  have RR3 : Hid (∀ pos z, chkG g = 0 → g.made.run (replayF t) 0 = .ok (pos, z) → replR g t = if pos < t.length then .error 3 else .ok z) := fun pos z h h2 => by unfold replR; rw [if_neg (by omega), h2]
  have NE := hid (run_replay_no t g.made 0)
  have CK := hid (fun w => gcheck_any g F u v x c w)
  obtain ⟨k, a, b, s⟩ := g
  generalize hG : Ge.mk k a b s = G at HX EW MK CK RR1 RR2 RR3 NE ⊢
  obtain ⟨A, cp, rfl, rfl, rfl, rfl, l1, l2, _⟩ := hx.box
  obtain ⟨At, ct, rfl, tm, _, _⟩ := ht
  unfold maxLen at tm
  clear hF hx hG
  have hmf : ∀ (fn : Fn) (first cap : Array Value) (w : World), (Instr.makeFunc fn first cap).run Tryd.prog w = .ok (.func fn first cap) w := fun _ _ _ _ => rfl
  have W4 := hid (gbelow4 w (.cells #[.int .i64 k, .int .i64 a, .int .i64 b, .slice A s.length cp] 24) (.cells #[.slice At t.length ct] 25) (.cells #[.bool false, .int .i64 0, .slice none 0 0] 47) (.cells #[.nilIface] 29))
  go_enter_defers Tryd.func20, Tryd.ntmps20
  go_wp2_with fail
  refine (CK.out _ (fun b hb => by have := HF.out b hb; simp; omega) (GeIn.keep (Same.of_below W4.out HF.out) _ HX.out)).mono ?_
  rintro e w1 ⟨rfl, hb1⟩
  have B4 := hid (hb1.mono (B' := w.heap.size + 4) (by simp))
  have s1 := hb1.size
  simp only [World.size_alloc] at s1
  have B1 := hid (W4.out.trans (hb1.mono (by simp; omega)))
  obtain ⟨X0, X1, X2, X3⟩ := gboxes4 _ _ _ _ _ _ B4.out
  have Y0 := hid X0
  have Y1 := hid X1
  have Y2 := hid X2
  have Y3 := hid X3
  have y0 := Has.cell X0 0
  have y1 := Has.cell X0 1
  have y2 := Has.cell X0 2
  have y3 := Has.cell X0 3
  simp at y0 y1 y2 y3
  have lY : w.heap.size < w1.heap.size := by omega
  clear hb1 X0 X1 X2 X3 CK
  obtain ⟨ce, hce⟩ : ∃ ce, chkG G = ce := ⟨_, rfl⟩
  rw [hce] at RR1 RR2 RR3 EW ⊢
  clear hce
  have f0 := Has.froz Y2.out 0
  have f1 := Has.froz Y2.out 1
  have f2 := Has.froz Y2.out 2
  have z0 := Has.cell Y2.out 0
  have z1 := Has.cell Y2.out 1
  have z2 := Has.cell Y2.out 2
  have f3 := Has.froz Y3.out 0
  have z3 := Has.cell Y3.out 0
  simp at z0 z1 z2 z3
  by_cases hc : ce = 0
  case neg =>
    rw [errV_no hc]
    have S1 := hid (set3 Y2.out (.bool false) (.int .i64 0) (.slice none 0 0))
    have E3 := hid ((S1.out.2.1 (w.heap.size + 1 + 1 + 1) (by omega)).trans Y3.out)
    have S3 := hid (Has.set E3.out 0 (.iface 60 (.int .i64 ce)))
    have V3 := hid (Has.far S1.out.1 (p := ⟨w.heap.size + 1 + 1 + 1, 0, none⟩) (by simp) (.iface 60 (.int .i64 ce)))
    have B3 := hid ((B1.out.trans (S1.out.2.2.2.mono (by omega))).setCell (p := ⟨w.heap.size + 1 + 1 + 1, 0, none⟩) (by simp; omega) (.iface 60 (.int .i64 ce)))
    have RX : Hid (replR G t = .error ce) := RR1.out hc
    have HC := hid hc
    clear hc RR1 RR2 RR3 EW
    go_wp2_with fail
    exact ⟨_, replay_results _ _ _ _ _ _ _ _ _ _ rfl rfl ((Has.cell V3.out 0).trans rfl) ((Has.cell V3.out 1).trans rfl) ((Has.cell V3.out 2).trans rfl) ((Has.cell S3.out 0).trans rfl), by rw [RX.out]; exact ⟨B3.out, HC.out, by rw [errV_no HC.out]; rfl⟩⟩
  subst hc
  have EW2 := hid (EW.out rfl)
  have RQ2 : Hid (∀ c, G.made.run (replayF t) 0 = .error c → replR G t = .error c) := fun c h => RR2.out c rfl h
  have RQ3 : Hid (∀ pos z, G.made.run (replayF t) 0 = .ok (pos, z) → replR G t = if pos < t.length then .error 3 else .ok z) := fun pos z h => RR3.out pos z rfl h
  have PM := hid (MK.out Nat w1.heap.size 39 #[.pointer (some ⟨w1.heap.size, 0, none⟩), .pointer (some ⟨w.heap.size + 1, 0, none⟩)] (ReplR w1.heap.size (w.heap.size + 1) (.slice At t.length ct) t) (replayF t) 0 (fun b => b = w1.heap.size) F)
  clear EW RR1 RR2 RR3
  generalize hry : G.made.run (replayF t) 0 = ry at *
  rw [errV_0]
  clear hry MK z0 z1 z2 z3 f0 f1 f2 f3
  have z0 := Has.cell Y2.out 0
  have z1 := Has.cell Y2.out 1
  have z2 := Has.cell Y2.out 2
  have f0 := Has.froz Y2.out 0
  have f1 := Has.froz Y2.out 1
  have f2 := Has.froz Y2.out 2
  simp at z0 z1 z2
  go_wp2_with fail
  have RK : Hid (ReplR w1.heap.size (w.heap.size + 1) (.slice At t.length ct) t 0 (fun b => b = w1.heap.size) (w1.alloc (.cells #[.int .i64 0] 3))) :=
    ⟨fun b => Iff.rfl, Has.new _ _, Nat.zero_le _, Has.alloc Y1.out _, by omega, by simp, (HT.out.keep (Same.of_below (B1.out.alloc (by omega) _) HF.out)).more fun b hb => by have := HF.out b hb; omega⟩
  refine (PM.out _ _ _ _ _ (fun _ _ => by kernel_rfl) (replayP_asks _ _ _ _) (fun b hb => by have := HF.out b hb; exact ⟨by simp; omega, by omega⟩) (GeIn.keep (Same.of_below (B1.out.alloc (by omega) _) HF.out) _ HX.out) RK.out EW2.out.1 EW2.out.2 NE.out).mono ?_
  rintro e w2 ⟨ho, he⟩
  have s2 := ho.1.size
  simp only [World.size_alloc] at s2
  have OB : Hid (∀ b, b < w1.heap.size → w2.heap[b]? = w1.heap[b]?) := fun b hb => (ho.2 b (by simp; omega) (by omega)).trans (Below.heap_alloc _ _ _ hb)
  have B2 : Hid (Below w.heap.size w w2) := B1.out.trans ⟨ho.1.os, ho.1.tape, ho.1.output, by omega, fun b hb => OB.out b (by omega)⟩
  clear z0 z1 z2 f0 f1 f2
  have Z2 := hid ((OB.out (w.heap.size + 1 + 1) (by omega)).trans Y2.out)
  have Z3 := hid ((OB.out (w.heap.size + 1 + 1 + 1) (by omega)).trans Y3.out)
  have z0 := Has.cell Z2.out 0
  have z1 := Has.cell Z2.out 1
  have z2 := Has.cell Z2.out 2
  have f0 := Has.froz Z2.out 0
  have f1 := Has.froz Z2.out 1
  have f2 := Has.froz Z2.out 2
  have z3 := Has.cell Z3.out 0
  have f3 := Has.froz Z3.out 0
  simp at z0 z1 z2 z3
  cases ry with
  | error cc =>
    simp only at he
    subst he
    have RX : Hid (replR G t = .error cc) := RQ2.out cc rfl
    have NC : Hid (cc ≠ 0) := NE.out cc rfl
    have S1 := hid (set3 Z2.out (.bool false) (.int .i64 0) (.slice none 0 0))
    have E3 := hid ((S1.out.2.1 (w.heap.size + 1 + 1 + 1) (by omega)).trans Z3.out)
    have S3 := hid (Has.set E3.out 0 (.iface 60 (.int .i64 cc)))
    have V3 := hid (Has.far S1.out.1 (p := ⟨w.heap.size + 1 + 1 + 1, 0, none⟩) (by simp) (.iface 60 (.int .i64 cc)))
    have B3 := hid ((B2.out.trans (S1.out.2.2.2.mono (by omega))).setCell (p := ⟨w.heap.size + 1 + 1 + 1, 0, none⟩) (by simp; omega) (.iface 60 (.int .i64 cc)))
    refine leaves_cons (f := 38) (args := #[.pointer (some ⟨w.heap.size + 1 + 1, 0, none⟩), .pointer (some ⟨w.heap.size + 1 + 1 + 1, 0, none⟩)]) (by simp) (by simp [go_sem]) ?_
    refine (rcatch_panicking _ _ _ _ _ _ _ [] _ Z2.out z3 f3 (by simp)).mono ?_
    rintro e u' w4 ⟨rfl, rfl, rfl⟩
    exact ⟨_, replay_results _ _ _ _ _ _ _ _ _ _ rfl rfl ((Has.cell V3.out 0).trans rfl) ((Has.cell V3.out 1).trans rfl) ((Has.cell V3.out 2).trans rfl) ((Has.cell S3.out 0).trans rfl), by rw [RX.out]; exact ⟨B3.out, NC.out, by rw [errV_no NC.out]; rfl⟩⟩
  | ok py =>
  obtain ⟨pos, ⟨lv, nv, xs⟩⟩ := py
  simp only at he
  obtain ⟨D', c5, he, ⟨r1, r2, r3, r4, r5, r6, r7⟩, hD', hv, hwf⟩ := he
  obtain ⟨Av, cpv, rfl⟩ := hv.slice
  subst he
  have HV := hid hv
  have HW := hid hwf
  have RX := hid (RQ3.out pos _ rfl)
  have q0 := Has.cell r2 0
  have q1 := Has.cell r4 0
  simp at q0 q1
  have l7 : pos ≤ t.length := r3
  clear r1 r2 r3 r4 r5 r6 r7 ho hD' y0 y1 y2 y3 hv hwf RQ2 RQ3 NE
  by_cases hlt : pos < t.length
  · have RX2 : Hid (replR G t = .error 3) := by show _ = _; rw [RX.out, if_pos hlt]
    have i1 : (pos : Int) < (t.length : Int) := by omega
    have S1 := hid (set3 Z2.out (.bool lv) (.int .i64 nv) (.slice Av xs.length cpv))
    have S2 := hid (set3 S1.out.1 (.bool false) (.int .i64 0) (.slice none 0 0))
    have E3 := hid ((S2.out.2.1 (w.heap.size + 1 + 1 + 1) (by omega)).trans ((S1.out.2.1 (w.heap.size + 1 + 1 + 1) (by omega)).trans Z3.out))
    have S3 := hid (Has.set E3.out 0 (.iface 60 (.int .i64 3)))
    have V3 := hid (Has.far S2.out.1 (p := ⟨w.heap.size + 1 + 1 + 1, 0, none⟩) (by simp) (.iface 60 (.int .i64 3)))
    have B3 := hid (((B2.out.trans (S1.out.2.2.2.mono (by omega))).trans (S2.out.2.2.2.mono (by omega))).setCell (p := ⟨w.heap.size + 1 + 1 + 1, 0, none⟩) (by simp; omega) (.iface 60 (.int .i64 3)))
    clear RX
    go_wp2_with fail
    refine leaves_cons (f := 38) (args := #[.pointer (some ⟨w.heap.size + 1 + 1, 0, none⟩), .pointer (some ⟨w.heap.size + 1 + 1 + 1, 0, none⟩)]) (by simp) (by simp [go_sem]) ?_
    refine (rcatch_idle _ _ _).mono ?_
    rintro e u' w4 ⟨rfl, rfl, rfl⟩
    exact ⟨_, replay_results _ _ _ _ _ _ _ _ _ _ rfl rfl ((Has.cell V3.out 0).trans rfl) ((Has.cell V3.out 1).trans rfl) ((Has.cell V3.out 2).trans rfl) ((Has.cell S3.out 0).trans rfl), by rw [RX2.out]; exact ⟨B3.out, by decide, rfl⟩⟩
  · obtain rfl : pos = t.length := by omega
    have RX2 : Hid (replR G t = .ok (.mk lv nv xs)) := by show _ = _; rw [RX.out, if_neg (by omega)]
    have S1 := hid (set3 Z2.out (.bool lv) (.int .i64 nv) (.slice Av xs.length cpv))
    have S2 := hid (set3 S1.out.1 (.bool lv) (.int .i64 nv) (.slice Av xs.length cpv))
    have E3 := hid ((S2.out.2.1 (w.heap.size + 1 + 1 + 1) (by omega)).trans ((S1.out.2.1 (w.heap.size + 1 + 1 + 1) (by omega)).trans Z3.out))
    have S3 := hid (Has.set E3.out 0 .nilIface)
    have V3 := hid (Has.far S2.out.1 (p := ⟨w.heap.size + 1 + 1 + 1, 0, none⟩) (by simp) .nilIface)
    have B3 := hid (((B2.out.trans (S1.out.2.2.2.mono (by omega))).trans (S2.out.2.2.2.mono (by omega))).setCell (p := ⟨w.heap.size + 1 + 1 + 1, 0, none⟩) (by simp; omega) .nilIface)
    have BV : Hid (Below (w.heap.size + 2) w2 ((((((w2.setCell ⟨w.heap.size + 1 + 1, 0, none⟩ (.bool lv)).setCell ⟨w.heap.size + 1 + 1, 1, none⟩ (.int .i64 nv)).setCell ⟨w.heap.size + 1 + 1, 2, none⟩ (.slice Av xs.length cpv)).setCell ⟨w.heap.size + 1 + 1, 0, none⟩ (.bool lv)).setCell ⟨w.heap.size + 1 + 1, 1, none⟩ (.int .i64 nv)).setCell ⟨w.heap.size + 1 + 1, 2, none⟩ (.slice Av xs.length cpv))) := S1.out.2.2.2.trans S2.out.2.2.2
    have VV : Hid (VRow w.heap.size (fun _ => False) xs (.slice Av xs.length cpv) (((((((w2.setCell ⟨w.heap.size + 1 + 1, 0, none⟩ (.bool lv)).setCell ⟨w.heap.size + 1 + 1, 1, none⟩ (.int .i64 nv)).setCell ⟨w.heap.size + 1 + 1, 2, none⟩ (.slice Av xs.length cpv)).setCell ⟨w.heap.size + 1 + 1, 0, none⟩ (.bool lv)).setCell ⟨w.heap.size + 1 + 1, 1, none⟩ (.int .i64 nv)).setCell ⟨w.heap.size + 1 + 1, 2, none⟩ (.slice Av xs.length cpv)).setCell ⟨w.heap.size + 1 + 1 + 1, 0, none⟩ .nilIface)) := by
      refine (HV.out.keep (fun b h1 _ _ => ?_) (by simp) (fun b h => h.elim)).base (by simp; omega)
      have hb1 : w1.heap.size < b + 1 := by simp at h1; omega
      rw [Below.heap_setCell _ _ _ _ (by simp; omega), S2.out.2.1 b (by omega), S1.out.2.1 b (by omega)]
    clear RX
    go_wp2_with fail
    refine leaves_cons (f := 38) (args := #[.pointer (some ⟨w.heap.size + 1 + 1, 0, none⟩), .pointer (some ⟨w.heap.size + 1 + 1 + 1, 0, none⟩)]) (by simp) (by simp [go_sem]) ?_
    refine (rcatch_idle _ _ _).mono ?_
    rintro e u' w4 ⟨rfl, rfl, rfl⟩
    exact ⟨_, replay_results _ _ _ _ _ _ _ _ _ _ rfl rfl ((Has.cell V3.out 0).trans rfl) ((Has.cell V3.out 1).trans rfl) ((Has.cell V3.out 2).trans rfl) ((Has.cell S3.out 0).trans rfl), by rw [RX2.out]; exact ⟨B3.out, _, rfl, VV.out, HW.out⟩⟩
end Go.Proofs.YtopehfmppfibhaaDoor
