/- What gen.Replay returns of a tape that answers just what is asked: a value, and no fault. Conditions: that. -/
import Derived.Test.YtopehfmppfibhaaDoorGme
import Derived.Defers
import Derived.Recover
namespace Go.Proofs.YtopehfmppfibhaaDoor
open Go.RowKit Go.Deep
/-- the rule of Replay: the tape's own numbers, one by one -/
def replayF (t : List Int) (pos : Nat) (m : Int) : Except Int (Nat × Int) := if pos < t.length then (if 0 ≤ at0 t pos ∧ at0 t pos ≤ m then .ok (pos + 1, at0 t pos) else .error 1) else .error 5
theorem replay_mended {α : Type} (t : List Int) : ∀ (c : Ch α) (n : Nat) (out p r : List Int) (x : α), c.le n → c.run (mendF t) out = .ok (out ++ p, x) → c.run (replayF (out ++ p ++ r)) out.length = .ok (out.length + p.length, x)
  | .done y, _, out, p, r, x, _, hr => by
    rw [Ch.run] at hr ⊢
    injection hr with hr
    injection hr with h1 h2
    have : p = [] := by
      have := congrArg List.length h1
      simp at this
      exact this
    rw [this, h2]; rfl
  | .ask _ _, 0, _, _, _, _, h, _ => by rw [Ch.le] at h; exact h.elim
  | .ask m k, n + 1, out, p, r, x, hc, hr => by
    rw [Ch.le] at hc
    have hb := clamp_in t out.length hc.1
    rw [Ch.run] at hr
    simp only [mendF] at hr
    generalize clampT t out.length m = z at *
    obtain ⟨q, y, h1, _⟩ := mend_run t (k z) (out ++ [z])
    rw [h1] at hr
    injection hr with hr
    injection hr with e1 e2
    have ep : p = z :: q := by
      rw [List.append_assoc] at e1
      have := List.append_cancel_left e1
      simpa using this.symm
    subst ep
    subst e2
    have ih := replay_mended t (k z) n (out ++ [z]) q r y (hc.2.2 z hb.1 hb.2) h1
    have ez : at0 (out ++ z :: q ++ r) out.length = z := by
      unfold at0
      rw [List.getD_eq_getElem?_getD, List.append_assoc, List.getElem?_append_right (Nat.le_refl _), Nat.sub_self]; rfl
    rw [Ch.run, replayF, if_pos (by simp), ez, if_pos hb]
    show (k z).run (replayF (out ++ z :: q ++ r)) (out.length + 1) = _
    have e3 : out ++ [z] ++ q ++ r = out ++ z :: q ++ r := by simp
    rw [e3] at ih
    simp only [List.length_append, List.length_cons, List.length_nil] at ih ⊢
    rw [ih]
    congr 2
    omega
theorem replay_mendL (g : Ge) (t : List Int) (h : chkG g = 0) : ∃ x, g.made.run (replayF (mendL g t)) 0 = .ok ((mendL g t).length, x) := by
  obtain ⟨h1, h2⟩ := chkG_good h
  obtain ⟨x, hx⟩ := (mendL_spec g t).1
  have := replay_mended t g.made (31 ^ 6) [] (mendL g t) [] x (made_le g 6 (Ge.parts_high g 0 6 rfl h1) (Ge.parts_wide g 0 h1) h2) (by simpa using hx)
  exact ⟨x, by simpa using this⟩
def ReplR (ba bt : Nat) (tv : Value) (t : List Int) (pos : Nat) (D : Nat → Prop) (w : World) : Prop :=
  (∀ b, D b ↔ b = ba) ∧ w.heap[ba]? = some (.cells #[.int .i64 (pos : Nat)] 3 (0, 0)) ∧ pos ≤ t.length ∧ w.heap[bt]? = some (.cells #[tv] 25 (0, 0)) ∧ bt < ba ∧ ba < w.heap.size ∧ IntsIn .i64 (fun b => b < ba) w tv t
set_option maxRecDepth 100000 in
set_option maxHeartbeats 2000000 in
theorem replay_asks (ba bt : Nat) (tv : Value) (t : List Int) : Chooses ba 39 #[.pointer (some ⟨ba, 0, none⟩), .pointer (some ⟨bt, 0, none⟩)] (ReplR ba bt tv t) (replayF t) where
  keep := fun s D w w' h hD hB hs => by
    obtain ⟨h1, h2, h3, h4, h5, h6, h7⟩ := h
    exact ⟨h1, (hD ba ((h1 ba).2 rfl)).trans h2, h3, (hB bt h5).trans h4, h5, by omega, h7.keep fun b hb => hB b hb⟩
  lo := fun s D w h => ⟨by have := h.2.2.2.2.2.1; omega, fun b hb => by have := (h.1 b).1 hb; omega⟩
  isIn := fun s D w h b hb => by have := (h.1 b).1 hb; have := h.2.2.2.2.2.1; omega
  ans := fun s m s' x h hm => by
    unfold replayF at h
    split at h
    · split at h
      · rename_i h2
        injection h with h; injection h with _ h; rw [← h]; exact h2
      · cases h
    · cases h
  ask := by
    intro pos m D w hR hm0 hm1 hok
    show Calls Tryd.prog 39 #[.int .i64 m, .pointer (some ⟨ba, 0, none⟩), .pointer (some ⟨bt, 0, none⟩)] w _
    have hl : pos < t.length ∧ 0 ≤ at0 t pos ∧ at0 t pos ≤ m := by
      obtain ⟨s', x, h⟩ := hok
      unfold replayF at h
      split at h
      · split at h
        · exact ⟨by assumption, by assumption⟩
        · cases h
      · cases h
    have FR : Hid (replayF t pos m = .ok (pos + 1, at0 t pos)) := by show _ = _; unfold replayF; rw [if_pos hl.1, if_pos hl.2]
    obtain ⟨h1, h2, h3, h4, h5, h6, h7⟩ := hR
    have H1 := hid h1
    have H2 := hid h2
    have H4 := hid h4
    have H7 := hid h7
    obtain ⟨At, ct, rfl, tm, _, hta⟩ := h7
    unfold maxLen at tm
    obtain ⟨b1, o1, rfl, hb1, hc1⟩ := hta (by omega)
    have q1 : w.cell? ⟨b1, o1 + pos, none⟩ = some (.int .i64 (at0 t pos)) := hc1 pos hl.1
    have c0 := Has.cell h2 0
    have f0 := Has.froz h2 0
    have c1 := Has.cell h4 0
    simp at c0 c1
    obtain ⟨l0, l1, l2⟩ := hl
    have d0 : ((pos : Int) == (t.length : Int)) = false := by simp; omega
    have d1 : (pos == t.length) = false := by simp; omega
    have d2 : (pos : Int) < (t.length : Int) := by omega
    have d3 : (t.length : Int) ≤ 9223372036854775807 := by omega
    generalize hz : at0 t pos = z at *
    have g1 : decide (z < 0) = false := by simp; omega
    have g2 : decide (m < z) = false := by simp; omega
    have fin : Hid (AskPost (ReplR ba bt (.slice (some ⟨b1, o1, none⟩) t.length ct) t) D (replayF t pos m) w (.returned (.int .i64 z)) (w.setCell ⟨ba, 0, none⟩ (.int .i64 ((pos + 1 : Nat) : Int)))) := by
      intro s' x hsx
      rw [FR.out] at hsx
      injection hsx with hsx
      injection hsx with e1 e2
      subst e1 e2
      refine ⟨rfl, ⟨(Below.refl 0 w).setCell (Nat.zero_le _) _, fun b hb hD => Below.heap_setCell _ _ _ _ (fun e => hD ((H1.out b).2 e))⟩, D, ⟨H1.out, ?_, by omega, ?_, h5, by simpa using h6, ?_⟩, fun b hb => .inl hb⟩
      · have h := Has.set H2.out 0 (.int .i64 ((pos + 1 : Nat) : Int))
        simpa using h
      · rw [Below.heap_setCell _ _ _ _ (by simp; omega)]; exact H4.out
      · exact H7.out.keep fun b hb => by
          have hb' : b < ba := hb
          rw [Below.heap_setCell _ _ _ _ (by simp; omega)]
    have e1 : ((pos + 1 : Nat) : Int) = (pos : Int) + 1 := by omega
    rw [e1] at fin
    clear h1 h2 h4 hta hc1 hok hz e1 FR
    go_enter Tryd.func39, Tryd.ntmps39
    go_wp2_with fail
    go_ret
    exact fin.out
set_option maxRecDepth 100000 in
set_option maxHeartbeats 4000000 in
theorem rcatch_idle (p q : Addr) (w : World) :
    CallsD Tryd.prog 38 #[.pointer (some p), .pointer (some q)] .returning w fun e u' w' => e = .returned (.tuple #[]) ∧ u' = .returning ∧ w' = w := by
  refine callsD_of_wpS Tryd.func38 rfl fun c₀ cs hu => ?_
  apply wpS_seq
  apply wpS_region
  simp [wpOpsS, go_sem, recoverD, hu, Tryd.ntmps38, Exit.thenS]
  refine wpS_of_wp ?_
  simp only [Array.replicate_succ,
     Array.replicate_zero, List.push_toArray, List.append_toArray, List.nil_append, List.cons_append, List.setIfInBounds_toArray, List.set_cons_zero, List.set_cons_succ]
  go_wp2_with fail
  cases c₀
  simp_all [bodyPostS, results, Tryd.results38]
theorem replay_results (tmps : Array Value) (g h : Nat) (l : Bool) (n : Int) (A : Option Addr) (len cp : Nat) (ev : Value) (w : World) (h4 : tmps.getD 4 undef = .pointer (some ⟨g, 0, none⟩)) (h5 : tmps.getD 5 undef = .pointer (some ⟨h, 0, none⟩)) (c0 : w.cell? ⟨g, 0, none⟩ = some (.bool l)) (c1 : w.cell? ⟨g, 1, none⟩ = some (.int .i64 n)) (c2 : w.cell? ⟨g, 2, none⟩ = some (.slice A len cp)) (c5 : w.cell? ⟨h, 0, none⟩ = some ev) :
    (results Tryd.f20 tmps).run Tryd.prog w = .ok (.tuple #[.agg #[.bool l, .int .i64 n, .slice A len cp], ev]) w := by
  simp only [Array.getD_eq_getD_getElem?] at h4 h5
  simp [results, Tryd.results20, go_sem, h4, h5, c0, c1, c2, c5]
theorem gboxes4 (w w1 : World) (o0 o1 o2 o3 : Obj) (hb : Below (w.heap.size + 4) ((((w.alloc o0).alloc o1).alloc o2).alloc o3) w1) :
    w1.heap[w.heap.size]? = some o0 ∧ w1.heap[w.heap.size + 1]? = some o1 ∧ w1.heap[w.heap.size + 1 + 1]? = some o2 ∧ w1.heap[w.heap.size + 1 + 1 + 1]? = some o3 :=
  ⟨Has.below (Has.alloc (Has.alloc (Has.alloc (Has.new _ _) _) _) _) hb (by omega), Has.below (Has.alloc (Has.alloc (Has.newAt _ _ (by simp)) _) _) hb (by omega),
   Has.below (Has.alloc (Has.newAt _ _ (by simp)) _) hb (by omega), Has.below (Has.newAt _ _ (by simp)) hb (by omega)⟩
theorem gbelow4 (w : World) (o0 o1 o2 o3 : Obj) : Below w.heap.size w ((((w.alloc o0).alloc o1).alloc o2).alloc o3) :=
  ((((Below.refl _ _).alloc (Nat.le_refl _) _).alloc (by simp) _).alloc (by simp; omega) _).alloc (by simp; omega) _
def ReplPost (w : World) (e : Ending) (w' : World) : Prop := ∃ (l : Bool) (n : Int) (A : Option Addr) (len cp : Nat), e = .returned (.tuple #[.agg #[.bool l, .int .i64 n, .slice A len cp], .nilIface]) ∧ Below w.heap.size w w'
set_option maxRecDepth 100000 in
set_option maxHeartbeats 4000000 in
theorem replay_ok (g : Ge) (t : List Int) (z : Va) (F : Nat → Prop) (u v x c tv : Value) (w : World) (hF : ∀ b, F b → b < w.heap.size) (hx : GeIn F w g u v x c) (ht : IntsIn .i64 F w tv t) (hc : chkG g = 0) (hr : g.made.run (replayF t) 0 = .ok (t.length, z)) :
    Calls Tryd.prog 20 #[.agg #[u, v, x, c], tv] w (ReplPost w) := by
  have HX := hid hx
  have HF := hid hF
  have HT := hid ht
  have HC0 := hid hc
  have RN := hid hr
  have EW : Hid (g.err = 0 ∧ g.wide) := ⟨(chkG_good hc).2, Ge.parts_wide g 0 (chkG_good hc).1⟩
  have MK := hid (made_any g)
  have CK := hid (fun w => gcheck_any g F u v x c w)
  obtain ⟨k, a, b, s⟩ := g
  generalize hG : Ge.mk k a b s = G at HX HC0 RN EW MK CK
  obtain ⟨A, cp, rfl, rfl, rfl, rfl, l1, l2, _⟩ := hx.box
  obtain ⟨At, ct, rfl, tm, _, _⟩ := ht
  unfold maxLen at tm
  clear hF hx hG hc hr
  have hmf : ∀ (fn : Fn) (first cap : Array Value) (w : World), (Instr.makeFunc fn first cap).run Tryd.prog w = .ok (.func fn first cap) w := fun _ _ _ _ => rfl
  have W4 := hid (gbelow4 w (.cells #[.int .i64 k, .int .i64 a, .int .i64 b, .slice A s.length cp] 24) (.cells #[.slice At t.length ct] 25) (.cells #[.bool false, .int .i64 0, .slice none 0 0] 47) (.cells #[.nilIface] 29))
  go_enter_defers Tryd.func20, Tryd.ntmps20
  go_wp2_with fail
  refine (CK.out _ (fun b hb => by have := HF.out b hb; simp; omega) (GeIn.keep (Same.of_below W4.out HF.out) _ HX.out)).mono ?_
  rintro e w1 ⟨rfl, hb1⟩
  have B4 := hid (hb1.mono (B' := w.heap.size + 4) (by simp))
  have s1 := hb1.size
  simp only [World.size_alloc] at s1
  have B1 := hid (W4.out.trans (hb1.mono (by simp; omega)))
  obtain ⟨X0, X1, X2, X3⟩ := gboxes4 _ _ _ _ _ _ B4.out
  have Y0 := hid X0
  have Y1 := hid X1
  have Y2 := hid X2
  have Y3 := hid X3
  have y0 := Has.cell X0 0
  have y1 := Has.cell X0 1
  have y2 := Has.cell X0 2
  have y3 := Has.cell X0 3
  simp at y0 y1 y2 y3
  have lY : w.heap.size < w1.heap.size := by omega
  rw [HC0.out, errV_0]
  clear hb1 X0 X1 X2 X3 CK
  go_wp2_with fail
  have RK : Hid (ReplR w1.heap.size (w.heap.size + 1) (.slice At t.length ct) t 0 (fun b => b = w1.heap.size) (w1.alloc (.cells #[.int .i64 0] 3))) :=
    ⟨fun b => Iff.rfl, Has.new _ _, Nat.zero_le _, Has.alloc Y1.out _, by omega, by simp, (HT.out.keep (Same.of_below (B1.out.alloc (by omega) _) HF.out)).more fun b hb => by have := HF.out b hb; omega⟩
  refine (MK.out Nat w1.heap.size _ _ (ReplR w1.heap.size (w.heap.size + 1) (.slice At t.length ct) t) (replayF t) 0 t.length z (fun b => b = w1.heap.size) F _ _ _ _ _ (fun _ _ => by kernel_rfl) (replay_asks _ _ _ _) (fun b hb => by have := HF.out b hb; exact ⟨by simp; omega, by omega⟩) (GeIn.keep (Same.of_below (B1.out.alloc (by omega) _) HF.out) _ HX.out) RK.out EW.out.1 EW.out.2 RN.out).mono ?_
  rintro e w2 ⟨lv, nv, Av, len, cpv, rfl, ho, D', ⟨r1, r2, r3, r4, r5, r6, r7⟩, hD'⟩
  have s2 := ho.1.size
  simp only [World.size_alloc] at s2
  have OB : Hid (∀ b, b < w1.heap.size → w2.heap[b]? = w1.heap[b]?) := fun b hb => (ho.2 b (by simp; omega) (by omega)).trans (Below.heap_alloc _ _ _ hb)
  have B2 : Hid (Below w.heap.size w w2) := B1.out.trans ⟨ho.1.os, ho.1.tape, ho.1.output, by omega, fun b hb => OB.out b (by omega)⟩
  have Z2 := hid ((OB.out (w.heap.size + 1 + 1) (by omega)).trans Y2.out)
  have Z3 := hid ((OB.out (w.heap.size + 1 + 1 + 1) (by omega)).trans Y3.out)
  have q0 := Has.cell r2 0
  have q1 := Has.cell r4 0
  have z0 := Has.cell Z2.out 0
  have z1 := Has.cell Z2.out 1
  have z2 := Has.cell Z2.out 2
  have f0 := Has.froz Z2.out 0
  have f1 := Has.froz Z2.out 1
  have f2 := Has.froz Z2.out 2
  have z3 := Has.cell Z3.out 0
  have f3 := Has.froz Z3.out 0
  simp at q0 q1 z0 z1 z2 z3
  clear r1 r2 r3 r4 r5 r6 r7 ho hD' y0 y1 y2 y3
  have S1 := hid (set3 Z2.out (.bool lv) (.int .i64 nv) (.slice Av len cpv))
  have S2 := hid (set3 S1.out.1 (.bool lv) (.int .i64 nv) (.slice Av len cpv))
  have E3 := hid ((S2.out.2.1 (w.heap.size + 1 + 1 + 1) (by omega)).trans ((S1.out.2.1 (w.heap.size + 1 + 1 + 1) (by omega)).trans Z3.out))
  have S3 := hid (Has.set E3.out 0 .nilIface)
  have V3 := hid (Has.far S2.out.1 (p := ⟨w.heap.size + 1 + 1 + 1, 0, none⟩) (by simp) .nilIface)
  have B3 := hid (((B2.out.trans (S1.out.2.2.2.mono (by omega))).trans (S2.out.2.2.2.mono (by omega))).setCell (p := ⟨w.heap.size + 1 + 1 + 1, 0, none⟩) (by simp; omega) .nilIface)
  go_wp2_with fail
  refine leaves_cons (f := 38) (args := #[.pointer (some ⟨w.heap.size + 1 + 1, 0, none⟩), .pointer (some ⟨w.heap.size + 1 + 1 + 1, 0, none⟩)]) (by simp) (by simp [go_sem]) ?_
  refine (rcatch_idle _ _ _).mono ?_
  rintro e u' w4 ⟨rfl, rfl, rfl⟩
  exact ⟨_, replay_results _ _ _ _ _ _ _ _ _ _ rfl rfl ((Has.cell V3.out 0).trans rfl) ((Has.cell V3.out 1).trans rfl) ((Has.cell V3.out 2).trans rfl) ((Has.cell S3.out 0).trans rfl), ⟨lv, nv, Av, len, cpv, rfl, B3.out⟩⟩
end Go.Proofs.YtopehfmppfibhaaDoor
