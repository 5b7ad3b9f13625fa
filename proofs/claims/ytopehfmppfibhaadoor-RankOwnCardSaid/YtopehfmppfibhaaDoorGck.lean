/- What gen.Check returns of a generator that reads as a tree. No conditions. -/
import Derived.Test.YtopehfmppfibhaaDoorBas
namespace Go.Proofs.YtopehfmppfibhaaDoor
open Go.RowKit
abbrev gbox (k a b : Int) (A : Option Addr) (n c : Nat) : Obj := .cells #[.int .i64 k, .int .i64 a, .int .i64 b, .slice A n c] 24
def GParts (p : Nat × Bool) (w : World) (e : Ending) (w' : World) : Prop := e = .returned (.tuple #[.int .i64 (p.1 : Nat), .bool p.2]) ∧ Below w.heap.size w w'
def GPartsOk (g : Ge) : Prop := ∀ (d : Nat) (F : Nat → Prop) (u v x c : Value) (w : World), d ≤ 6 → (∀ b, F b → b < w.heap.size) → GeIn F w g u v x c →
  Calls Tryd.prog 53 #[.agg #[u, v, x, c], .int .i64 d] w (GParts (g.parts d) w)
theorem gparts_deep (k a b : Int) (s : List Ge) (d : Nat) (h : ¬ d < 6) : (Ge.mk k a b s).parts d = (1, false) := by
  rw [Ge.parts, gparts_stop _ _ _ (by simp [h])]; simp [h]
set_option maxRecDepth 100000 in
set_option maxHeartbeats 1000000 in
theorem gparts_step (k a b : Int) (s : List Ge) (ih : ∀ y ∈ s, GPartsOk y) : GPartsOk (.mk k a b s) := by
  intro d F u v x c w hd hF hx
  have HF := hid hF
  have IH := hid ih
  obtain ⟨A, cp, rfl, rfl, rfl, rfl, l1, l2, hs⟩ := hx.box
  have HS := hid hs
  have B0 : Hid (Below w.heap.size w (w.alloc (.cells #[.int .i64 k, .int .i64 a, .int .i64 b, .slice A s.length cp] 24))) := (Below.refl _ _).alloc (Nat.le_refl _) _
  by_cases h6 : d < 6
  · have PE : Hid ((Ge.mk k a b s).parts d = ((Ges.parts s (d + 1) (1, true)).1, (Ges.parts s (d + 1) (1, true)).2 && decide ((Ges.parts s (d + 1) (1, true)).1 ≤ 30))) := by
      show _ = _; rw [Ge.parts]; simp [h6]
    have TL : Hid (∀ i, (Ges.parts (s.take i) (d + 1) (1, true)).1 ≤ 200 ∧ ((Ges.parts (s.take i) (d + 1) (1, true)).2 = true → (Ges.parts (s.take i) (d + 1) (1, true)).1 ≤ 30)) := fun i => by
      have := gparts_take_le s i d h6
      simpa [h6] using this
    have T0 : Hid (Ges.parts (s.take 0) (d + 1) (1, true) = (1, true)) := by show _ = _; simp [Ges.parts]
    have d1 : decide ((d : Int) < 6) = true := by simp; omega
    have d2 : decide (d < 6) = true := by simp; omega
    have D6 := hid h6
    clear hF ih hs hx h6
    go_enter Tryd.func53, Tryd.ntmps53
    go_wp2_with fail
    clear d1 d2
    go_loopw [6, 7, 17] (fun nv ov iv wr => ∃ i : Nat, i ≤ s.length ∧ nv = .int .i64 ((Ges.parts (s.take i) (d + 1) (1, true)).1 : Nat) ∧ ov = .bool (Ges.parts (s.take i) (d + 1) (1, true)).2 ∧ iv = .int .i64 i ∧ Hid (Below w.heap.size w wr)) (fun _ _ iv _ => s.length - (intOf iv).toNat)
    case atStart => exact ⟨0, Nat.zero_le _, by rw [T0.out]; rfl, by rw [T0.out], rfl, B0⟩
    case round =>
      obtain ⟨i, hi, rfl, rfl, rfl, hB⟩ := hrel
      obtain ⟨wo, rfl⟩ : ∃ wo : World, wo = wr := ⟨_, rfl⟩
      have lB := hB.out.size
      have TI := TL.out i
      clear B0
      by_cases hlt : i < s.length
      · obtain ⟨bl, off, rfl, hFb, hex⟩ := HS.out (by omega)
        have lb := HF.out bl hFb
        obtain ⟨a1, b1, c1, e1, q1, q2, q3, q4, hy⟩ := (GesIn.keep (Same.of_below hB.out HF.out) s hFb hex).at_ hlt
        have HY := hid hy
        have PI := hid (IH.out s[i] (List.getElem_mem hlt))
        have PL := Ge.parts_le s[i] (d + 1) (by have := D6.out; omega)
        have i1 : (i : Int) < (s.length : Int) := by omega
        have SU := hid (gparts_succ hlt (d + 1) (1, true))
        have SF := hid (gparts_full (s := s) (i := i) (d := d + 1) (p := (1, true)))
        obtain ⟨⟨k1, m1, n1, s1⟩, hy0⟩ : ∃ y, y = s[i] := ⟨_, rfl⟩
        rw [← hy0] at HY PI PL SU
        have SI := hid hlt
        obtain ⟨A1, cp1, rfl, rfl, rfl, rfl, _, _, _⟩ := HY.out.box
        have PT : Hid (∀ p, (Ge.mk k1 m1 n1 s1).parts (d + 1) = p → Ges.parts (s.take (i + 1)) (d + 1) (1, true) = if (Ges.parts (s.take i) (d + 1) (1, true)).2 then ((Ges.parts (s.take i) (d + 1) (1, true)).1 + p.1, p.2 && decide ((Ges.parts (s.take i) (d + 1) (1, true)).1 + p.1 ≤ 30)) else Ges.parts (s.take i) (d + 1) (1, true)) := fun p hp => by rw [SU.out, hp]
        have D7 : d + 1 ≤ 6 := by have := D6.out; omega
        have PL2 : ((Ge.mk k1 m1 n1 s1).parts (d + 1)).1 ≤ 200 := by omega
        generalize hq : Ges.parts (s.take i) (d + 1) (1, true) = q at *
        obtain ⟨qn, qb⟩ := q
        clear hex hy hy0 hlt SU PL
        simp only at TI ⊢
        obtain ⟨t1, t2⟩ := TI
        cases qb with
        | false =>
          have PF : Hid ((Ge.mk k a b s).parts d = (qn, false)) := by show _ = _; rw [PE.out, SF.out (by rfl)]; simp
          clear t2 hq
          go_wp2_with fail
          go_ret2
          exact ⟨by rw [PF.out]; rfl, hB.out.alloc lB _⟩
        | true =>
          have t3 : qn ≤ 30 := t2 rfl
          clear t2 hq
          go_wp2_with fail
          refine (PI.out (d + 1) F _ _ _ _ _ D7 (fun g hg => by have := HF.out g hg; simp; omega) (GeIn.keep (fun b hb => Below.heap_alloc _ _ _ (by have := HF.out b hb; omega)) _ HY.out)).mono ?_
          rintro e w2 ⟨rfl, hb2⟩
          have B2 := hid ((hB.out.alloc lB _).trans (hb2.mono (by simp; omega)))
          generalize hp : (Ge.mk k1 m1 n1 s1).parts (d + 1) = p at *
          have TN := hid (PT.out p rfl)
          obtain ⟨pn, pb⟩ := p
          simp only at PL2 ⊢
          clear hb2 q1 q2 q3 q4 hp PT PI
          cases pb with
          | false =>
            have TN2 : Hid (Ges.parts (s.take (i + 1)) (d + 1) (1, true) = (qn + pn, false)) := by show _ = _; rw [TN.out]; simp
            go_wp2_with fail
            go_roundw
            case rel => exact ⟨i + 1, by have := SI.out; omega, by rw [TN2.out]; go_num, by rw [TN2.out], by go_num, B2⟩
            case measure => simp [intOf]; have := SI.out; omega
          | true =>
            by_cases hle : qn + pn ≤ 30
            · have TN2 : Hid (Ges.parts (s.take (i + 1)) (d + 1) (1, true) = (qn + pn, true)) := by show _ = _; rw [TN.out]; simp [hle]
              have g1 : decide ((qn : Int) + (pn : Int) ≤ 30) = true := by simp; omega
              clear hle
              go_wp2_with fail
              go_roundw
              case rel => exact ⟨i + 1, by have := SI.out; omega, by rw [TN2.out]; go_num, by rw [TN2.out], by go_num, B2⟩
              case measure => simp [intOf]; have := SI.out; omega
            · have TN2 : Hid (Ges.parts (s.take (i + 1)) (d + 1) (1, true) = (qn + pn, false)) := by show _ = _; rw [TN.out]; simp [hle]
              have g1 : decide ((qn : Int) + (pn : Int) ≤ 30) = false := by simp; omega
              clear hle
              go_wp2_with fail
              go_roundw
              case rel => exact ⟨i + 1, by have := SI.out; omega, by rw [TN2.out]; go_num, by rw [TN2.out], by go_num, B2⟩
              case measure => simp [intOf]; have := SI.out; omega
      · obtain rfl : i = s.length := by omega
        have TE : Hid (s.take s.length = s) := by show _ = _; simp
        rw [TE.out] at TI ⊢
        generalize hq : Ges.parts s (d + 1) (1, true) = q at *
        obtain ⟨qn, qb⟩ := q
        simp only at TI ⊢
        have PF : Hid ((Ge.mk k a b s).parts d = (qn, qb && decide (qn ≤ 30))) := PE.out
        obtain ⟨t1, t2⟩ := TI
        clear hq hlt
        cases qb with
        | false =>
          go_wp2_with fail
          go_ret2
          exact ⟨by rw [PF.out]; rfl, hB.out⟩
        | true =>
          have t3 : qn ≤ 30 := t2 rfl
          have g1 : decide (qn ≤ 30) = true := by simp; omega
          have g2 : decide ((qn : Int) ≤ 30) = true := by simp; omega
          have PF2 : Hid ((Ge.mk k a b s).parts d = (qn, true)) := by show _ = _; rw [PF.out, g1]; rfl
          clear t2
          go_wp2_with fail
          go_ret2
          exact ⟨by rw [PF2.out]; rfl, hB.out⟩
  · have d1 : decide ((d : Int) < 6) = false := by simp; omega
    have d2 : decide (d < 6) = false := by simp; omega
    have PF := hid (gparts_deep k a b s d h6)
    clear hF ih hx h6
    by_cases h0 : 0 < s.length
    · obtain ⟨bl, off, rfl, hFb, hex⟩ := hs h0
      have lb := HF.out bl hFb
      obtain ⟨a1, b1, c1, e1, q1, q2, q3, q4, hy⟩ := (GesIn.keep (Same.of_below B0.out HF.out) s hFb hex).at_ h0
      obtain ⟨⟨k1, m1, n1, s1⟩, hy0⟩ : ∃ y, y = s[0] := ⟨_, rfl⟩
      rw [← hy0] at hy
      obtain ⟨A1, cp1, rfl, rfl, rfl, rfl, _, _, _⟩ := hy.box
      simp only [Nat.zero_mul, Nat.add_zero] at q1 q2 q3 q4
      have i0 : (0 : Int) < (s.length : Int) := by omega
      have i1 : decide ((0 : Int) < (s.length : Int)) = true := by simp; omega
      clear hex hy hy0 hs
      go_enter Tryd.func53, Tryd.ntmps53
      go_wp2_with fail
      refine wp_loop_rounds 1 ?_
      rw [rounds_succ]
      go_wp2_with fail
      go_ret2
      exact ⟨by rw [PF.out]; rfl, B0.out.alloc (by simp) _⟩
    · have h1 : s.length = 0 := by omega
      clear hs h0
      rw [h1] at B0 ⊢
      go_enter Tryd.func53, Tryd.ntmps53
      go_wp2_with fail
      refine wp_loop_rounds 1 ?_
      rw [rounds_succ]
      go_wp2_with fail
      go_ret2
      exact ⟨by rw [PF.out]; rfl, B0.out⟩
theorem gparts_any : ∀ x, GPartsOk x := Ge.ind gparts_step
set_option maxHeartbeats 400000 in
theorem number_any (n : Int) (w : World) : Calls Tryd.prog 82 #[.int .i64 n] w fun e w' => e = .returned (.bool (numB n)) ∧ w = w' := by
  by_cases h1 : -1073741824 ≤ n
  · by_cases h2 : n ≤ 1073741824
    · have d1 : decide (-1073741824 ≤ n) = true := by simpa using h1
      have d2 : decide (n ≤ 1073741824) = true := by simpa using h2
      have E : Hid (numB n = true) := by show _ = _; unfold numB; rw [d1, d2]; rfl
      clear h1 h2
      go_enter Tryd.func82, Tryd.ntmps82
      go_wp2_with fail
      go_ret
      exact ⟨by rw [E.out]; rfl, rfl⟩
    · have d1 : decide (-1073741824 ≤ n) = true := by simpa using h1
      have d2 : decide (n ≤ 1073741824) = false := by simpa using h2
      have E : Hid (numB n = false) := by show _ = _; unfold numB; rw [d1, d2]; rfl
      clear h1 h2
      go_enter Tryd.func82, Tryd.ntmps82
      go_wp2_with fail
      go_ret
      exact ⟨by rw [E.out]; rfl, rfl⟩
  · have d1 : decide (-1073741824 ≤ n) = false := by simpa using h1
    have E : Hid (numB n = false) := by show _ = _; unfold numB; rw [d1]; rfl
    clear h1
    go_enter Tryd.func82, Tryd.ntmps82
    go_wp2_with fail
    go_ret
    exact ⟨by rw [E.out]; rfl, rfl⟩
theorem numB_iff {n : Int} : numB n = true ↔ -1073741824 ≤ n ∧ n ≤ 1073741824 := by unfold numB; simp
def EndsE (c : Int) (w : World) (e : Ending) (w' : World) : Prop := e = .returned (errV c) ∧ Below w.heap.size w w'
set_option maxRecDepth 100000 in
set_option maxHeartbeats 2000000 in
theorem one_two (a b : Int) (A : Option Addr) (m cp : Nat) (w : World) (hm : m ≤ 9223372036854775807) :
    Calls Tryd.prog 74 #[.agg #[.int .i64 2, .int .i64 a, .int .i64 b, .slice A m cp]] w (EndsE (oneE 2 a b m) w) := by
  have B0 : Hid (Below w.heap.size w (w.alloc (.cells #[.int .i64 2, .int .i64 a, .int .i64 b, .slice A m cp] 24))) := (Below.refl _ _).alloc (Nat.le_refl _) _
  have fin : Hid (∀ (n : Int) (h : n ≠ 0) (e : Ending), oneE 2 a b m = n → e = .returned (.iface 60 (.int .i64 n)) → EndsE (oneE 2 a b m) w e (w.alloc (.cells #[.int .i64 2, .int .i64 a, .int .i64 b, .slice A m cp] 24))) := fun n h e h1 h2 => ⟨by rw [h1, h2, errV_no h], B0.out⟩
  have fin0 : Hid (∀ (e : Ending), oneE 2 a b m = 0 → e = .returned .nilIface → EndsE (oneE 2 a b m) w e (w.alloc (.cells #[.int .i64 2, .int .i64 a, .int .i64 b, .slice A m cp] 24))) := fun e h1 h2 => ⟨by rw [h1, h2]; rfl, B0.out⟩
  cases ha : numB a with
  | false =>
    have E : Hid (oneE 2 a b m = 1) := by show _ = _; simp [oneE, ha]
    have HA := hid ha
    clear ha
    go_enter Tryd.func74, Tryd.ntmps74
    go_wp2_with (go_at_call 82; refine (number_any a _).mono ?_; rintro e w' ⟨rfl, rfl⟩; rw [HA.out])
    go_ret
    exact fin.out 1 (by decide) _ E.out rfl
  | true =>
    have HA := hid ha
    obtain ⟨a1, a2⟩ := numB_iff.1 ha
    cases hb : numB b with
    | false =>
      have HB := hid hb
      have E : Hid (oneE 2 a b m = 1) := by show _ = _; simp [oneE, ha, hb]
      clear ha hb
      go_enter Tryd.func74, Tryd.ntmps74
      go_wp2_with (go_at_call 82; refine (number_any _ _).mono ?_; rintro e w' ⟨rfl, rfl⟩; first | rw [HA.out] | rw [HB.out])
      go_ret
      exact fin.out 1 (by decide) _ E.out rfl
    | true =>
      have HB := hid hb
      obtain ⟨b1, b2⟩ := numB_iff.1 hb
      by_cases ab : b < a
      · have E : Hid (oneE 2 a b m = 1) := by show _ = _; simp [oneE, ha, hb, ab]
        have g1 : decide (b < a) = true := by simpa using ab
        clear ha hb ab
        go_enter Tryd.func74, Tryd.ntmps74
        go_wp2_with (go_at_call 82; refine (number_any _ _).mono ?_; rintro e w' ⟨rfl, rfl⟩; first | rw [HA.out] | rw [HB.out])
        go_ret
        exact fin.out 1 (by decide) _ E.out rfl
      · have g1 : decide (b < a) = false := by simpa using ab
        by_cases sp : 1000 < b - a
        · have E : Hid (oneE 2 a b m = 1) := by show _ = _; simp [oneE, ha, hb, ab, sp]
          have g2 : decide (1000 < b - a) = true := by simpa using sp
          clear ha hb ab sp
          go_enter Tryd.func74, Tryd.ntmps74
          go_wp2_with (go_at_call 82; refine (number_any _ _).mono ?_; rintro e w' ⟨rfl, rfl⟩; first | rw [HA.out] | rw [HB.out])
          go_ret
          exact fin.out 1 (by decide) _ E.out rfl
        · have g2 : decide (1000 < b - a) = false := by simpa using sp
          by_cases m0 : 0 < m
          · have E : Hid (oneE 2 a b m = 3) := by show _ = _; simp [oneE, ha, hb, ab, sp, m0]
            have g3 : decide ((0 : Int) < (m : Int)) = true := by simp; omega
            have g4 : decide (0 < m) = true := by simp; omega
            clear ha hb ab sp m0
            go_enter Tryd.func74, Tryd.ntmps74
            go_wp2_with (go_at_call 82; refine (number_any _ _).mono ?_; rintro e w' ⟨rfl, rfl⟩; first | rw [HA.out] | rw [HB.out])
            go_ret
            exact fin.out 3 (by decide) _ E.out rfl
          · obtain rfl : m = 0 := by omega
            have E : Hid (oneE 2 a b 0 = 0) := by show _ = _; simp [oneE, ha, hb, ab, sp]
            clear ha hb ab sp m0
            go_enter Tryd.func74, Tryd.ntmps74
            go_wp2_with (go_at_call 82; refine (number_any _ _).mono ?_; rintro e w' ⟨rfl, rfl⟩; first | rw [HA.out] | rw [HB.out])
            go_ret
            exact fin0.out _ E.out rfl
set_option maxRecDepth 100000 in
set_option maxHeartbeats 2000000 in
theorem one_any (k a b : Int) (A : Option Addr) (m cp : Nat) (w : World) (hm : m ≤ 9223372036854775807) :
    Calls Tryd.prog 74 #[.agg #[.int .i64 k, .int .i64 a, .int .i64 b, .slice A m cp]] w (EndsE (oneE k a b m) w) := by
  have B0 : Hid (Below w.heap.size w (w.alloc (.cells #[.int .i64 k, .int .i64 a, .int .i64 b, .slice A m cp] 24))) := (Below.refl _ _).alloc (Nat.le_refl _) _
  have fin : Hid (∀ (n : Int) (h : n ≠ 0) (e : Ending), oneE k a b m = n → e = .returned (.iface 60 (.int .i64 n)) → EndsE (oneE k a b m) w e (w.alloc (.cells #[.int .i64 k, .int .i64 a, .int .i64 b, .slice A m cp] 24))) := fun n h e h1 h2 => ⟨by rw [h1, h2, errV_no h], B0.out⟩
  have fin0 : Hid (∀ (e : Ending), oneE k a b m = 0 → e = .returned .nilIface → EndsE (oneE k a b m) w e (w.alloc (.cells #[.int .i64 k, .int .i64 a, .int .i64 b, .slice A m cp] 24))) := fun e h1 h2 => ⟨by rw [h1, h2]; rfl, B0.out⟩
  by_cases k1 : k = 1
  · subst k1
    cases ha : numB a with
    | false =>
      have E : Hid (oneE 1 a b m = 1) := by show _ = _; simp [oneE, ha]
      have HA := hid ha
      clear ha
      go_enter Tryd.func74, Tryd.ntmps74
      go_wp2_with (go_at_call 82; refine (number_any a _).mono ?_; rintro e w' ⟨rfl, rfl⟩; rw [HA.out])
      go_ret
      exact fin.out 1 (by decide) _ E.out rfl
    | true =>
      by_cases m0 : 0 < m
      · have E : Hid (oneE 1 a b m = 3) := by show _ = _; simp [oneE, ha, m0]
        have HA := hid ha
        have g1 : decide ((0 : Int) < (m : Int)) = true := by simp; omega
        have g2 : decide (0 < m) = true := by simp; omega
        clear ha m0
        go_enter Tryd.func74, Tryd.ntmps74
        go_wp2_with (go_at_call 82; refine (number_any a _).mono ?_; rintro e w' ⟨rfl, rfl⟩; rw [HA.out])
        go_ret
        exact fin.out 3 (by decide) _ E.out rfl
      · obtain rfl : m = 0 := by omega
        have E : Hid (oneE 1 a b 0 = 0) := by show _ = _; simp [oneE, ha]
        have HA := hid ha
        clear ha m0
        go_enter Tryd.func74, Tryd.ntmps74
        go_wp2_with (go_at_call 82; refine (number_any a _).mono ?_; rintro e w' ⟨rfl, rfl⟩; rw [HA.out])
        go_ret
        exact fin0.out _ E.out rfl
  by_cases k2 : k = 2
  · subst k2
    exact one_two a b A m cp w hm
  by_cases k4 : k = 4
  · subst k4
    clear k1 k2
    by_cases a0 : a < 0
    · have E : Hid (oneE 4 a b m = 1) := by show _ = _; simp [oneE, a0]
      have g1 : decide (a < 0) = true := by simpa using a0
      clear a0
      go_enter Tryd.func74, Tryd.ntmps74
      go_wp2_with fail
      go_ret
      exact fin.out 1 (by decide) _ E.out rfl
    · have g1 : decide (a < 0) = false := by simpa using a0
      by_cases a5 : 5 < a
      · have E : Hid (oneE 4 a b m = 1) := by show _ = _; simp [oneE, a5]
        have g2 : decide (5 < a) = true := by simpa using a5
        clear a0 a5
        go_enter Tryd.func74, Tryd.ntmps74
        go_wp2_with fail
        go_ret
        exact fin.out 1 (by decide) _ E.out rfl
      · have g2 : decide (5 < a) = false := by simpa using a5
        by_cases m1 : m = 1
        · subst m1
          have E : Hid (oneE 4 a b 1 = 0) := by show _ = _; simp [oneE, a0, a5]
          clear a0 a5
          go_enter Tryd.func74, Tryd.ntmps74
          go_wp2_with fail
          go_ret
          exact fin0.out _ E.out rfl
        · have E : Hid (oneE 4 a b m = 3) := by show _ = _; simp [oneE, a0, a5, m1]
          have g3 : ((m : Int) != 1) = true := by simp; omega
          have g4 : (m != 1) = true := by simp; omega
          clear a0 a5 m1
          go_enter Tryd.func74, Tryd.ntmps74
          go_wp2_with fail
          go_ret
          exact fin.out 3 (by decide) _ E.out rfl
  by_cases k3 : k = 3
  · subst k3
    have E : Hid (oneE 3 a b m = 0) := by show _ = _; simp [oneE]
    clear k1 k2 k4
    go_enter Tryd.func74, Tryd.ntmps74
    go_wp2_with fail
    go_ret
    exact fin0.out _ E.out rfl
  by_cases k5 : k = 5
  · subst k5
    clear k1 k2 k4 k3
    by_cases m0 : m = 0
    · subst m0
      have E : Hid (oneE 5 a b 0 = 3) := by show _ = _; simp [oneE]
      go_enter Tryd.func74, Tryd.ntmps74
      go_wp2_with fail
      go_ret
      exact fin.out 3 (by decide) _ E.out rfl
    · have E : Hid (oneE 5 a b m = 0) := by show _ = _; simp [oneE, m0]
      have g1 : ((m : Int) == 0) = false := by simp; exact m0
      have g2 : (m == 0) = false := by simp; exact m0
      clear m0
      go_enter Tryd.func74, Tryd.ntmps74
      go_wp2_with fail
      go_ret
      exact fin0.out _ E.out rfl
  have E : Hid (oneE k a b m = 3) := by show _ = _; simp [oneE, k1, k2, k3, k4, k5]
  have g1 : (k == 1) = false := by simpa using k1
  have g2 : (k == 2) = false := by simpa using k2
  have g3 : (k == 3) = false := by simpa using k3
  have g4 : (k == 4) = false := by simpa using k4
  have g5 : (k == 5) = false := by simpa using k5
  clear k1 k2 k3 k4 k5
  go_enter Tryd.func74, Tryd.ntmps74
  go_wp2_with fail
  go_ret
  exact fin.out 3 (by decide) _ E.out rfl
def EachG (g : Ge) : Prop := ∀ (F : Nat → Prop) (u v x c : Value) (w : World), (∀ b, F b → b < w.heap.size) → GeIn F w g u v x c →
  Calls Tryd.prog 54 #[.agg #[u, v, x, c]] w (EndsE g.err w)
theorem gdrop_at {s : List Ge} {i : Nat} (h : i < s.length) : s.drop i = s[i] :: s.drop (i + 1) := List.drop_eq_getElem_cons h
set_option maxRecDepth 100000 in
set_option maxHeartbeats 1000000 in
theorem geach_step (k a b : Int) (s : List Ge) (ih : ∀ y ∈ s, EachG y) : EachG (.mk k a b s) := by
  intro F u v x c w hF hx
  have HF := hid hF
  have IH := hid ih
  obtain ⟨A, cp, rfl, rfl, rfl, rfl, l1, l2, hs⟩ := hx.box
  have HS := hid hs
  have B0 : Hid (Below w.heap.size w (w.alloc (.cells #[.int .i64 k, .int .i64 a, .int .i64 b, .slice A s.length cp] 24))) := (Below.refl _ _).alloc (Nat.le_refl _) _
  have X0 := hid (Has.new w (.cells #[.int .i64 k, .int .i64 a, .int .i64 b, .slice A s.length cp] 24))
  have GE : Hid ((Ge.mk k a b s).err = if oneE k a b s.length ≠ 0 then oneE k a b s.length else Ges.err s) := by show _ = _; rw [Ge.err]
  have LS := hid (Nat.le_trans l1 l2)
  clear hF ih hs hx
  go_enter Tryd.func54, Tryd.ntmps54
  go_wp2_with fail
  refine (one_any k a b A s.length cp _ LS.out).mono ?_
  rintro e w1 ⟨rfl, hb1⟩
  have B1 := hid (B0.out.trans (hb1.mono (by simp)))
  have X1 := Has.below X0.out hb1 (by simp)
  have x3 := Has.cell X1 3
  simp at x3
  clear hb1 X1 X0 B0
  by_cases h0 : oneE k a b s.length = 0
  · rw [h0, errV_0]
    have GE2 : Hid ((Ge.mk k a b s).err = Ges.err s) := by show _ = _; rw [GE.out, if_neg (by simp [h0])]
    clear h0
    go_wp2_with fail
    clear x3
    go_loopw [15] (fun iv wr => ∃ i : Nat, i ≤ s.length ∧ iv = .int .i64 i ∧ Hid (Ges.err s = Ges.err (s.drop i)) ∧ Hid (Below w.heap.size w wr)) (fun iv _ => s.length - (intOf iv).toNat)
    case atStart => exact ⟨0, Nat.zero_le _, rfl, rfl, B1⟩
    case round =>
      obtain ⟨i, hi, rfl, hE, hB⟩ := hrel
      obtain ⟨wo, rfl⟩ : ∃ wo : World, wo = wr := ⟨_, rfl⟩
      have lB := hB.out.size
      clear B1
      by_cases hlt : i < s.length
      · obtain ⟨bl, off, rfl, hFb, hex⟩ := HS.out (by omega)
        have lb := HF.out bl hFb
        obtain ⟨a1, b1, c1, e1, q1, q2, q3, q4, hy⟩ := (GesIn.keep (Same.of_below hB.out HF.out) s hFb hex).at_ hlt
        have HY := hid hy
        have PI := hid (IH.out s[i] (List.getElem_mem hlt))
        have i1 : (i : Int) < (s.length : Int) := by omega
        have EE : Hid (Ges.err (s.drop i) = if s[i].err ≠ 0 then s[i].err else Ges.err (s.drop (i + 1))) := by show _ = _; rw [gdrop_at hlt, Ges.err]
        obtain ⟨⟨k1, m1, n1, s1⟩, hy0⟩ : ∃ y, y = s[i] := ⟨_, rfl⟩
        rw [← hy0] at HY PI EE
        obtain ⟨A1, cp1, rfl, rfl, rfl, rfl, _, _, _⟩ := HY.out.box
        clear hex hy hy0
        go_wp2_with fail
        refine (PI.out F _ _ _ _ _ (fun g hg => by have := HF.out g hg; simp; omega) (GeIn.keep (fun b hb => Below.heap_alloc _ _ _ (by have := HF.out b hb; omega)) _ HY.out)).mono ?_
        rintro e w2 ⟨rfl, hb2⟩
        have B2 := hid ((hB.out.alloc lB _).trans (hb2.mono (by simp; omega)))
        clear hb2 q1 q2 q3 q4
        by_cases he : (Ge.mk k1 m1 n1 s1).err = 0
        · have E2 : Hid (Ges.err s = Ges.err (s.drop (i + 1))) := by show _ = _; rw [hE.out, EE.out, if_neg (by simp [he])]
          rw [he, errV_0]
          clear he
          go_wp2_with fail
          go_roundw
          case rel => exact ⟨i + 1, by omega, by go_num, E2, B2⟩
          case measure => simp [intOf]; omega
        · have E2 : Hid (Ges.err s = (Ge.mk k1 m1 n1 s1).err) := by show _ = _; rw [hE.out, EE.out, if_pos he]
          rw [errV_no he]
          have HE := hid he
          clear he
          go_wp2_with fail
          go_ret
          exact ⟨by rw [GE2.out, E2.out, errV_no HE.out]; rfl, B2.out⟩
      · obtain rfl : i = s.length := by omega
        have E2 : Hid (Ges.err s = 0) := by show _ = _; rw [hE.out, List.drop_length, Ges.err]
        go_wp2_with fail
        go_ret
        exact ⟨by rw [GE2.out, E2.out]; rfl, hB.out⟩
  · have GE2 : Hid ((Ge.mk k a b s).err = oneE k a b s.length) := by show _ = _; rw [GE.out, if_pos h0]
    rw [errV_no h0]
    have H0 := hid h0
    clear h0
    go_wp2_with fail
    go_ret
    exact ⟨by rw [GE2.out, errV_no H0.out]; rfl, B1.out⟩
theorem geach_any : ∀ x, EachG x := Ge.ind geach_step
set_option maxRecDepth 100000 in
set_option maxHeartbeats 1000000 in
theorem gcheck_any (g : Ge) (F : Nat → Prop) (u v x c : Value) (w : World) (hF : ∀ b, F b → b < w.heap.size) (hx : GeIn F w g u v x c) :
    Calls Tryd.prog 34 #[.agg #[u, v, x, c]] w (EndsE (chkG g) w) := by
  have HX := hid hx
  have HF := hid hF
  obtain ⟨k, a, b, s⟩ := g
  obtain ⟨A, cp, rfl, rfl, rfl, rfl, l1, l2, _⟩ := hx.box
  have B0 : Hid (Below w.heap.size w (w.alloc (.cells #[.int .i64 k, .int .i64 a, .int .i64 b, .slice A s.length cp] 24))) := (Below.refl _ _).alloc (Nat.le_refl _) _
  have X0 := hid (Has.new w (.cells #[.int .i64 k, .int .i64 a, .int .i64 b, .slice A s.length cp] 24))
  have CE : Hid (chkG (.mk k a b s) = if ((Ge.mk k a b s).parts 0).2 then (Ge.mk k a b s).err else 4) := rfl
  clear hF hx
  go_enter Tryd.func34, Tryd.ntmps34
  go_wp2_with fail
  refine (gparts_any (.mk k a b s) 0 F _ _ _ _ _ (by omega) (fun g hg => by have := HF.out g hg; simp; omega) (GeIn.keep (fun b hb => Below.heap_alloc _ _ _ (HF.out b hb)) _ HX.out)).mono ?_
  rintro e w1 ⟨rfl, hb1⟩
  have B1 := hid (B0.out.trans (hb1.mono (by simp)))
  have X1 := Has.below X0.out hb1 (by simp)
  have x0 := Has.cell X1 0
  have x1 := Has.cell X1 1
  have x2 := Has.cell X1 2
  have x3 := Has.cell X1 3
  simp at x0 x1 x2 x3
  have E1 := hid (GeIn.keep (Same.of_below B1.out HF.out) _ HX.out)
  have s1 := B1.out.size
  clear hb1 X1
  generalize (Ge.mk k a b s).parts 0 = p at *
  obtain ⟨pn, pb⟩ := p
  cases pb with
  | false =>
    have CE2 : Hid (chkG (.mk k a b s) = 4) := by show _ = _; rw [CE.out]; rfl
    go_wp2_with fail
    go_ret
    exact ⟨by rw [CE2.out]; rfl, B1.out⟩
  | true =>
    have CE2 : Hid (chkG (.mk k a b s) = (Ge.mk k a b s).err) := by show _ = _; rw [CE.out]; rfl
    go_wp2_with fail
    refine (geach_any (.mk k a b s) F _ _ _ _ _ (fun g hg => by have := HF.out g hg; omega) E1.out).mono ?_
    rintro e w2 ⟨rfl, hb2⟩
    have B2 := hid (B1.out.trans (hb2.mono s1))
    clear hb2
    go_wp2_with fail
    go_ret
    exact ⟨by rw [CE2.out]; rfl, B2.out⟩
end Go.Proofs.YtopehfmppfibhaaDoor
