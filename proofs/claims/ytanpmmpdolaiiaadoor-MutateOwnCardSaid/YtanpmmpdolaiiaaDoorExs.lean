/- What the statements' own Expr, the reference's ExprLarge (of what is not too large) and mutated return. Condition: the package's lists. -/
import Derived.Test.YtanpmmpdolaiiaaDoorKee
import Derived.Test.YtanpmmpdolaiiaaDoorExn
namespace Go.Proofs.YtanpmmpdolaiiaaDoor
open Go.RowKit Go.Deep
mutual
theorem ExIn.wfE {F : Nat → Prop} {w : World} : ∀ (x : Ex) {a b c : Value}, ExIn F w x a b c → x.wf
  | .mk k n s, a, b, c, h => by
    rw [ExIn] at h
    obtain ⟨_, _, _, h4, A, cp, _, _, h7⟩ := h
    rw [Ex.wf]
    refine ⟨h4, ?_⟩
    by_cases hn : 0 < s.length
    · obtain ⟨bl, off, _, _, hx⟩ := h7 hn
      exact ExsIn.wfE s hx
    · obtain rfl : s = [] := List.eq_nil_of_length_eq_zero (by omega)
      rw [Exs.wf]; trivial
theorem ExsIn.wfE {F : Nat → Prop} {w : World} : ∀ (s : List Ex) {bl o : Nat}, ExsIn F w s bl o → Exs.wf s
  | [], _, _, _ => by rw [Exs.wf]; trivial
  | x :: r, bl, o, h => by
    rw [ExsIn] at h
    obtain ⟨⟨a, b, c, _, _, _, h4⟩, h5⟩ := h
    rw [Exs.wf]
    exact ⟨ExIn.wfE x h4, ExsIn.wfE r h5⟩
end
def SameOk (x : Ex) : Prop := ∀ (y : Ex) (F : Nat → Prop) (a b c a' b' c' : Value) (w : World), (∀ g, F g → g < w.heap.size) → ExIn F w x a b c → ExIn F w y a' b' c' →
  Calls Tryd.prog 6 #[.agg #[a, b, c], .agg #[a', b', c']] w fun e w' => e = .returned (.bool (x.eqB y)) ∧ Below w.heap.size w w'
set_option maxRecDepth 100000 in
set_option maxHeartbeats 2000000 in
theorem same_no (k n : Int) (s : List Ex) (k' n' : Int) (s' : List Ex) (F : Nat → Prop) (a b c a' b' c' : Value) (w : World) (hx : ExIn F w (.mk k n s) a b c) (hy : ExIn F w (.mk k' n' s') a' b' c') (h : ¬ (k = k' ∧ n = n' ∧ s.length = s'.length)) :
    Calls Tryd.prog 6 #[.agg #[a, b, c], .agg #[a', b', c']] w fun e w' => e = .returned (.bool false) ∧ Below w.heap.size w w' := by
  obtain ⟨A, cp, rfl, rfl, rfl, l1, l2, _⟩ := hx.box
  obtain ⟨A', cp', rfl, rfl, rfl, l3, l4, _⟩ := hy.box
  have B0 : Hid (Below w.heap.size w ((w.alloc (.cells #[.int .i64 k, .int .i64 n, .slice A s.length cp] 24)).alloc (.cells #[.int .i64 k', .int .i64 n', .slice A' s'.length cp'] 24))) := ((Below.refl _ _).alloc (Nat.le_refl _) _).alloc (by simp) _
  by_cases h1 : k = k'
  · by_cases h2 : n = n'
    · have h3 : s.length ≠ s'.length := fun e => h ⟨h1, h2, e⟩
      have e1 : (k != k') = false := by simp [h1]
      have e2 : (n != n') = false := by simp [h2]
      have e3 : ((s.length : Int) != (s'.length : Int)) = true := by simp; omega
      have e4 : (s.length != s'.length) = true := by simp; omega
      clear h h1 h2 h3 hx hy
      go_enter Tryd.func6, Tryd.ntmps6
      go_wp2_with fail
      go_ret
      exact ⟨rfl, B0.out⟩
    · have e1 : (k != k') = false := by simp [h1]
      have e2 : (n != n') = true := by simp [h2]
      clear h h1 h2 hx hy
      go_enter Tryd.func6, Tryd.ntmps6
      go_wp2_with fail
      go_ret
      exact ⟨rfl, B0.out⟩
  · have e1 : (k != k') = true := by simp [h1]
    clear h h1 hx hy
    go_enter Tryd.func6, Tryd.ntmps6
    go_wp2_with fail
    go_ret
    exact ⟨rfl, B0.out⟩
set_option maxRecDepth 100000 in
set_option maxHeartbeats 2000000 in
theorem same_yes (k n : Int) (s s' : List Ex) (ih : ∀ y ∈ s, SameOk y) (hl : s.length = s'.length) (F : Nat → Prop) (a b c a' b' c' : Value) (w : World) (hF : ∀ g, F g → g < w.heap.size) (hx : ExIn F w (.mk k n s) a b c) (hy : ExIn F w (.mk k n s') a' b' c') :
    Calls Tryd.prog 6 #[.agg #[a, b, c], .agg #[a', b', c']] w fun e w' => e = .returned (.bool (Exs.eqB s s')) ∧ Below w.heap.size w w' := by
  have HF := hid hF
  have IH := hid ih
  have HL := hid hl
  obtain ⟨A, cp, rfl, rfl, rfl, l1, l2, hs⟩ := hx.box
  obtain ⟨A', cp', rfl, rfl, rfl, l3, l4, hs'⟩ := hy.box
  have HS := hid hs
  have HS' := hid hs'
  rw [← hl]
  have EQ := hid (Exs.eqB_at hl)
  have B0 : Hid (Below w.heap.size w ((w.alloc (.cells #[.int .i64 k, .int .i64 n, .slice A s.length cp] 24)).alloc (.cells #[.int .i64 k, .int .i64 n, .slice A' s.length cp'] 24))) := ((Below.refl _ _).alloc (Nat.le_refl _) _).alloc (by simp) _
  have X0 : Hid (((w.alloc (.cells #[.int .i64 k, .int .i64 n, .slice A s.length cp] 24)).alloc (.cells #[.int .i64 k, .int .i64 n, .slice A' s.length cp'] 24)).heap[w.heap.size]? = some (.cells #[.int .i64 k, .int .i64 n, .slice A s.length cp] 24 (0, 0))) := Has.alloc (Has.new _ _) _
  have X1 : Hid (((w.alloc (.cells #[.int .i64 k, .int .i64 n, .slice A s.length cp] 24)).alloc (.cells #[.int .i64 k, .int .i64 n, .slice A' s.length cp'] 24)).heap[w.heap.size + 1]? = some (.cells #[.int .i64 k, .int .i64 n, .slice A' s.length cp'] 24 (0, 0))) := Has.newAt _ _ (by simp)
  have e1 : (k != k) = false := by simp
  have e2 : (n != n) = false := by simp
  have e3 : ((s.length : Int) != (s.length : Int)) = false := by simp
  clear hF ih hs hs' hl hx hy
  go_enter Tryd.func6, Tryd.ntmps6
  go_wp2_with fail
  clear e1 e2 e3
  go_loopw [5] (fun jv wr => ∃ j : Nat, j ≤ s.length ∧ jv = .int .i64 j ∧ Hid (∀ i, (h : i < s.length) → (h' : i < s'.length) → i < j → (s[i]).eqB s'[i] = true) ∧ Hid (wr.heap[w.heap.size]? = some (.cells #[.int .i64 k, .int .i64 n, .slice A s.length cp] 24 (0, 0))) ∧ Hid (wr.heap[w.heap.size + 1]? = some (.cells #[.int .i64 k, .int .i64 n, .slice A' s.length cp'] 24 (0, 0))) ∧ Hid (Below w.heap.size w wr)) (fun jv _ => s.length - (intOf jv).toNat)
  case atStart => exact ⟨0, Nat.zero_le _, rfl, fun i _ _ h => by omega, X0, X1, B0⟩
  case round =>
    obtain ⟨j, hj, rfl, hold, hX0, hX1, hB⟩ := hrel
    obtain ⟨wo, rfl⟩ : ∃ wo : World, wo = wr := ⟨_, rfl⟩
    have lB := hB.out.size
    have lX := Has.lt hX1.out
    clear X0 X1 B0
    have x2 := Has.cell hX0.out 2
    have y2 := Has.cell hX1.out 2
    simp at x2 y2
    by_cases hlt : j < s.length
    · obtain ⟨bl, off, rfl, hFb, hex⟩ := HS.out (by omega)
      obtain ⟨bl', off', rfl, hFb', hex'⟩ := HS'.out (by have := HL.out; omega)
      have lb := HF.out bl hFb
      have lb' := HF.out bl' hFb'
      have hlt' : j < s'.length := by have := HL.out; omega
      obtain ⟨a1, b1, c1, q1, q2, q3, hy⟩ := (ExsIn.keep (Same.of_below hB.out HF.out) s hFb hex).at_ hlt
      obtain ⟨a2, b2, c2, r1, r2, r3, hz⟩ := (ExsIn.keep (Same.of_below hB.out HF.out) s' hFb' hex').at_ hlt'
      have HY := hid hy
      have HZ := hid hz
      have PI := hid (IH.out s[j] (List.getElem_mem hlt))
      have i1 : (j : Int) < (s.length : Int) := by omega
      have EJ : Hid (∃ β, β = (s[j]).eqB s'[j]) := ⟨_, rfl⟩
      obtain ⟨β, hβ⟩ := EJ.out
      have HBT := hid hβ
      obtain ⟨⟨k1, n1, s1⟩, hy0⟩ : ∃ y, y = s[j] := ⟨_, rfl⟩
      obtain ⟨⟨k2, n2, s2⟩, hz0⟩ : ∃ y, y = s'[j] := ⟨_, rfl⟩
      rw [← hy0] at HY PI hβ
      rw [← hz0] at HZ hβ
      obtain ⟨A1, cp1, rfl, rfl, rfl, _, _, _⟩ := HY.out.box
      obtain ⟨A2, cp2, rfl, rfl, rfl, _, _, _⟩ := HZ.out.box
      have HE := hid hβ
      clear hex hy hy0 hex' hz hz0 hβ EJ
      go_upto_region 6 with fail
      go_cut [6] (fun cv wx => cv = .bool β ∧ Hid (Below wo.heap.size wo wx))
      case first =>
        go_region_law (go_simp; go_at_call 6; refine (PI.out (.mk k2 n2 s2) F _ _ _ _ _ _ wo.drew (fun g hg => by have := HF.out g hg; simp; omega) (ExIn.keep (w := wo) (w' := wo.drew) (fun _ _ => rfl) _ HY.out) (ExIn.keep (w := wo) (w' := wo.drew) (fun _ _ => rfl) _ HZ.out)).mono ?_; rintro e w2 ⟨rfl, hb2⟩; have B2 : Hid (Below wo.heap.size wo w2) := (Below.refl _ wo).drew.trans hb2; rw [← HE.out])
        all_goals
          go_wp2_with fail
          go_meet
          exact ⟨rfl, B2⟩
      case rest =>
      obtain ⟨rfl, B2⟩ := hcut
      obtain ⟨w2, rfl⟩ : ∃ w2 : World, w2 = wc := ⟨_, rfl⟩
      have B3 := hid (hB.out.trans (B2.out.mono lB))
      have X3 := hid (Has.below hX0.out B2.out (by omega))
      have X4 := hid (Has.below hX1.out B2.out lX)
      clear x2 y2 q1 q2 q3 r1 r2 r3
      cases β with
      | true =>
        have N1 : Hid (∀ i, (h : i < s.length) → (h' : i < s'.length) → i < j + 1 → (s[i]).eqB s'[i] = true) := fun i h h' hi => by
          by_cases hij : i < j
          · exact hold.out i h h' hij
          · obtain rfl : i = j := by omega
            exact HBT.out.symm
        go_wp2_with fail
        go_roundw
        case rel => exact ⟨j + 1, by omega, by go_num, N1, X3, X4, B3⟩
        case measure => simp [intOf]; omega
      | false =>
        have R : Hid (Exs.eqB s s' = false) := by
          show _ = _
          cases hh : Exs.eqB s s' with
          | false => rfl
          | true =>
            have := EQ.out.1 hh j hlt (by have := HL.out; omega)
            rw [← HBT.out] at this; cases this
        go_wp2_with fail
        go_ret
        exact ⟨by rw [R.out]; rfl, B3.out⟩
    · have R : Hid (Exs.eqB s s' = true) := EQ.out.2 fun i h h' => hold.out i h h' (by omega)
      have d1 : decide ((j : Int) < (s.length : Int)) = false := by simp; omega
      have d2 : decide (j < s.length) = false := by simp; omega
      go_wp2_with fail
      go_ret
      exact ⟨by rw [R.out]; rfl, hB.out⟩
theorem same_step (k n : Int) (s : List Ex) (ih : ∀ y ∈ s, SameOk y) : SameOk (.mk k n s) := by
  intro y F a b c a' b' c' w hF hx hy
  obtain ⟨k', n', s'⟩ := y
  by_cases h : k = k' ∧ n = n' ∧ s.length = s'.length
  · obtain ⟨rfl, rfl, hl⟩ := h
    refine (same_yes k n s s' ih hl F a b c a' b' c' w hF hx hy).mono ?_
    rintro e w' ⟨rfl, hb⟩
    exact ⟨by rw [Ex.eqB]; simp, hb⟩
  · refine (same_no k n s k' n' s' F a b c a' b' c' w hx hy h).mono ?_
    rintro e w' ⟨rfl, hb⟩
    refine ⟨?_, hb⟩
    congr 2
    cases hh : (Ex.mk k n s).eqB (.mk k' n' s') with
    | false => rfl
    | true =>
      have := (Ex.eqB_iff _ _).1 hh
      injection this with h1 h2 h3
      exact absurd ⟨h1, h2, by rw [h3]⟩ h
theorem same_any : ∀ x, SameOk x := Ex.ind same_step
end Go.Proofs.YtanpmmpdolaiiaaDoor
