/- What cond.Check, Pair and Matters return; rows of bools in memory. No conditions; of Pair and Matters: what Check lets pass. -/
import Derived.Test.YtmhledlcfbjfkaaDoorCdm
import Derived.Test.YtmhledlcfbjfkaaDoorErv
import Derived.Deep.DeepCutAuto
namespace Go.Proofs.YtmhledlcfbjfkaaDoor
open Go.RowKit Go.Deep
/-- a row of bools -/
def BoolsIn (F : Nat → Prop) (w : World) (v : Value) (f : List Bool) : Prop :=
  ∃ A c, v = .slice A f.length c ∧ f.length ≤ c ∧ c ≤ maxLen ∧ (0 < f.length → ∃ b off, A = some ⟨b, off, none⟩ ∧ F b ∧ ∀ j, j < f.length → w.cell? ⟨b, off + j, none⟩ = some (.bool (bat f j)))
theorem BoolsIn.keep {F : Nat → Prop} {w w' : World} {v : Value} {f : List Bool} (h : BoolsIn F w v f) (hs : Same F w w') : BoolsIn F w' v f := by
  obtain ⟨A, c, rfl, h1, h2, h3⟩ := h
  refine ⟨A, c, rfl, h1, h2, fun hn => ?_⟩
  obtain ⟨b, off, rfl, hF, hc⟩ := h3 hn
  exact ⟨b, off, rfl, hF, fun j hj => (hs.cell (p := ⟨b, off + j, none⟩) hF).trans (hc j hj)⟩
theorem BoolsIn.more {F F' : Nat → Prop} {w : World} {v : Value} {f : List Bool} (h : BoolsIn F w v f) (hF : ∀ b, F b → F' b) : BoolsIn F' w v f := by
  obtain ⟨A, c, rfl, h1, h2, h3⟩ := h
  refine ⟨A, c, rfl, h1, h2, fun hn => ?_⟩
  obtain ⟨b, off, rfl, hFb, hc⟩ := h3 hn
  exact ⟨b, off, rfl, hF _ hFb, hc⟩
def chkC (n : Int) (f : List Bool) : Int := if n < 1 ∨ 6 < n then 1 else if f.length = 2 ^ n.toNat then 0 else 3
theorem chkC_ok {n : Int} {f : List Bool} (h : chkC n f = 0) : ∃ N : Nat, n = N ∧ 1 ≤ N ∧ N ≤ 6 ∧ f.length = 2 ^ N := by
  unfold chkC at h
  split at h
  · omega
  · split at h
    · rename_i h1 h2; exact ⟨n.toNat, by omega, by omega, by omega, h2⟩
    · omega
theorem chkC_of {N : Nat} {f : List Bool} (h1 : 1 ≤ N) (h6 : N ≤ 6) (hl : f.length = 2 ^ N) : chkC (N : Int) f = 0 := by
  unfold chkC
  rw [if_neg (by omega), Int.toNat_natCast, if_pos hl]
theorem shl_two {i : Nat} (h : i ≤ 6) : wrap64 ((2 : Int) ^ i) = ((2 ^ i : Nat) : Int) := by
  have e : (2 : Int) ^ i = ((2 ^ i : Nat) : Int) := by simp
  have hp := pow_le6 h
  rw [e]
  generalize (2 ^ i : Nat) = p at *
  unfold wrap64
  omega
set_option maxHeartbeats 1000000 in
theorem ccheck_any (n : Int) (f : List Bool) (F : Nat → Prop) (v : Value) (w : World) (hv : BoolsIn F w v f) :
    Calls Tryd.prog 10 #[.int .i64 n, v] w fun e w' => e = .returned (errV (chkC n f)) ∧ w' = w := by
  obtain ⟨A, c, rfl, h1, h2, _⟩ := hv
  unfold maxLen at h2
  by_cases a1 : n < 1
  · have E : Hid (chkC n f = 1) := by show _ = _; unfold chkC; rw [if_pos (.inl a1)]
    have d1 : decide (n < 1) = true := by simpa using a1
    clear a1
    go_enter Tryd.func10, Tryd.ntmps10
    go_wp2_with fail
    go_ret
    exact ⟨by rw [E.out]; rfl, rfl⟩
  · have d1 : decide (n < 1) = false := by simpa using a1
    by_cases a6 : 6 < n
    · have E : Hid (chkC n f = 1) := by show _ = _; unfold chkC; rw [if_pos (.inr a6)]
      have d2 : decide (6 < n) = true := by simpa using a6
      clear a1 a6
      go_enter Tryd.func10, Tryd.ntmps10
      go_wp2_with fail
      go_ret
      exact ⟨by rw [E.out]; rfl, rfl⟩
    · obtain ⟨N, rfl⟩ : ∃ N : Nat, n = N := ⟨n.toNat, by omega⟩
      have d2 : decide (6 < (N : Int)) = false := by simpa using a6
      have N6 : N ≤ 6 := by omega
      have SH := shl_two N6
      have p6 := pow_le6 N6
      by_cases hl : f.length = 2 ^ N
      · have E := hid (chkC_of (f := f) (by omega) N6 hl)
        generalize (2 ^ N : Nat) = p at *
        subst hl
        clear a1 a6
        go_enter Tryd.func10, Tryd.ntmps10
        go_wp2_with fail
        go_ret
        exact ⟨by rw [E.out]; rfl, rfl⟩
      · have E : Hid (chkC (N : Int) f = 3) := by show _ = _; unfold chkC; rw [if_neg (by omega), Int.toNat_natCast, if_neg hl]
        generalize (2 ^ N : Nat) = p at *
        have d3 : ((f.length : Int) != (p : Int)) = true := by simp; omega
        have d4 : (f.length != p) = true := by simpa using hl
        have d5 : ((f.length : Int) = (p : Int)) = False := by simp; omega
        clear a1 a6 hl
        go_enter Tryd.func10, Tryd.ntmps10
        go_wp2_with fail
        go_ret
        exact ⟨by rw [E.out]; rfl, rfl⟩
def pairR (f : List Bool) (i : Nat) : Value := match pairF f i with
  | some t => .tuple #[.int .i64 (t : Int), .int .i64 ((up t i : Nat) : Int), .nilIface]
  | none => .tuple #[.int .i64 0, .int .i64 0, .iface 41 (.int .i64 2)]
theorem rfind_first {p : Nat → Bool} {n t : Nat} (ht : t < n) (h : ∀ k, k < t → p k = false) (hp : p t = true) : (List.range n).find? p = some t := by
  rw [List.find?_eq_some_iff_append]
  refine ⟨hp, List.range t, List.range' (t + 1) (n - (t + 1)), ?_, fun k hk => by simpa using h k (List.mem_range.1 hk)⟩
  apply List.ext_getElem
  · simp; omega
  · intro j h1 h2
    rw [List.getElem_range]
    by_cases hj : j < t
    · rw [List.getElem_append_left (by simpa using hj), List.getElem_range]
    · rw [List.getElem_append_right (by simpa using hj)]
      by_cases e : j = t
      · subst e; simp
      · simp only [List.length_range]
        rw [List.getElem_cons]
        split
        · omega
        · rw [List.getElem_range']; omega
theorem rfind_none {p : Nat → Bool} {n : Nat} (h : ∀ k, k < n → p k = false) : (List.range n).find? p = none := by
  rw [List.find?_eq_none]
  intro k hk
  simpa using h k (List.mem_range.1 hk)
set_option maxRecDepth 100000 in
set_option maxHeartbeats 2000000 in
theorem pair_ok (N i : Nat) (f : List Bool) (F : Nat → Prop) (v : Value) (w : World) (hF : ∀ b, F b → b < w.heap.size) (hv : BoolsIn F w v f) (h1N : 1 ≤ N) (hN : N ≤ 6) (hl : f.length = 2 ^ N) (hi : i < N) :
    Calls Tryd.prog 11 #[.int .i64 N, v, .int .i64 i] w fun e w' => e = .returned (pairR f i) ∧ Below w.heap.size w w' := by
  have CK := hid (ccheck_any N f F v w hv)
  have C0 := hid (chkC_of h1N hN hl)
  obtain ⟨A, c, rfl, l1, l2, hs⟩ := hv
  have HS := hid hs
  unfold maxLen at l2
  have SH := shl_two (i := i) (by omega)
  have p6 := pow_le6 hN
  have pi := pow_le6 (n := i) (by omega)
  have pp : 0 < 2 ^ i := Nat.pow_pos (by omega)
  have FL : Hid (∀ t, t < f.length → (bz t i = true → up t i < f.length ∧ bits .or .i64 (t : Int) ((2 ^ i : Nat) : Int) = ((up t i : Nat) : Int)) ∧ bits .and .i64 (t : Int) ((2 ^ i : Nat) : Int) = if bz t i then 0 else ((2 ^ i : Nat) : Int)) := fun t ht => by
    refine ⟨fun hb => ?_, and_bit t i (by omega) (by omega)⟩
    obtain ⟨h4, h5⟩ := fl_lt N hN t i (by omega) (by omega) (by omega) hi
    rw [h5 hb] at h4
    exact ⟨by omega, by rw [or_bit t i (by omega) (by omega), if_pos hb]⟩
  have E1 : Hid (∀ t, t < f.length → (∀ k, k < t → goodP f i k = false) → goodP f i t = true → pairR f i = .tuple #[.int .i64 (t : Int), .int .i64 ((up t i : Nat) : Int), .nilIface]) := fun t ht h hp => by
    unfold pairR pairF; rw [rfind_first ht h hp]
  have E2 : Hid ((∀ k, k < f.length → goodP f i k = false) → pairR f i = .tuple #[.int .i64 0, .int .i64 0, .iface 41 (.int .i64 2)]) := fun h => by
    unfold pairR pairF; rw [rfind_none h]
  have GP : Hid (∀ t, goodP f i t = (bz t i && (bat f t != bat f (up t i)))) := fun t => rfl
  have fl64 : f.length ≤ 64 := by omega
  have i1 : (i : Int) < (N : Int) := by omega
  generalize (2 ^ i : Nat) = p at *
  clear hs hl p6 hF
  go_enter Tryd.func11, Tryd.ntmps11
  go_wp2_with fail
  refine CK.out.mono ?_
  rintro e w1 ⟨rfl, rfl⟩
  rw [C0.out, errV_0]
  go_wp2_with fail
  go_loopw [30] (fun ti wr => ∃ t : Nat, t ≤ f.length ∧ ti = .int .i64 t ∧ Hid (∀ k, k < t → goodP f i k = false) ∧ Hid (Below w1.heap.size w1 wr)) (fun ti _ => f.length - (intOf ti).toNat)
  case atStart => exact ⟨0, Nat.zero_le _, rfl, fun k hk => by omega, Below.refl _ _⟩
  case round =>
    obtain ⟨t, ht, rfl, hold, hB⟩ := hrel
    obtain ⟨wo, rfl⟩ : ∃ wo : World, wo = wr := ⟨_, rfl⟩
    by_cases hlt : t < f.length
    · obtain ⟨b, off, rfl, hb, hc⟩ := HS.out (by omega)
      obtain ⟨F1, F2⟩ := FL.out t hlt
      have t1 : (t : Int) < (f.length : Int) := by omega
      have GT := hid (GP.out t)
      have HL := hid hlt
      have c1 : wo.cell? ⟨b, off + t, none⟩ = some (.bool (bat f t)) := (hB.out.cell (p := ⟨b, off + t, none⟩) (cell_lt (hc t hlt))).trans (hc t hlt)
      cases hz : bz t i with
      | true =>
        obtain ⟨u1, u2⟩ := F1 hz
        rw [hz, if_pos rfl] at F2
        rw [hz] at GT
        have c2 : wo.cell? ⟨b, off + up t i, none⟩ = some (.bool (bat f (up t i))) := (hB.out.cell (p := ⟨b, off + up t i, none⟩) (cell_lt (hc _ u1))).trans (hc _ u1)
        have UU := hid (rfl : up t i = up t i)
        have E1t := hid (E1.out t hlt hold.out)
        obtain ⟨u, hu⟩ : ∃ u, u = up t i := ⟨_, rfl⟩
        rw [← hu] at u1 u2 c2 GT E1t
        have u3 : (u : Int) < (f.length : Int) := by omega
        obtain ⟨x, hx⟩ : ∃ x, x = bat f t := ⟨_, rfl⟩
        obtain ⟨y, hy⟩ : ∃ y, y = bat f u := ⟨_, rfl⟩
        rw [← hx] at c1 GT
        rw [← hy] at c2 GT
        clear F1 hc hz hx hy hu UU
        have NX : Hid (goodP f i t = false → ∀ k, k < t + 1 → goodP f i k = false) := fun h k hk => by
          by_cases e : k = t
          · rw [e]; exact h
          · exact hold.out k (by omega)
        cases x <;> cases y
        · have NG := hid (NX.out GT.out)
          go_wp2_with fail
          go_upto_region 10 with fail
          go_quiet (fail)
          have B2 := hid (below_drewN hB.out nq)
          go_wp2_with fail
          go_roundw
          case rel => exact ⟨t + 1, by omega, by go_num, NG, B2⟩
          case measure => simp [intOf]; omega
        · have ER := hid (E1t.out GT.out)
          go_wp2_with fail
          go_upto_region 10 with fail
          go_quiet (fail)
          have B2 := hid (below_drewN hB.out nq)
          go_wp2_with fail
          go_ret3
          exact ⟨by rw [ER.out]; rfl, B2.out⟩
        · have ER := hid (E1t.out GT.out)
          go_wp2_with fail
          go_upto_region 10 with fail
          go_quiet (fail)
          have B2 := hid (below_drewN hB.out nq)
          go_wp2_with fail
          go_ret3
          exact ⟨by rw [ER.out]; rfl, B2.out⟩
        · have NG := hid (NX.out GT.out)
          go_wp2_with fail
          go_upto_region 10 with fail
          go_quiet (fail)
          have B2 := hid (below_drewN hB.out nq)
          go_wp2_with fail
          go_roundw
          case rel => exact ⟨t + 1, by omega, by go_num, NG, B2⟩
          case measure => simp [intOf]; omega
      | false =>
        rw [hz, if_neg (by decide)] at F2
        rw [hz] at GT
        have NG : Hid (∀ k, k < t + 1 → goodP f i k = false) := fun k hk => by
          by_cases e : k = t
          · rw [e]; exact GT.out
          · exact hold.out k (by omega)
        have d1 : ((p : Int) == 0) = false := by simp; omega
        have d2 : (p == 0) = false := by simp; omega
        have d3 : ((p : Int) = 0) = False := by simp; omega
        clear F1 hc hz c1
        go_wp2_with fail
        go_upto_region 10 with fail
        go_quiet (fail)
        have B2 := hid (below_drewN hB.out nq)
        go_wp2_with fail
        go_roundw
        case rel => exact ⟨t + 1, by omega, by go_num, NG, B2⟩
        case measure => simp [intOf]; omega
    · obtain rfl : t = f.length := by omega
      have ER := hid (E2.out hold.out)
      go_wp2_with fail
      go_ret3
      exact ⟨by rw [ER.out]; rfl, hB.out⟩
theorem eq_err_none (w : World) : Sem.run Tryd.prog (binOp BinOp.eql 26 (.iface 41 (.int .i64 2)) (.iface 41 (.int .i64 2))) w = .ok (.bool true) w := by kernel_rfl
theorem eq_nil_none (w : World) : Sem.run Tryd.prog (binOp BinOp.eql 26 .nilIface (.iface 41 (.int .i64 2))) w = .ok (.bool false) w := by kernel_rfl
set_option maxRecDepth 100000 in
set_option maxHeartbeats 1000000 in
theorem matters_ok (N i : Nat) (f : List Bool) (F : Nat → Prop) (v : Value) (w : World) (hF : ∀ b, F b → b < w.heap.size) (hv : BoolsIn F w v f) (h1N : 1 ≤ N) (hN : N ≤ 6) (hl : f.length = 2 ^ N) (hi : i < N) :
    Calls Tryd.prog 20 #[.int .i64 N, v, .int .i64 i] w fun e w' => e = .returned (.tuple #[.bool (mat f i), .nilIface]) ∧ Below w.heap.size w w' := by
  have PO := hid (pair_ok N i f F v w hF hv h1N hN hl hi)
  obtain ⟨A, c, rfl, _, _, _⟩ := hv
  have M : Hid (∀ o, pairF f i = o → mat f i = o.isSome) := fun o h => by unfold mat; rw [h]
  have R : Hid (∀ o, pairF f i = o → pairR f i = match o with
    | some t => .tuple #[.int .i64 (t : Int), .int .i64 ((up t i : Nat) : Int), .nilIface]
    | none => .tuple #[.int .i64 0, .int .i64 0, .iface 41 (.int .i64 2)]) := fun o h => by unfold pairR; rw [h]
  clear hF hl
  cases ho : pairF f i with
  | none =>
    have M2 := hid (M.out none ho)
    have R2 := hid (R.out none ho)
    clear ho M R
    go_enter Tryd.func20, Tryd.ntmps20
    go_wp2_with fail
    refine PO.out.mono ?_
    rintro e w1 ⟨rfl, hb⟩
    rw [R2.out]
    have B1 := hid hb
    have q1 := eq_err_none
    have q2 := eq_nil_none
    clear hb
    go_wp2_with fail
    go_ret2
    exact ⟨by rw [M2.out]; rfl, B1.out⟩
  | some t =>
    have M2 := hid (M.out (some t) ho)
    have R2 := hid (R.out (some t) ho)
    clear ho M R
    go_enter Tryd.func20, Tryd.ntmps20
    go_wp2_with fail
    refine PO.out.mono ?_
    rintro e w1 ⟨rfl, hb⟩
    rw [R2.out]
    have B1 := hid hb
    have q1 := eq_err_none
    have q2 := eq_nil_none
    clear hb
    go_wp2_with fail
    go_ret2
    exact ⟨by rw [M2.out]; rfl, B1.out⟩
end Go.Proofs.YtmhledlcfbjfkaaDoor
