/- Tests by their bits; rules (a row of conditions, a deed) in memory; table.fits and assayerref2.So. Conditions: tests below 64, rows of bits. -/
import Derived.Test.YtkiljnggphlomaaDoorOwh
import Derived.Test.YtkiljnggphlomaaDoorMach
import Derived.Test.YtkiljnggphlomaaDoorApp
namespace Go.Proofs.YtkiljnggphlomaaDoor
open Go.RowKit Go.Deep
def bt (t i : Nat) : Nat := t / 2 ^ i % 2
theorem bt_lt (t i : Nat) : bt t i < 2 := Nat.mod_lt _ (by decide)
theorem bt_succ (t i : Nat) : bt (t / 2) i = bt t (i + 1) := by
  unfold bt; rw [Nat.div_div_eq_div_mul, Nat.pow_succ, Nat.mul_comm]
theorem bt_ext : ∀ (n t u : Nat), t < 2 ^ n → u < 2 ^ n → (∀ i, i < n → bt t i = bt u i) → t = u
  | 0, t, u, ht, hu, _ => by simp at ht hu; omega
  | n + 1, t, u, ht, hu, h => by
    have h0 := h 0 (by omega)
    unfold bt at h0
    simp only [Nat.pow_zero, Nat.div_one] at h0
    rw [Nat.pow_succ] at ht hu
    have := bt_ext n (t / 2) (u / 2) (by omega) (by omega) fun i hi => by rw [bt_succ, bt_succ]; exact h (i + 1) (by omega)
    omega
def bitsR (n t : Nat) : List Int := (List.range n).map fun i => ((bt t i : Nat) : Int)
theorem bitsR_len (n t : Nat) : (bitsR n t).length = n := by simp [bitsR]
theorem bitsR_get {n t i : Nat} (h : i < n) : (bitsR n t)[i]? = some ((bt t i : Nat) : Int) := by simp [bitsR, h]
theorem bitsR_at {n t i : Nat} (h : i < n) : at0 (bitsR n t) i = ((bt t i : Nat) : Int) := by
  unfold at0; rw [List.getD_eq_getElem?_getD, bitsR_get h]; rfl
theorem bitsR_wf (n t : Nat) : ∀ z ∈ bitsR n t, (Lit.int .i64 z).wf = true := by
  intro z hz
  unfold bitsR at hz
  simp only [List.mem_map] at hz
  obtain ⟨i, _, rfl⟩ := hz
  have := bt_lt t i
  exact WalkArith.wf_i64 (n := ((bt t i : Nat) : Int)) (by omega)
def fitB (n u t : Nat) : Bool := decide (∀ i, i < n → bt u i = bt t i)
theorem and_small : ∀ q : Nat, q ≤ 64 → bits .and .i64 (q : Int) 1 = ((q % 2 : Nat) : Int) := by
  intro q hq
  have h : (List.range 65).all (fun (q : Nat) => bits .and .i64 (q : Int) 1 == ((q % 2 : Nat) : Int)) = true := by decide +kernel
  rw [List.all_eq_true] at h
  simpa using h q (by simp; omega)
theorem fitB_eq {n u t : Nat} (hu : u < 2 ^ n) (ht : t < 2 ^ n) : fitB n u t = decide (t = u) := by
  unfold fitB
  apply decide_eq_decide.2
  exact ⟨fun h => (bt_ext n u t hu ht h).symm, fun h => by subst h; exact fun _ _ => rfl⟩
set_option maxHeartbeats 1000000 in
theorem so_any (t i : Nat) (w : World) (ht : t < 64) (hi : i < 64) :
    Calls Tryd.prog 24 #[.int .i64 t, .int .i64 i] w fun e w' => e = .returned (.bool (decide (bt t i = 1))) ∧ w' = w := by
  have m1 : min i 64 = i := by omega
  obtain ⟨q, hq⟩ : ∃ q, q = t / 2 ^ i := ⟨_, rfl⟩
  have e1 : (t : Int) / 2 ^ i = (q : Int) := by rw [hq]; simp
  have qb : q ≤ 64 := by rw [hq]; exact Nat.le_trans (Nat.div_le_self _ _) (by omega)
  have E : Hid (bt t i = q % 2) := by show _ = _; unfold bt; rw [hq]
  clear hq
  go_enter Tryd.func24, Tryd.ntmps24
  go_wp2_with fail
  go_ret
  refine ⟨?_, rfl⟩
  rw [E.out]
  have : ((q : Int) % 2 == 1) = decide (q % 2 = 1) := by
    rw [Bool.eq_iff_iff, beq_iff_eq, decide_eq_true_eq]; omega
  rw [← this]; rfl
set_option maxRecDepth 100000 in
set_option maxHeartbeats 1000000 in
theorem fits_any (n u t : Nat) (d : Int) (F : Nat → Prop) (v : Value) (w : World) (hF : ∀ b, F b → b < w.heap.size) (hv : IntsIn .i64 F w v (bitsR n u)) (hn : n ≤ 6) (ht : t < 64) :
    Calls Tryd.prog 55 #[.agg #[v, .int .i64 d], .int .i64 t] w fun e w' => e = .returned (.bool (fitB n u t)) ∧ Below w.heap.size w w' := by
  have HF := hid hF
  obtain ⟨A, c, rfl, h1, _, h3⟩ := hv
  have H3 := hid h3
  rw [bitsR_len] at h1 H3 ⊢
  have BX := hid ((Below.refl w.heap.size w).alloc (Nat.le_refl _) (.cells #[.slice A n c, .int .i64 d] 51))
  have X := Has.new w (.cells #[.slice A n c, .int .i64 d] 51)
  have x0 := (Has.cell X 0).trans rfl
  clear hF h3 h1 X
  go_enter Tryd.func55, Tryd.ntmps55
  go_wp2_with fail
  obtain ⟨w1, hw1⟩ : ∃ w1, w1 = w.alloc (.cells #[.slice A n c, .int .i64 d] 51) := ⟨_, rfl⟩
  rw [← hw1] at BX ⊢
  clear hw1 x0
  go_loopw [10] (fun ji wr => ∃ j : Nat, j ≤ n ∧ ji = .int .i64 j ∧ w1 = wr ∧ Hid (∀ k, k < j → bt u k = bt t k)) (fun ji _ => n - (intOf ji).toNat)
  case atStart => exact ⟨0, Nat.zero_le _, rfl, rfl, fun k hk => by omega⟩
  case round =>
    obtain ⟨j, hj, rfl, hw, hold⟩ := hrel
    subst hw
    by_cases hlt : j < n
    · obtain ⟨b, o, rfl, hb, hc⟩ := H3.out (by omega)
      have lb := HF.out b hb
      have c1 := (BX.out.cell (p := ⟨b, o + j, none⟩) lb).trans (hc j hlt)
      have EX : (bitsR n u).getD j 0 = ((bt u j : Nat) : Int) := bitsR_at hlt
      rw [EX] at c1
      have i1 : (j : Int) < (n : Int) := by omega
      have bl := bt_lt u j
      have m1 : min j 64 = j := by omega
      obtain ⟨q, hq⟩ : ∃ q, q = t / 2 ^ j := ⟨_, rfl⟩
      have e1 : (t : Int) / 2 ^ j = (q : Int) := by rw [hq]; simp
      have qb : q ≤ 64 := by rw [hq]; exact Nat.le_trans (Nat.div_le_self _ _) (by omega)
      have E : Hid (bt t j = q % 2) := by show _ = _; unfold bt; rw [hq]
      obtain ⟨p, hp⟩ : ∃ p, p = bt u j := ⟨_, rfl⟩
      have HP := hid hp
      rw [← hp] at c1 bl
      have eA := and_small q qb
      obtain ⟨r, hr⟩ : ∃ r, r = q % 2 := ⟨_, rfl⟩
      rw [← hr] at eA E
      clear hc EX hq hp hr
      by_cases hpr : p = r
      · have N : Hid (∀ k, k < j + 1 → bt u k = bt t k) := fun k hk => by
          by_cases hkj : k = j
          · subst hkj; rw [E.out, ← HP.out]; exact hpr
          · exact hold.out k (by omega)
        subst hpr
        have z1 : ((p : Int) != (p : Int)) = false := by simp
        go_wp2_with fail
        go_roundw
        case rel => exact ⟨j + 1, by omega, by go_num, by first | rfl | trivial, N⟩
        case measure => simp [intOf]; omega
      · have N : Hid (fitB n u t = false) := by
          show _ = _
          unfold fitB
          rw [decide_eq_false_iff_not]
          intro h
          exact hpr (by rw [HP.out, ← E.out]; exact h j hlt)
        have z1 : ((p : Int) != (r : Int)) = true := by rw [bne_iff_ne]; omega
        have z2 : ¬ (p : Int) = (r : Int) := by omega
        clear hpr
        go_wp2_with fail
        go_ret
        exact ⟨by rw [N.out]; rfl, BX.out⟩
    · have N : Hid (fitB n u t = true) := by
        show _ = _
        unfold fitB
        rw [decide_eq_true_eq]
        exact fun i hi => hold.out i (by omega)
      have i1 : ¬ (j : Int) < (n : Int) := by omega
      go_wp2_with fail
      go_ret
      exact ⟨by rw [N.out]; rfl, BX.out⟩
end Go.Proofs.YtkiljnggphlomaaDoor
