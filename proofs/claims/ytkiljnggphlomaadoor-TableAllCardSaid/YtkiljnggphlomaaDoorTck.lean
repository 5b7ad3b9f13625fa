/- table.Check of right rules, table.Which and table.meet. Conditions: rules of bits. -/
import Derived.Test.YtkiljnggphlomaaDoorTru
import Derived.Test.YtkiljnggphlomaaDoorErv
namespace Go.Proofs.YtkiljnggphlomaaDoor
open Go.RowKit Go.Deep
set_option maxRecDepth 100000 in
set_option maxHeartbeats 1000000 in
theorem tcheck_any (n : Nat) (l : RuleL) (F : Nat → Prop) (v : Value) (w : World) (hF : ∀ b, F b → b < w.heap.size) (hv : RulesIn n F w v l) (h1n : 1 ≤ n) (hn : n ≤ 6) (hl : l.length ≤ 12) :
    Calls Tryd.prog 52 #[.int .i64 n, v] w fun e w' => e = .returned .nilIface ∧ Below w.heap.size w w' := by
  have HF := hid hF
  obtain ⟨A, c, rfl, h1, h3⟩ := hv
  have H3 := hid h3
  have d1 : ¬ (12 : Int) < (l.length : Int) := by omega
  have d2 : decide ((12 : Int) < (l.length : Int)) = false := decide_eq_false d1
  have n1 : ¬ (n : Int) < 1 := by omega
  have n2 : ¬ (6 : Int) < (n : Int) := by omega
  clear hF h3 h1
  go_enter Tryd.func52, Tryd.ntmps52
  go_wp2_with fail
  go_loopw [22] (fun ji wr => ∃ j : Nat, j ≤ l.length ∧ ji = .int .i64 j ∧ Hid (Below w.heap.size w wr)) (fun ji _ => l.length - (intOf ji).toNat)
  case atStart => exact ⟨0, Nat.zero_le _, rfl, Below.refl _ _⟩
  case round =>
    obtain ⟨j, hj, rfl, hB⟩ := hrel
    have sB := hB.out.size
    by_cases hlt : j < l.length
    · obtain ⟨b, o, rfl, hb, hc⟩ := H3.out (by omega)
      obtain ⟨r, hr, i2, hd⟩ := hc j hlt
      have lb := HF.out b hb
      have c1 := (hB.out.cell (p := ⟨b, o + j * 2, none⟩) lb).trans hr
      have c2 := (hB.out.cell (p := ⟨b, o + j * 2 + 1, none⟩) lb).trans hd
      have i1 : (j : Int) < (l.length : Int) := by omega
      obtain ⟨x, hx⟩ : ∃ x, x = (ruAt l j).1 := ⟨_, rfl⟩
      rw [← hx] at i2
      obtain ⟨d, hdd⟩ : ∃ d, d = (ruAt l j).2 := ⟨_, rfl⟩
      rw [← hdd] at c2
      obtain ⟨A2, p2, rfl, _, _, h5⟩ := i2
      have H5 := hid h5
      rw [bitsR_len] at c1 H5
      obtain ⟨wo, hwo⟩ : ∃ wo, wo = wr := ⟨_, rfl⟩
      subst hwo
      have BA := hid (hB.out.alloc sB (.cells #[.slice A2 n p2, .int .i64 d] 51))
      have WA : Hid (∀ b, F b → (wo.alloc (.cells #[.slice A2 n p2, .int .i64 d] 51)).heap[b]? = w.heap[b]?) := fun b hb => (Below.heap_alloc wo _ b (by have := HF.out b hb; omega)).trans (hB.out.block b (HF.out b hb))
      clear hc hr hd hx hdd h5
      go_wp2_with fail
      obtain ⟨wa, hwa⟩ : ∃ wa, wa = wo.alloc (.cells #[.slice A2 n p2, .int .i64 d] 51) := ⟨_, rfl⟩
      rw [← hwa] at BA WA ⊢
      clear hwa
      go_loopw [35] (fun ki wr => ∃ k : Nat, k ≤ n ∧ ki = .int .i64 k ∧ wa = wr) (fun ki _ => n - (intOf ki).toNat)
      case atStart => exact ⟨0, Nat.zero_le _, rfl, rfl⟩
      case round =>
        obtain ⟨k, hk, rfl, hw⟩ := hrel
        subst hw
        by_cases hkt : k < n
        · obtain ⟨b3, o3, rfl, hb3, hc3⟩ := H5.out (by omega)
          have c3 := (World.cell?_of_block (w := w) (a := ⟨b3, o3 + k, none⟩) (WA.out b3 hb3)).trans (hc3 k hkt)
          have EX : (bitsR n x).getD k 0 = ((bt x k : Nat) : Int) := bitsR_at hkt
          rw [EX] at c3
          have bl := bt_lt x k
          have k1 : (k : Int) < (n : Int) := by omega
          generalize bt x k = p at c3 bl
          have p1 : ¬ (p : Int) < -1 := by omega
          have p2' : ¬ (1 : Int) < (p : Int) := by omega
          clear hc3 EX
          go_wp2_with fail
          go_roundw
          case rel => exact ⟨k + 1, by omega, by go_num, by first | rfl | trivial⟩
          case measure => simp [intOf]; omega
        · have k1 : ¬ (k : Int) < (n : Int) := by omega
          go_wp2_with fail
          go_roundw
          case rel => exact ⟨j + 1, by omega, by go_num, BA⟩
          case measure => simp [intOf]; omega
    · have i1 : ¬ (j : Int) < (l.length : Int) := by omega
      go_wp2_with fail
      go_ret
      exact ⟨rfl, hB.out⟩
theorem pow_fact {n : Nat} (hn : n ≤ 6) : ∃ N : Nat, N = 2 ^ n ∧ 1 ≤ N ∧ N ≤ 64 := ⟨2 ^ n, rfl, Nat.one_le_two_pow, by
  have : 2 ^ n ≤ 2 ^ 6 := Nat.pow_le_pow_right (by omega) hn
  omega⟩
/-- what Which tells: a deed and an error's number -/
def whichD (n t : Nat) (l : RuleL) : Int := match l.find? (fun r => fitB n r.1 t) with | some r => r.2 | none => 0
def whichC (n t : Nat) (l : RuleL) : Int := if l.any (fun r => fitB n r.1 t) then 0 else 2
set_option maxRecDepth 100000 in
set_option maxHeartbeats 1000000 in
theorem which_any (n t : Nat) (l : RuleL) (F : Nat → Prop) (v : Value) (w : World) (hF : ∀ b, F b → b < w.heap.size) (hv : RulesIn n F w v l) (h1n : 1 ≤ n) (hn : n ≤ 6) (hl : l.length ≤ 12) (ht : t < 2 ^ n) :
    Calls Tryd.prog 23 #[.int .i64 n, v, .int .i64 t] w fun e w' => e = .returned (.tuple #[.int .i64 (whichD n t l), errV (whichC n t l)]) ∧ Below w.heap.size w w' := by
  have HF := hid hF
  have HV := hid hv
  obtain ⟨A, c, rfl, h1, h3⟩ := hv
  have H3 := hid h3
  obtain ⟨N, hN, N1, N64⟩ := pow_fact hn
  have ht2 : t < N := by rw [hN]; exact ht
  have t64 : t < 64 := by omega
  have eN : (2 : Int) ^ n = (N : Int) := by rw [hN]; simp
  have BX := hid ((Below.refl w.heap.size w).alloc (Nat.le_refl _) (.cells #[.int .i64 (t : Int)] 3))
  have X := Has.new w (.cells #[.int .i64 (t : Int)] 3)
  have X0 := hid ((Has.cell X 0).trans rfl)
  have VX := hid (HV.out.keep (Same.of_below BX.out HF.out))
  have LF : Hid (∀ b, F b → b < (w.alloc (.cells #[.int .i64 (t : Int)] 3)).heap.size) := fun b h => by have := HF.out b h; simp; omega
  clear hF h3 h1 X ht hN
  go_enter Tryd.func23, Tryd.ntmps23
  go_wp2_with fail
  refine (tcheck_any n l F _ _ LF.out VX.out h1n hn hl).mono ?_
  rintro e w2 ⟨rfl, hb⟩
  have s2 := hb.size
  simp only [World.size_alloc] at s2
  have B2 := hid (BX.out.trans (hb.mono (by simp)))
  have c0 : w2.cell? ⟨w.heap.size, 0, none⟩ = some (.int .i64 t) := (hb.cell (p := ⟨w.heap.size, 0, none⟩) (by simp)).trans X0.out
  have C0 := hid c0
  have V2 := hid (HV.out.keep (Same.of_below B2.out HF.out))
  have t0 : ¬ (t : Int) < 0 := by omega
  have t1 : ¬ (N : Int) ≤ (t : Int) := by omega
  clear hb
  have eW : IntKind.i64.wrap (N : Int) = (N : Int) := by rw [IntKind.wrap_i64]; omega
  have d0 : decide ((t : Int) < 0) = false := decide_eq_false t0
  have dN : decide ((N : Int) ≤ (t : Int)) = false := decide_eq_false t1
  go_upto_region 4 with fail
  go_quiet (fail)
  have s3 : w2.heap.size ≤ (w2.drewN nq).heap.size := Nat.le_refl _
  have B3 := hid (below_drewN B2.out nq)
  have c3 : (w2.drewN nq).cell? ⟨w.heap.size, 0, none⟩ = some (.int .i64 t) := C0.out
  have V3 := hid (V2.out.keep (w' := w2.drewN nq) fun _ _ => rfl)
  clear c0
  generalize w2.drewN nq = w3 at *
  have L3 : Hid (∀ b, F b → b < w3.heap.size) := fun b h => by have := HF.out b h; omega
  have AF := hid (which1_ask n t w.heap.size w3 hn t64 c3)
  clear c3 V2 B2 VX BX X0 t0 t1 d0 dN eW eN C0
  go_wp2_with fail
  refine (ruix_any n t 54 #[.pointer (some ⟨w.heap.size, 0, none⟩)] l F _ w3 L3.out V3.out (Nat.le_refl _) AF.out enter_which1).mono ?_
  rintro e w4 ⟨rfl, hb⟩
  have B4 := hid (B3.out.trans (hb.mono (by omega)))
  have V4 := hid (V3.out.keep (Same.of_below hb fun b h => L3.out b h))
  clear hb AF
  cases hfd : l.findIdx? (fun r => fitB n r.1 t) with
  | none =>
    have HFD := hid hfd
    have EU : uIx n t l = -1 := by unfold uIx; rw [hfd]
    have nn : ∀ x ∈ l, fitB n x.1 t = false := List.findIdx?_eq_none_iff.1 hfd
    have ED : Hid (whichD n t l = 0 ∧ whichC n t l = 2) := by
      have h1 : l.find? (fun r => fitB n r.1 t) = none := by rw [List.find?_eq_none]; intro x hx; rw [nn x hx]; simp
      have h2 : l.any (fun r => fitB n r.1 t) = false := by rw [List.any_eq_false]; intro x hx; rw [nn x hx]; simp
      exact ⟨by unfold whichD; rw [h1], by unfold whichC; rw [h2]; rfl⟩
    rw [EU]
    clear hfd EU nn
    go_wp2_with fail
    go_ret2
    exact ⟨by rw [ED.out.1, ED.out.2, errV_no (by decide)]; rfl, B4.out⟩
  | some i =>
    obtain ⟨hi1, hi2, hi3⟩ := List.findIdx?_eq_some_iff_getElem.1 hfd
    have EU : uIx n t l = (i : Int) := by unfold uIx; rw [hfd]
    have ED : Hid (whichD n t l = (ruAt l i).2 ∧ whichC n t l = 0) := by
      have h1 : l.find? (fun r => fitB n r.1 t) = some l[i] := by
        rw [List.find?_eq_some_iff_getElem]
        exact ⟨hi2, i, hi1, rfl, fun j hj => by simpa using hi3 j hj⟩
      have h2 : l.any (fun r => fitB n r.1 t) = true := by rw [List.any_eq_true]; exact ⟨_, List.getElem_mem hi1, hi2⟩
      exact ⟨by unfold whichD; rw [h1, ruAt_get hi1], by unfold whichC; rw [h2]; rfl⟩
    obtain ⟨A5, c5, e5, _, h5⟩ := V4.out
    injection e5 with e5 _ e6
    subst e5 e6
    obtain ⟨b, o, rfl, hb, hcc⟩ := h5 (by omega)
    obtain ⟨u, _, _, c6⟩ := hcc i hi1
    have i1 : (i : Int) < (l.length : Int) := by omega
    generalize (ruAt l i).2 = dd at c6 ED
    rw [EU]
    clear hfd EU hi2 hi3 hcc h5
    go_wp2_with fail
    go_ret2
    exact ⟨by rw [ED.out.1, ED.out.2, errV_0]; rfl, B4.out⟩
set_option maxRecDepth 100000 in
set_option maxHeartbeats 1000000 in
theorem meet_any (n x y : Nat) (d1 d2 : Int) (F : Nat → Prop) (u v : Value) (w : World) (hF : ∀ b, F b → b < w.heap.size) (hu : IntsIn .i64 F w u (bitsR n x)) (hv : IntsIn .i64 F w v (bitsR n y)) (hn : n ≤ 6) :
    Calls Tryd.prog 58 #[.agg #[u, .int .i64 d1], .agg #[v, .int .i64 d2]] w fun e w' => e = .returned (.bool (fitB n x y)) ∧ Below w.heap.size w w' := by
  have HF := hid hF
  obtain ⟨A, c, rfl, h1, _, h3⟩ := hu
  obtain ⟨A2, c2, rfl, h2, _, h4⟩ := hv
  have H3 := hid h3
  have H4 := hid h4
  rw [bitsR_len] at h1 H3 h2 H4
  simp only [bitsR_len]
  have X1 := hid (Has.alloc (Has.new w (.cells #[.slice A n c, .int .i64 d1] 51)) (.cells #[.slice A2 n c2, .int .i64 d2] 51))
  have X2 := hid (Has.newAt (g := w.heap.size + 1) (w.alloc (.cells #[.slice A n c, .int .i64 d1] 51)) (.cells #[.slice A2 n c2, .int .i64 d2] 51) (by simp))
  have BX := hid (((Below.refl w.heap.size w).alloc (Nat.le_refl _) (.cells #[.slice A n c, .int .i64 d1] 51)).alloc (by simp) (.cells #[.slice A2 n c2, .int .i64 d2] 51))
  clear hF h3 h4 h1 h2
  go_enter Tryd.func58, Tryd.ntmps58
  go_upto_region 1 with fail
  obtain ⟨w1, hw1⟩ : ∃ w1, w1 = (w.alloc (.cells #[.slice A n c, .int .i64 d1] 51)).alloc (.cells #[.slice A2 n c2, .int .i64 d2] 51) := ⟨_, rfl⟩
  rw [← hw1] at BX X1 X2 ⊢
  have x0 := (Has.cell X1.out 0).trans rfl
  have x1 := (Has.cell X2.out 0).trans rfl
  clear hw1
  go_wp2_with fail
  go_loopw [11] (fun ji wr => ∃ j : Nat, j ≤ n ∧ ji = .int .i64 j ∧ w1 = wr ∧ Hid (∀ k, k < j → bt x k = bt y k)) (fun ji _ => n - (intOf ji).toNat)
  case atStart => exact ⟨0, Nat.zero_le _, rfl, rfl, fun k hk => by omega⟩
  case round =>
    obtain ⟨j, hj, rfl, hw, hold⟩ := hrel
    subst hw
    by_cases hlt : j < n
    · obtain ⟨b, o, rfl, hb, hc⟩ := H3.out (by omega)
      obtain ⟨b2, o2, rfl, hb2, hc2⟩ := H4.out (by omega)
      have lb := HF.out b hb
      have lb2 := HF.out b2 hb2
      have k1 := (BX.out.cell (p := ⟨b, o + j, none⟩) lb).trans (hc j hlt)
      have k2 := (BX.out.cell (p := ⟨b2, o2 + j, none⟩) lb2).trans (hc2 j hlt)
      have EX : (bitsR n x).getD j 0 = ((bt x j : Nat) : Int) := bitsR_at hlt
      have EY : (bitsR n y).getD j 0 = ((bt y j : Nat) : Int) := bitsR_at hlt
      rw [EX] at k1
      rw [EY] at k2
      have i1 : (j : Int) < (n : Int) := by omega
      have bl := bt_lt x j
      have bl2 := bt_lt y j
      obtain ⟨p, hp⟩ : ∃ p, p = bt x j := ⟨_, rfl⟩
      have HP := hid hp
      obtain ⟨r, hr⟩ : ∃ r, r = bt y j := ⟨_, rfl⟩
      have HR := hid hr
      rw [← hp] at k1 bl
      rw [← hr] at k2 bl2
      clear hc hc2 EX EY hp hr
      by_cases hpr : p = r
      · have N : Hid (∀ k, k < j + 1 → bt x k = bt y k) := fun k hk => by
          by_cases hkj : k = j
          · subst hkj; rw [← HP.out, ← HR.out]; exact hpr
          · exact hold.out k (by omega)
        subst hpr
        have z1 : ((p : Int) != (p : Int)) = false := by simp
        go_wp2_with fail
        go_roundw
        case rel => exact ⟨j + 1, by omega, by go_num, by first | rfl | trivial, N⟩
        case measure => simp [intOf]; omega
      · have N : Hid (fitB n x y = false) := by
          show _ = _
          unfold fitB
          rw [decide_eq_false_iff_not]
          intro h
          exact hpr (by rw [HP.out, HR.out]; exact h j hlt)
        have z1 : ((p : Int) != (r : Int)) = true := by rw [bne_iff_ne]; omega
        have z2 : ¬ (p : Int) = (r : Int) := by omega
        clear hpr
        go_wp2_with fail
        go_ret
        exact ⟨by rw [N.out]; rfl, BX.out⟩
    · have N : Hid (fitB n x y = true) := by
        show _ = _
        unfold fitB
        rw [decide_eq_true_eq]
        exact fun i hi => hold.out i (by omega)
      have i1 : ¬ (j : Int) < (n : Int) := by omega
      go_wp2_with fail
      go_ret
      exact ⟨by rw [N.out]; rfl, BX.out⟩
end Go.Proofs.YtkiljnggphlomaaDoor
