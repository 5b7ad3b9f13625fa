/- The law MealyTells: it returns true, and all that the call was given reads as before. Condition: errors.errorType holds its handle; the word takes at most 2^47 bytes. -/
import Derived.Test.YtfalbffpdgfepaaDoorAof
import Derived.Test.YtfalbffpdgfepaaDoorRfm
import Derived.Test.YtfalbffpdgfepaaDoorApt
import Derived.Test.YtfalbffpdgfepaaDoorRuk
import Derived.Test.YtfalbffpdgfepaaDoorKep
import Derived.BigQuiet
import Derived.Deep.DeepCutAuto
namespace Go.Proofs.YtfalbffpdgfepaaDoor
open Go.RowKit
def mtB (a : MachD) (i : Int) (ws : List Int) : Bool := decide (chk a = 0 ∧ runFault a i ws ≠ 0)
theorem mtB_bad {a : MachD} {i : Int} {ws : List Int} (h : chk a ≠ 0) : mtB a i ws = false := by unfold mtB; simp [h]
theorem mtB_range {a : MachD} {i : Int} {ws : List Int} (h : chk a = 0) (hi : i < 0 ∨ (a.out.length : Int) ≤ i) : mtB a i ws = true := by
  unfold mtB runFault
  rw [if_neg (by simp [h]), if_pos (by rcases hi with k | k <;> simp [k])]
  simp [h]
theorem mtB_word {a : MachD} {i : Int} {ws : List Int} {β : Bool} (h : chk a = 0) (h0 : 0 ≤ i) (h1 : i < a.out.length) (hb : β = true ↔ ¬ word a ws) : mtB a i ws = β := by
  have hw : word a ws = ∀ x ∈ ws, 0 ≤ x ∧ x < (ins a : Int) := rfl
  unfold mtB runFault
  rw [if_neg (by simp [h])]
  by_cases k : word a ws
  · rw [if_neg (by simp only [not_or, Decidable.not_not]; exact ⟨by omega, by omega, k⟩)]
    cases β
    · simp
    · exact absurd k (hb.1 rfl)
  · have k' : ¬ ∀ x ∈ ws, 0 ≤ x ∧ x < (ins a : Int) := k
    rw [if_pos (Or.inr (Or.inr k')), hb.2 k]; simp [h]
theorem mtB_true {a : MachD} {i : Int} {ws : List Int} (h : mtB a i ws = true) : runFault a i ws = 1 := by
  unfold mtB at h
  simp only [decide_eq_true_eq] at h
  have h2 := h.2
  unfold runFault at h2 ⊢
  rw [if_neg (by simp [h.1])] at h2 ⊢
  split
  · rfl
  · rename_i k; rw [if_neg k] at h2; exact absurd rfl h2
theorem mtB_false {a : MachD} {i : Int} {ws : List Int} (h : mtB a i ws = false) : runFault a i ws = chk a := by
  unfold mtB at h
  simp only [decide_eq_false_iff_not, not_and, Decidable.not_not] at h
  by_cases k : chk a = 0
  · rw [h k, k]
  · unfold runFault; rw [if_pos k]
def mtG (a b : MachD) : Int := if chk a = 0 then chk b else chk a
def mtC (a b : MachD) : Bool := decide (mtG a b = 0 ∧ ins a ≠ ins b)
def mtH (a b : MachD) : Int := if mtC a b = true then 3 else mtG a b
theorem mtG_zero {a b : MachD} (h : mtG a b = 0) : chk a = 0 ∧ chk b = 0 := by
  unfold mtG at h
  by_cases k : chk a = 0
  · rw [if_pos k] at h; exact ⟨k, h⟩
  · rw [if_neg k] at h; exact absurd h k
theorem mtH_zero {a b : MachD} (h : mtH a b = 0) : chk a = 0 ∧ chk b = 0 ∧ ins a = ins b := by
  unfold mtH at h
  by_cases k : mtC a b = true
  · rw [if_pos k] at h; cases h
  · rw [if_neg k] at h
    have h2 := mtG_zero h
    refine ⟨h2.1, h2.2, ?_⟩
    unfold mtC at k
    simp only [decide_eq_true_eq, not_and, Decidable.not_not] at k
    exact k h
theorem mtH_no {a b : MachD} (h : mtH a b ≠ 0) : apC a b = mtH a b ∧ apL a b = [] := by
  have e : ¬ (chk a = 0 ∧ chk b = 0 ∧ ins a = ins b) := by
    rintro ⟨h1, h2, h3⟩
    apply h
    unfold mtH mtC mtG
    rw [if_neg (by simp [h3]), if_pos h1, h2]
  refine ⟨?_, by unfold apL; rw [if_neg e]⟩
  unfold apC mtH mtC mtG
  by_cases h1 : chk a = 0
  · by_cases h2 : chk b = 0
    · have h3 : ins a ≠ ins b := fun h3 => e ⟨h1, h2, h3⟩
      simp [h1, h2, h3]
    · simp [h1, h2]
  · simp [h1]
theorem mtH_yes {a b : MachD} (h : mtH a b = 0) : apC a b = apartN a b 0 0 ∧ apL a b = apartL a b 0 0 := by
  obtain ⟨h1, h2, h3⟩ := mtH_zero h
  exact ⟨by unfold apC; simp [h1, h2, h3], by unfold apL; rw [if_pos ⟨h1, h2, h3⟩]⟩
theorem mach_row0 {F : Nat → Prop} {w : World} {A : Option Addr} {n c : Nat} {v2 : Value} {m : MachD} (hF : ∀ b, F b → b < w.heap.size) (h : MachIn F w (.agg #[.slice A n c, v2]) m) (g : Good m) :
    ∃ b o e p d, A = some ⟨b, o, none⟩ ∧ ∀ wv, Below w.heap.size w wv → wv.cell? ⟨b, o, none⟩ = some (.slice (some ⟨e, p, none⟩) (ins m) d) := by
  obtain ⟨o, nx, e0, ⟨A1, c1, e1, _, k1⟩, _⟩ := h
  have e2 : o = .slice A n c := by
    injection e0 with e0
    have := congrArg (fun z : Array Value => z.getD 0 (.bool false)) e0
    simpa using this.symm
  rw [e2] at e1
  injection e1 with e3 e4 e5
  subst e3
  obtain ⟨b, off, rfl, f1, R1⟩ := k1 g.pos
  obtain ⟨e, p, d, _, U⟩ := row_all (s := 0) (x := 0) (L := ins m) hF (hF b f1) R1 g.pos rfl g.ins1
  refine ⟨b, off, e, p, d, rfl, fun wv hB => ?_⟩
  have := (U wv hB).1
  rwa [Nat.add_zero] at this
set_option maxRecDepth 100000 in
set_option maxHeartbeats 4000000 in
theorem mealyTells_walk (a : MachD) (u : Value) (b : MachD) (v : Value) (i : Int) (ws : List Int) (wv : Value) (W : World) (hL : Laid W) (ha : MachIn (fun b => b < W.heap.size) W u a) (hb : MachIn (fun b => b < W.heap.size) W v b) (hw : IntsIn .i64 (fun b => b < W.heap.size) W wv ws) (hz : ws.length * 8 ≤ 140737488351232) :
    Calls Tryd.prog 3 #[u, v, .int .i64 i, wv] W (LawPost W) := by
  have HL := hid hL
  have HZ := hid hz
  have HA := hid ha
  have HB := hid hb
  have K0 := hid ((((Kept.start W).addMach ha fun b h => h).addMach hb fun b h => h).addInts hw fun b h => h)
  obtain ⟨o1, n1, rfl, ⟨A1, c1, rfl, la, _⟩, ⟨A2, c2, rfl, _, _⟩⟩ := ha
  obtain ⟨o2, n2, rfl, ⟨A3, c3, rfl, lb, _⟩, ⟨A4, c4, rfl, _, _⟩⟩ := hb
  obtain ⟨A5, c5, rfl, _, _, _⟩ := hw
  unfold maxLen at la lb
  clear hL hz
  go_enter Tryd.func3, Tryd.ntmps3
  go_wp2_with fail
  have K1 := hid ((K0.out.allocs #[.slice A1 a.out.length c1, .slice A2 a.next.length c2] 24 (g := W.heap.size) (by simp)).allocs #[.slice A3 b.out.length c3, .slice A4 b.next.length c4] 24 (g := W.heap.size + 1) (by simp))
  clear K0
  refine (lit_any _).mono ?_
  rintro e w2 ⟨rfl, hb⟩
  have K2 := hid (K1.out.step hb)
  clear hb K1
  have x0 := K2.out.cellN 1 rfl 0
  have x1 := K2.out.cellN 1 rfl 1
  simp at x0 x1
  go_wp2_with fail
  refine (rfault_any a (fun b => b < w2.heap.size) _ _ (fun b h => h) (K2.out.macN 1 rfl)).mono ?_
  rintro e w3 ⟨rfl, hb⟩
  have K3 := hid (K2.out.step hb)
  clear hb x0 x1 K2
  have x0 := K3.out.cellN 1 rfl 0
  have x1 := K3.out.cellN 1 rfl 1
  simp at x0 x1
  go_wp2_with fail
  refine (check_any a (fun b => b < w3.heap.size) _ _ (fun b h => h) (K3.out.macN 1 rfl)).mono ?_
  rintro e w4 ⟨rfl, hb⟩
  have K4 := hid (K3.out.step hb)
  clear hb x0 x1 K3
  go_wp2_with fail
  refine (serror_any _ _ _ (K4.out.laid HL.out)).mono ?_
  rintro e w5 ⟨rfl, hb⟩
  have K5 := hid (K4.out.step hb)
  clear hb K4
  go_upto_region 5 with fail
  go_cut [52] (fun c wx => c = .bool (mtB a i ws) ∧ Hid (Kept W [(W.heap.size + 1, #[.slice A3 b.out.length c3, .slice A4 b.next.length c4], 24), (W.heap.size, #[.slice A1 a.out.length c1, .slice A2 a.next.length c2], 24)] [((.slice A5 ws.length c5), ws)] [((.agg #[.slice A3 b.out.length c3, .slice A4 b.next.length c4]), b), ((.agg #[.slice A1 a.out.length c1, .slice A2 a.next.length c2]), a)] wx))
  case first =>
    by_cases hA : chk a = 0
    · have e1 : (chk a == 0) = true := by simp [hA]
      have HAZ := hid hA
      by_cases hi0 : i < 0
      · have B := hid (mtB_range (ws := ws) hA (Or.inl hi0))
        clear hA
        go_wp2_with fail
        go_meet
        exact ⟨by rw [B.out], K5⟩
      · have d1 : decide (i < 0) = false := by simp [hi0]
        have x0 := K5.out.cellN 1 rfl 0
        have x1 := K5.out.cellN 1 rfl 1
        simp at x0 x1
        by_cases hi1 : (a.out.length : Int) ≤ i
        · have B := hid (mtB_range (ws := ws) hA (Or.inr hi1))
          clear hA
          go_wp2_with fail
          go_meet
          exact ⟨by rw [B.out], K5⟩
        · have d2 : decide ((a.out.length : Int) ≤ i) = false := by simp [hi1]
          have HI := hid (And.intro (show 0 ≤ i by omega) (show i < a.out.length by omega))
          clear hA
          go_wp2_with fail
          refine (wfault_any a ws (fun b => b < w5.heap.size) _ _ _ (fun b h => h) (K5.out.macN 1 rfl) (K5.out.intN 0 rfl) (chk_good HAZ.out)).mono ?_
          rintro e w6 ⟨β, rfl, hβ, hb⟩
          have B := hid (mtB_word HAZ.out HI.out.1 HI.out.2 hβ)
          have K6 := hid (K5.out.step hb)
          clear hb hβ
          go_wp2_with fail
          go_meet
          exact ⟨by rw [B.out], K6⟩
    · have e1 : (chk a == 0) = false := by simp [hA]
      have B := hid (mtB_bad (i := i) (ws := ws) hA)
      clear hA
      go_wp2_with fail
      go_meet
      exact ⟨by rw [B.out], K5⟩
  case rest =>
  obtain ⟨rfl, K6⟩ := hcut
  clear K5
  obtain ⟨w6, rfl⟩ : ∃ w6 : World, w6 = wc := ⟨_, rfl⟩
  generalize hβ : mtB a i ws = β at *
  have HBT := hid hβ
  clear hβ
  go_upto_if 52 with fail
  go_cut [12] (fun c wx => c = .int .i64 (runFault a i ws) ∧ wx = w6)
  case first =>
    cases β with
    | true =>
      have B := hid (mtB_true HBT.out)
      go_wp2_with fail
      go_meet
      exact ⟨by rw [B.out], rfl⟩
    | false =>
      have B := hid (mtB_false HBT.out)
      go_wp2_with fail
      go_meet
      exact ⟨by rw [B.out], rfl⟩
  case rest =>
  obtain ⟨rfl, hwc⟩ := hcut
  subst wc
  clear HBT
  go_upto_if 54 with fail
  go_cut [13, 14] (fun c c' wx => c' = .int .i64 (runG a i ws : Nat) ∧ Hid (Kept W [(W.heap.size + 1, #[.slice A3 b.out.length c3, .slice A4 b.next.length c4], 24), (W.heap.size, #[.slice A1 a.out.length c1, .slice A2 a.next.length c2], 24)] [(c, runL a i ws), ((.slice A5 ws.length c5), ws)] [((.agg #[.slice A3 b.out.length c3, .slice A4 b.next.length c4]), b), ((.agg #[.slice A1 a.out.length c1, .slice A2 a.next.length c2]), a)] wx))
  case first =>
    by_cases hF : runFault a i ws = 0
    · have e1 : (runFault a i ws == 0) = true := by simp [hF]
      have HRZ := hid (runFault_zero hF)
      have G1 : Hid (runG a i ws = goes a i.toNat ws) := by show _ = _; unfold runG; rw [if_pos hF]
      have L1 : Hid (runL a i ws = tells a i.toNat ws) := by show _ = _; unfold runL; rw [if_pos hF]
      have hi0 := HRZ.out.2.1
      obtain ⟨I, rfl⟩ : ∃ I : Nat, i = (I : Int) := ⟨i.toNat, by omega⟩
      have x0 := K6.out.cellN 1 rfl 0
      have x1 := K6.out.cellN 1 rfl 1
      simp at x0 x1
      clear hF
      go_wp2_with fail
      refine (rtells_ok a I ws (fun b => b < w6.heap.size) _ _ _ (fun b h => h) (K6.out.macN 1 rfl) (K6.out.intN 0 rfl) HRZ.out.1 (by have := HRZ.out.2.2.1; omega) HRZ.out.2.2.2 (by have := HZ.out; omega)).mono ?_
      rintro e w7 ⟨r, rfl, hr, hb⟩
      have K7 := hid ((K6.out.step hb).addInts hr fun b h => h.2)
      clear hb hr x0 x1
      have x0 := K7.out.cellN 1 rfl 0
      have x1 := K7.out.cellN 1 rfl 1
      simp at x0 x1
      go_wp2_with fail
      refine (rgoes_ok a I ws (fun b => b < w7.heap.size) _ _ _ (fun b h => h) (K7.out.macN 1 rfl) (K7.out.intN 1 rfl) HRZ.out.1 (by have := HRZ.out.2.2.1; omega) HRZ.out.2.2.2).mono ?_
      rintro e w8 ⟨rfl, hb⟩
      have K8 := hid (K7.out.step hb)
      clear hb
      go_wp2_with fail
      go_meet
      exact ⟨by rw [G1.out]; rfl, by have := K8.out; rw [L1.out]; exact this⟩
    · have e1 : (runFault a i ws == 0) = false := by simp [hF]
      have G1 : Hid (runG a i ws = 0) := by show _ = _; unfold runG; rw [if_neg hF]
      have L1 : Hid (runL a i ws = []) := by show _ = _; unfold runL; rw [if_neg hF]
      clear hF
      go_wp2_with fail
      go_meet
      exact ⟨by rw [G1.out]; rfl, by show Kept _ _ _ _ _; rw [L1.out]; exact K6.out.addInts (F := fun _ => False) IntsIn.nil_ fun b h => h.elim⟩
  case rest =>
  obtain ⟨rfl, K7⟩ := hcut
  clear K6
  obtain ⟨w7, rfl⟩ : ∃ w7 : World, w7 = wc := ⟨_, rfl⟩
  go_upto_if 65 with fail
  go_cut [15] (fun c wx => c = .int .i64 (mtG a b) ∧ Hid (Kept W [(W.heap.size + 1, #[.slice A3 b.out.length c3, .slice A4 b.next.length c4], 24), (W.heap.size, #[.slice A1 a.out.length c1, .slice A2 a.next.length c2], 24)] [(u13, runL a i ws), ((.slice A5 ws.length c5), ws)] [((.agg #[.slice A3 b.out.length c3, .slice A4 b.next.length c4]), b), ((.agg #[.slice A1 a.out.length c1, .slice A2 a.next.length c2]), a)] wx))
  case first =>
    by_cases hA : chk a = 0
    · have e1 : (chk a == 0) = true := by simp [hA]
      have B : Hid (mtG a b = chk b) := by show _ = _; unfold mtG; rw [if_pos hA]
      have y0 := K7.out.cellN 0 rfl 0
      have y1 := K7.out.cellN 0 rfl 1
      simp at y0 y1
      clear hA
      go_wp2_with fail
      refine (rfault_any b (fun b => b < w7.heap.size) _ _ (fun b h => h) (K7.out.macN 0 rfl)).mono ?_
      rintro e w8 ⟨rfl, hb⟩
      have K8 := hid (K7.out.step hb)
      clear hb
      go_wp2_with fail
      go_meet
      exact ⟨by rw [B.out], K8⟩
    · have e1 : (chk a == 0) = false := by simp [hA]
      have B : Hid (mtG a b = chk a) := by show _ = _; unfold mtG; rw [if_neg hA]
      clear hA
      go_wp2_with fail
      go_meet
      exact ⟨by rw [B.out], K7⟩
  case rest =>
  obtain ⟨rfl, K8⟩ := hcut
  clear K7
  obtain ⟨w8, rfl⟩ : ∃ w8 : World, w8 = wc := ⟨_, rfl⟩
  go_upto_region 15 with fail
  go_cut [82] (fun c wx => c = .bool (mtC a b) ∧ Hid (Kept W [(W.heap.size + 1, #[.slice A3 b.out.length c3, .slice A4 b.next.length c4], 24), (W.heap.size, #[.slice A1 a.out.length c1, .slice A2 a.next.length c2], 24)] [(u13, runL a i ws), ((.slice A5 ws.length c5), ws)] [((.agg #[.slice A3 b.out.length c3, .slice A4 b.next.length c4]), b), ((.agg #[.slice A1 a.out.length c1, .slice A2 a.next.length c2]), a)] wx))
  case first =>
    by_cases hG : mtG a b = 0
    · have e1 : (mtG a b == 0) = true := by simp [hG]
      have GZ := hid (mtG_zero hG)
      obtain ⟨b1, o1, e2, p2, d2, rfl, U1⟩ := mach_row0 (fun b h => h) HA.out (chk_good GZ.out.1)
      obtain ⟨b3, o3, e4, p4, d4, rfl, U3⟩ := mach_row0 (fun b h => h) HB.out (chk_good GZ.out.2)
      have q1 := U1 w8 K8.out.bel
      have q3 := U3 w8 K8.out.bel
      have pa := (chk_good GZ.out.1).pos
      have pb := (chk_good GZ.out.2).pos
      have x0 := K8.out.cellN 1 rfl 0
      have x1 := K8.out.cellN 1 rfl 1
      simp at x0 x1
      have y0 := K8.out.cellN 0 rfl 0
      have y1 := K8.out.cellN 0 rfl 1
      simp at y0 y1
      clear U1 U3
      by_cases hI : ins a = ins b
      · have B : Hid (mtC a b = false) := by show _ = _; unfold mtC; simp [hI]
        rw [← hI] at q3
        have z1 : ((ins a : Int) != (ins a : Int)) = false := by simp
        clear hI hG
        go_quiet (fail)
        go_wp2_with fail
        go_meet
        exact ⟨by rw [B.out], K8.out.drewN _⟩
      · have B : Hid (mtC a b = true) := by show _ = _; unfold mtC; simp [hI, hG]
        have z1 : ((ins a : Int) != (ins b : Int)) = true := by simp; omega
        have z2 : (ins a != ins b) = true := by simp; omega
        clear hI hG
        go_quiet (fail)
        go_wp2_with fail
        go_meet
        exact ⟨by rw [B.out], K8.out.drewN _⟩
    · have e1 : (mtG a b == 0) = false := by simp [hG]
      have B : Hid (mtC a b = false) := by show _ = _; unfold mtC; simp [hG]
      clear hG
      go_quiet (fail)
      go_wp2_with fail
      go_meet
      exact ⟨by rw [B.out], K8.out.drewN _⟩
  case rest =>
  obtain ⟨rfl, K9⟩ := hcut
  clear K8
  obtain ⟨w9, rfl⟩ : ∃ w9 : World, w9 = wc := ⟨_, rfl⟩
  obtain ⟨β, hβ⟩ : ∃ β, β = mtC a b := ⟨_, rfl⟩
  rw [← hβ]
  have HBT := hid hβ
  clear hβ
  go_upto_if 82 with fail
  go_cut [15] (fun c wx => c = .int .i64 (mtH a b) ∧ wx = w9)
  case first =>
    cases β with
    | true =>
      have B : Hid (mtH a b = 3) := by show _ = _; unfold mtH; rw [if_pos HBT.out.symm]
      go_wp2_with fail
      go_meet
      exact ⟨by rw [B.out], rfl⟩
    | false =>
      have B : Hid (mtH a b = mtG a b) := by show _ = _; unfold mtH; rw [if_neg (by rw [← HBT.out]; simp)]
      go_wp2_with fail
      go_meet
      exact ⟨by rw [B.out], rfl⟩
  case rest =>
  obtain ⟨rfl, hwc⟩ := hcut
  subst wc
  clear HBT
  go_upto_if 84 with fail
  go_cut [15, 16] (fun c c' wx => c = .int .i64 (apC a b) ∧ Hid (Kept W [(W.heap.size + 1, #[.slice A3 b.out.length c3, .slice A4 b.next.length c4], 24), (W.heap.size, #[.slice A1 a.out.length c1, .slice A2 a.next.length c2], 24)] [(c', apL a b), (u13, runL a i ws), ((.slice A5 ws.length c5), ws)] [((.agg #[.slice A3 b.out.length c3, .slice A4 b.next.length c4]), b), ((.agg #[.slice A1 a.out.length c1, .slice A2 a.next.length c2]), a)] wx))
  case first =>
    by_cases hH : mtH a b = 0
    · have e1 : (mtH a b == 0) = true := by simp [hH]
      have HZ2 := hid (mtH_zero hH)
      have HH := hid hH
      have AP := hid (mtH_yes hH)
      have x0 := K9.out.cellN 1 rfl 0
      have x1 := K9.out.cellN 1 rfl 1
      simp at x0 x1
      have y0 := K9.out.cellN 0 rfl 0
      have y1 := K9.out.cellN 0 rfl 1
      simp at y0 y1
      clear hH
      go_wp2_with fail
      refine (apof_ok a b 0 0 (fun b => b < w9.heap.size) _ _ _ (fun b h => h) (K9.out.macN 1 rfl) (K9.out.macN 0 rfl) (chk_good HZ2.out.1) (chk_good HZ2.out.2.1) HZ2.out.2.2 (chk_good HZ2.out.1).pos (chk_good HZ2.out.2.1).pos).mono ?_
      rintro e w10 ⟨hb, hp⟩
      rcases hp with ⟨r, f, rfl, hf, hr⟩ | ⟨rfl, hx⟩
      · have FF := hid (apart_yes hf)
        have K10 := hid ((K9.out.step hb).addInts hr fun b h => h.2)
        clear hb hr hf
        go_wp2_with fail
        go_meet
        exact ⟨by rw [AP.out.1, FF.out.2, HH.out], by have := K10.out; rw [AP.out.2, FF.out.1]; exact this⟩
      · have FF := hid (apart_no hx)
        have K10 := hid ((K9.out.step hb).addInts (F := fun _ => False) (v := .slice none 0 0) (zs := []) IntsIn.nil_ fun b h => h.elim)
        clear hb hx
        go_wp2_with fail
        go_meet
        exact ⟨by rw [AP.out.1, FF.out.2], by have := K10.out; rw [AP.out.2, FF.out.1]; exact this⟩
    · have e1 : (mtH a b == 0) = false := by simp [hH]
      have AP := hid (mtH_no hH)
      clear hH
      go_wp2_with fail
      go_meet
      exact ⟨by rw [AP.out.1], by show Kept _ _ _ _ _; rw [AP.out.2]; exact K9.out.addInts (F := fun _ => False) IntsIn.nil_ fun b h => h.elim⟩
  case rest =>
  obtain ⟨rfl, K10⟩ := hcut
  clear K9
  obtain ⟨w10, rfl⟩ : ∃ w10 : World, w10 = wc := ⟨_, rfl⟩
  have x0 := K10.out.cellN 1 rfl 0
  have x1 := K10.out.cellN 1 rfl 1
  simp at x0 x1
  go_wp2_with fail
  refine (run_ruk a i ws (fun b => b < w10.heap.size) _ _ _ (fun b h => h) (K10.out.macN 1 rfl) (K10.out.intN 2 rfl) (by have := HZ.out; omega)).mono ?_
  rintro e w11 ⟨r, rfl, hr, hb⟩
  have K11 := hid ((K10.out.step hb).addInts hr fun b h => h.2)
  clear hb hr x0 x1 K10
  go_wp2_with fail
  refine (serror_any _ _ _ (K11.out.laid HL.out)).mono ?_
  rintro e w12 ⟨rfl, hb⟩
  have K12 := hid (K11.out.step hb)
  clear hb K11
  go_wp2_with fail
  refine (ints_any _ _ _ _ _ _ (K12.out.intN 0 rfl) (K12.out.intN 2 rfl)).mono ?_
  rintro e w13 ⟨rfl, q, rfl⟩
  have K13 := hid (K12.out.drewN q)
  clear K12
  have x0 := K13.out.cellN 1 rfl 0
  have x1 := K13.out.cellN 1 rfl 1
  simp at x0 x1
  have y0 := K13.out.cellN 0 rfl 0
  have y1 := K13.out.cellN 0 rfl 1
  simp at y0 y1
  go_wp2_with fail
  refine (apart_any a b _ _ _ _ (fun b h => h) (K13.out.macN 1 rfl) (K13.out.macN 0 rfl)).mono ?_
  rintro e w14 ⟨r2, rfl, hr, hb⟩
  have K14 := hid ((K13.out.step hb).addInts hr fun b h => h.2)
  clear hb hr x0 x1 y0 y1 K13
  go_wp2_with fail
  refine (serror_any _ _ _ (K14.out.laid HL.out)).mono ?_
  rintro e w15 ⟨rfl, hb⟩
  have K15 := hid (K14.out.step hb)
  clear hb K14
  go_wp2_with fail
  refine (ints_any _ _ _ _ _ _ (K15.out.intN 0 rfl) (K15.out.intN 2 rfl)).mono ?_
  rintro e w16 ⟨rfl, q2, rfl⟩
  have K16 := hid (K15.out.drewN q2)
  clear K15
  go_wp2_with fail
  go_ret
  exact ⟨rfl, K16.out.bel⟩
end Go.Proofs.YtfalbffpdgfepaaDoor
