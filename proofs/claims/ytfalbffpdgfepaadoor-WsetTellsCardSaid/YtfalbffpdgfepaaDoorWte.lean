/- The law WsetTells: it returns true, and all that the call was given reads as before. Condition: errors.errorType holds its handle; each word takes at most 2^47 bytes. -/
import Derived.Test.YtfalbffpdgfepaaDoorMte
import Derived.Test.YtfalbffpdgfepaaDoorRse
import Derived.Test.YtfalbffpdgfepaaDoorSea
import Derived.Test.YtfalbffpdgfepaaDoorKer
import Derived.Test.YtfalbffpdgfepaaDoorWap
import Derived.Test.YtfalbffpdgfepaaDoorSam
import Derived.BigQuiet
import Derived.Deep.RegionHeld3
import Derived.Deep.RegionLaw
import Derived.Deep.DeepCutAuto
namespace Go.Proofs.YtfalbffpdgfepaaDoor
open Go.RowKit Go.Deep
def wtOut (a : MachD) (i k : Int) : Prop := i < 0 ∨ (a.out.length : Int) ≤ i ∨ k < 0 ∨ (a.out.length : Int) ≤ k
instance (a : MachD) (i k : Int) : Decidable (wtOut a i k) := by unfold wtOut; infer_instance
def wtB (a : MachD) (i k : Int) : Bool := decide (chk a = 0 ∧ wtOut a i k)
def wtF (a : MachD) (i k : Int) : Int := if wtB a i k = true then 1 else chk a
theorem wtB_bad {a : MachD} {i k : Int} (h : chk a ≠ 0) : wtB a i k = false := by unfold wtB; simp [h]
theorem wtB_out {a : MachD} {i k : Int} (h : chk a = 0) (ho : wtOut a i k) : wtB a i k = true := by unfold wtB; simp [h, ho]
theorem wtB_in {a : MachD} {i k : Int} (ho : ¬ wtOut a i k) : wtB a i k = false := by unfold wtB; simp [ho]
theorem wtF_zero {a : MachD} {i k : Int} (h : wtF a i k = 0) : chk a = 0 ∧ ¬ wtOut a i k := by
  unfold wtF at h
  by_cases hb : wtB a i k = true
  · rw [if_pos hb] at h; cases h
  · rw [if_neg hb] at h
    exact ⟨h, fun ho => hb (wtB_out h ho)⟩
theorem wtF_yes {a : MachD} {i k : Int} (h : wtF a i k = 0) : wapC a i k = apartN a a i.toNat k.toNat ∧ wapL a i k = apartL a a i.toNat k.toNat := by
  obtain ⟨h1, h2⟩ := wtF_zero h
  have h3 : ¬ (i < 0 ∨ (a.out.length : Int) ≤ i ∨ k < 0 ∨ (a.out.length : Int) ≤ k) := h2
  exact ⟨by unfold wapC; rw [if_neg (by simp [h1]), if_neg h3], by unfold wapL; rw [if_pos ⟨h1, h3⟩]⟩
theorem wtF_no {a : MachD} {i k : Int} (h : wtF a i k ≠ 0) : wapC a i k = wtF a i k ∧ wapL a i k = [] := by
  unfold wtF at *
  by_cases hb : wtB a i k = true
  · rw [if_pos hb] at h ⊢
    unfold wtB at hb
    simp only [decide_eq_true_eq] at hb
    have h3 : (i < 0 ∨ (a.out.length : Int) ≤ i ∨ k < 0 ∨ (a.out.length : Int) ≤ k) := hb.2
    exact ⟨by unfold wapC; rw [if_neg (by simp [hb.1]), if_pos h3], by unfold wapL; rw [if_neg fun h => h.2 h3]⟩
  · rw [if_neg hb] at h ⊢
    exact ⟨by unfold wapC; rw [if_pos h], by unfold wapL; rw [if_neg fun k => h k.1]⟩
theorem passFault_nil (a b : MachD) : passFault a b [] = mtH a b := by
  unfold passFault mtH mtC mtG
  by_cases h1 : chk a = 0
  · by_cases h2 : chk b = 0
    · by_cases h3 : ins a = ins b <;> simp [h1, h2, h3]
    · simp [h1, h2]
  · simp [h1]
theorem passFault_more {a b : MachD} {v w : List (List Int)} (h : ∀ x ∈ v, x ∈ w) (hv : passFault a b v ≠ 0) : passFault a b w = passFault a b v := by
  unfold passFault at *
  by_cases h1 : chk a = 0
  · by_cases h2 : chk b = 0
    · by_cases h3 : ins a = ins b
      · simp only [h1, h2, h3, ne_eq, not_true_eq_false, if_false] at hv ⊢
        by_cases h4 : ∀ w ∈ v, ∀ x ∈ w, 0 ≤ x ∧ x < (ins b : Int)
        · rw [if_pos h4] at hv; exact absurd rfl hv
        · rw [if_neg h4, if_neg fun k => h4 fun x hx => k x (h x hx)]
      · simp [h1, h2, h3]
    · simp [h1, h2]
  · simp [h1]
theorem passFault_good {a b : MachD} {v : List (List Int)} (h : passFault a b v = 0) : chk a = 0 ∧ chk b = 0 ∧ ins a = ins b := by
  unfold passFault at h
  by_cases h1 : chk a = 0
  · by_cases h2 : chk b = 0
    · by_cases h3 : ins a = ins b
      · exact ⟨h1, h2, h3⟩
      · simp [h1, h2, h3] at h
    · simp [h1, h2] at h
  · simp [h1] at h
structure WtInv (a b : MachD) (ws : List (List Int)) (j : Nat) (γ : Int) (β : Bool) : Prop where
  g : γ = passFault a b (ws.take j)
  p : γ = 0 → β = passVal a b (ws.take j)
theorem WtInv.start (a b : MachD) (ws : List (List Int)) : WtInv a b ws 0 (mtH a b) true := ⟨by rw [List.take_zero, passFault_nil], fun _ => by simp [passVal]⟩
theorem WtInv.bad {a b : MachD} {ws : List (List Int)} {j : Nat} {β : Bool} (h : WtInv a b ws j 0 β) (hj : j < ws.length) (hw : ¬ word a (rowAt ws j)) : WtInv a b ws (j + 1) 1 β := by
  obtain ⟨h1, h2, h3⟩ := passFault_good h.g.symm
  exact ⟨(pass_one (chk_good h1) (chk_good h2) h3 (w := rowAt ws j) (by rw [rows_take ws j hj]; simp) hw).symm, fun h => by cases h⟩
theorem WtInv.good {a b : MachD} {ws : List (List Int)} {j : Nat} {β : Bool} (h : WtInv a b ws j 0 β) (hj : j < ws.length) (hw : word a (rowAt ws j)) : WtInv a b ws (j + 1) 0 (β && decide (tells a 0 (rowAt ws j) = tells b 0 (rowAt ws j))) := by
  obtain ⟨h1, h2, h3⟩ := passFault_good h.g.symm
  have h4 := (pass_zero (chk_good h1) (chk_good h2) h3).1 h.g.symm
  refine ⟨((pass_zero (chk_good h1) (chk_good h2) h3).2 fun w hm => ?_).symm, fun _ => ?_⟩
  · rw [rows_take ws j hj, List.mem_append, List.mem_singleton] at hm
    rcases hm with hm | rfl
    · exact h4 w hm
    · exact hw
  · rw [h.p rfl]; unfold passVal; rw [rows_take ws j hj]; simp
theorem WtInv.stop {a b : MachD} {ws : List (List Int)} {j : Nat} {γ : Int} {β : Bool} (h : WtInv a b ws j γ β) (hj : j ≤ ws.length) (hs : ¬ (γ = 0 ∧ j < ws.length)) : γ = passFault a b ws ∧ passB a b ws = (β && decide (γ = 0)) := by
  by_cases hγ : γ = 0
  · have : j = ws.length := by
      by_cases k : j < ws.length
      · exact absurd ⟨hγ, k⟩ hs
      · omega
    subst this
    have h1 := h.g
    have h2 := h.p hγ
    rw [List.take_length] at h1 h2
    exact ⟨h1, by unfold passB; rw [← h1, ← h2, Bool.and_comm]⟩
  · have h1 : passFault a b ws = γ := by rw [h.g]; exact passFault_more (fun x hx => List.mem_of_mem_take hx) (by rw [← h.g]; exact hγ)
    exact ⟨h1.symm, by unfold passB; rw [h1]; simp [hγ]⟩
set_option maxRecDepth 100000 in
set_option maxHeartbeats 4000000 in
theorem wsetTells_walk (a : MachD) (u : Value) (b : MachD) (v : Value) (i k : Int) (ws : List (List Int)) (wv : Value) (W : World) (hL : Laid W) (ha : MachIn (fun b => b < W.heap.size) W u a) (hb : MachIn (fun b => b < W.heap.size) W v b) (hw : RowsIn (fun b => b < W.heap.size) W wv ws) (hz : ∀ x ∈ ws, x.length * 8 ≤ 140737488351232) :
    Calls Tryd.prog 10 #[u, v, .int .i64 i, .int .i64 k, wv] W (LawPost W) := by
  have HL := hid hL
  have HZ := hid hz
  have HA := hid ha
  have HB := hid hb
  have K0 := hid ((((KeptR.start W).addMach ha fun b h => h).addMach hb fun b h => h).addRows hw fun b h => h)
  obtain ⟨o1, n1, rfl, ⟨A1, c1, rfl, la, _⟩, ⟨A2, c2, rfl, _, _⟩⟩ := ha
  obtain ⟨o2, n2, rfl, ⟨A3, c3, rfl, lb, _⟩, ⟨A4, c4, rfl, _, _⟩⟩ := hb
  have HW := hid hw
  obtain ⟨A5, c5, rfl, lw, hwr⟩ := hw
  have HWR := hid hwr
  unfold maxLen at la lb lw
  clear hL hz hwr
  go_enter Tryd.func10, Tryd.ntmps10
  go_wp2_with fail
  have K1 := hid ((K0.out.allocs #[.slice A1 a.out.length c1, .slice A2 a.next.length c2] 24 (g := W.heap.size) (by simp)).allocs #[.slice A3 b.out.length c3, .slice A4 b.next.length c4] 24 (g := W.heap.size + 1) (by simp))
  clear K0
  refine (lit_any _).mono ?_
  rintro e w2 ⟨rfl, hb⟩
  have K2 := hid (K1.out.step hb)
  clear hb K1
  have x0 := K2.out.cellN 1 rfl 0
  have x1 := K2.out.cellN 1 rfl 1
  simp at x0 x1
  go_wp2_with fail
  refine (rfault_any a (fun b => b < w2.heap.size) _ _ (fun b h => h) (K2.out.macN 1 rfl)).mono ?_
  rintro e w3 ⟨rfl, hb⟩
  have K3 := hid (K2.out.step hb)
  clear hb x0 x1 K2
  go_upto_if 35 with fail
  go_cut [15] (fun c wx => Hid (KeptR W [(W.heap.size + 1, #[.slice A3 b.out.length c3, .slice A4 b.next.length c4], 24), (W.heap.size, #[.slice A1 a.out.length c1, .slice A2 a.next.length c2], 24)] [] [((.agg #[.slice A3 b.out.length c3, .slice A4 b.next.length c4]), b), ((.agg #[.slice A1 a.out.length c1, .slice A2 a.next.length c2]), a)] [(c, setR a), ((.slice A5 ws.length c5), ws)] wx))
  case first => as_aux_lemma =>
    by_cases hA : chk a = 0
    · have e1 : (chk a == 0) = true := by simp [hA]
      have HG := hid (chk_good hA)
      have S : Hid (setR a = setL a) := by show _ = _; unfold setR; rw [if_pos hA]
      clear hA
      have x0 := K3.out.cellN 1 rfl 0
      have x1 := K3.out.cellN 1 rfl 1
      simp at x0 x1
      go_wp2_with fail
      refine (rset_ok a (fun b => b < w3.heap.size) _ _ (fun b h => h) (K3.out.macN 1 rfl) HG.out).mono ?_
      rintro e w4 ⟨r, rfl, hr, hb⟩
      have K4 := hid ((K3.out.step hb).addRows hr fun b h => h.2)
      clear hb hr x0 x1
      go_wp2_with fail
      go_meet
      show KeptR _ _ _ _ _ _
      rw [S.out]; exact K4.out
    · have e1 : (chk a == 0) = false := by simp [hA]
      have S : Hid (setR a = []) := by show _ = _; unfold setR; rw [if_neg hA]
      clear hA
      go_wp2_with fail
      go_meet
      show KeptR _ _ _ _ _ _
      rw [S.out]; exact K3.out.addRows (F := fun _ => False) RowsIn.nil_ fun b h => h.elim
  case rest =>
  have K4 := hid hcut.out
  clear K3 hcut
  obtain ⟨w4, rfl⟩ : ∃ w4 : World, w4 = wc := ⟨_, rfl⟩
  go_upto_region 8 with fail
  go_cut [61] (fun c wx => c = .bool (wtB a i k) ∧ wx = w4)
  case first => as_aux_lemma =>
    have x0 := K4.out.cellN 1 rfl 0
    have x1 := K4.out.cellN 1 rfl 1
    simp at x0 x1
    by_cases hA : chk a = 0
    · have e1 : (chk a == 0) = true := by simp [hA]
      by_cases hi0 : i < 0
      · have B := hid (wtB_out (i := i) (k := k) hA (.inl hi0))
        clear hA
        go_wp2_with fail
        go_meet
        exact ⟨by rw [B.out], rfl⟩
      · have d1 : decide (i < 0) = false := by simp [hi0]
        by_cases hi1 : (a.out.length : Int) ≤ i
        · have B := hid (wtB_out (i := i) (k := k) hA (.inr (.inl hi1)))
          clear hA
          go_wp2_with fail
          go_meet
          exact ⟨by rw [B.out], rfl⟩
        · have d2 : decide ((a.out.length : Int) ≤ i) = false := by simp [hi1]
          by_cases hk0 : k < 0
          · have B := hid (wtB_out (i := i) (k := k) hA (.inr (.inr (.inl hk0))))
            clear hA
            go_wp2_with fail
            go_meet
            exact ⟨by rw [B.out], rfl⟩
          · have d3 : decide (k < 0) = false := by simp [hk0]
            by_cases hk1 : (a.out.length : Int) ≤ k
            · have B := hid (wtB_out (i := i) (k := k) hA (.inr (.inr (.inr hk1))))
              clear hA
              go_wp2_with fail
              go_meet
              exact ⟨by rw [B.out], rfl⟩
            · have d4 : decide ((a.out.length : Int) ≤ k) = false := by simp [hk1]
              have B := hid (wtB_in (a := a) (i := i) (k := k) (by unfold wtOut; omega))
              clear hA
              go_wp2_with fail
              go_meet
              exact ⟨by rw [B.out], rfl⟩
    · have e1 : (chk a == 0) = false := by simp [hA]
      have B := hid (wtB_bad (i := i) (k := k) hA)
      clear hA
      go_wp2_with fail
      go_meet
      exact ⟨by rw [B.out], rfl⟩
  case rest =>
  obtain ⟨rfl, hwc⟩ := hcut
  subst wc
  obtain ⟨β, hβ⟩ : ∃ β, β = wtB a i k := ⟨_, rfl⟩
  rw [← hβ]
  have HBT := hid hβ
  clear hβ
  go_upto_if 61 with fail
  go_cut [13] (fun c wx => c = .int .i64 (wtF a i k) ∧ wx = w4)
  case first => as_aux_lemma =>
    cases β with
    | true =>
      have B : Hid (wtF a i k = 1) := by show _ = _; unfold wtF; rw [if_pos HBT.out.symm]
      go_wp2_with fail
      go_meet
      exact ⟨by rw [B.out], rfl⟩
    | false =>
      have B : Hid (wtF a i k = chk a) := by show _ = _; unfold wtF; rw [if_neg (by rw [← HBT.out]; simp)]
      go_wp2_with fail
      go_meet
      exact ⟨by rw [B.out], rfl⟩
  case rest =>
  obtain ⟨rfl, hwc⟩ := hcut
  subst wc
  clear HBT
  go_upto_if 63 with fail
  go_cut [13, 14] (fun c c' wx => c = .int .i64 (wapC a i k) ∧ Hid (KeptR W [(W.heap.size + 1, #[.slice A3 b.out.length c3, .slice A4 b.next.length c4], 24), (W.heap.size, #[.slice A1 a.out.length c1, .slice A2 a.next.length c2], 24)] [(c', wapL a i k)] [((.agg #[.slice A3 b.out.length c3, .slice A4 b.next.length c4]), b), ((.agg #[.slice A1 a.out.length c1, .slice A2 a.next.length c2]), a)] [(u15, setR a), ((.slice A5 ws.length c5), ws)] wx))
  case first => as_aux_lemma =>
    by_cases hF : wtF a i k = 0
    · have e1 : (wtF a i k == 0) = true := by simp [hF]
      have HRZ := hid (wtF_zero hF)
      have HH := hid hF
      have AP := hid (wtF_yes hF)
      have hin := HRZ.out.2
      unfold wtOut at hin
      obtain ⟨I, rfl⟩ : ∃ I : Nat, i = (I : Int) := ⟨i.toNat, by omega⟩
      obtain ⟨J, rfl⟩ : ∃ J : Nat, k = (J : Int) := ⟨k.toNat, by omega⟩
      have x0 := K4.out.cellN 1 rfl 0
      have x1 := K4.out.cellN 1 rfl 1
      simp at x0 x1
      clear hF
      go_wp2_with fail
      refine (apof_ok a a I J (fun b => b < w4.heap.size) _ _ _ (fun b h => h) (K4.out.macN 1 rfl) (K4.out.macN 1 rfl) (chk_good HRZ.out.1) (chk_good HRZ.out.1) rfl (by omega) (by omega)).mono ?_
      rintro e w5 ⟨hb, hp⟩
      rcases hp with ⟨r, f, rfl, hf, hr⟩ | ⟨rfl, hx⟩
      · have FF := hid (apart_yes hf)
        have K5 := hid ((K4.out.step hb).addInts hr fun b h => h.2)
        clear hb hr hf x0 x1 hin
        go_wp2_with fail
        go_meet
        exact ⟨by rw [AP.out.1, Int.toNat_natCast, Int.toNat_natCast, FF.out.2, HH.out], by have := K5.out; rw [AP.out.2, Int.toNat_natCast, Int.toNat_natCast, FF.out.1]; exact this⟩
      · have FF := hid (apart_no hx)
        have K5 := hid ((K4.out.step hb).addInts (F := fun _ => False) (v := .slice none 0 0) (zs := []) IntsIn.nil_ fun b h => h.elim)
        clear hb hx x0 x1 hin
        go_wp2_with fail
        go_meet
        exact ⟨by rw [AP.out.1, Int.toNat_natCast, Int.toNat_natCast, FF.out.2], by have := K5.out; rw [AP.out.2, Int.toNat_natCast, Int.toNat_natCast, FF.out.1]; exact this⟩
    · have e1 : (wtF a i k == 0) = false := by simp [hF]
      have AP := hid (wtF_no hF)
      clear hF
      go_wp2_with fail
      go_meet
      exact ⟨by rw [AP.out.1], by show KeptR _ _ _ _ _ _; rw [AP.out.2]; exact K4.out.addInts (F := fun _ => False) IntsIn.nil_ fun b h => h.elim⟩
  case rest =>
  obtain ⟨rfl, K5⟩ := hcut
  clear K4
  obtain ⟨w5, rfl⟩ : ∃ w5 : World, w5 = wc := ⟨_, rfl⟩
  go_upto_if 77 with fail
  go_cut [18] (fun c wx => c = .int .i64 (mtG a b) ∧ Hid (KeptR W [(W.heap.size + 1, #[.slice A3 b.out.length c3, .slice A4 b.next.length c4], 24), (W.heap.size, #[.slice A1 a.out.length c1, .slice A2 a.next.length c2], 24)] [(u14, wapL a i k)] [((.agg #[.slice A3 b.out.length c3, .slice A4 b.next.length c4]), b), ((.agg #[.slice A1 a.out.length c1, .slice A2 a.next.length c2]), a)] [(u15, setR a), ((.slice A5 ws.length c5), ws)] wx))
  case first => as_aux_lemma =>
    by_cases hA : chk a = 0
    · have e1 : (chk a == 0) = true := by simp [hA]
      have B : Hid (mtG a b = chk b) := by show _ = _; unfold mtG; rw [if_pos hA]
      have y0 := K5.out.cellN 0 rfl 0
      have y1 := K5.out.cellN 0 rfl 1
      simp at y0 y1
      clear hA
      go_wp2_with fail
      refine (rfault_any b (fun b => b < w5.heap.size) _ _ (fun b h => h) (K5.out.macN 0 rfl)).mono ?_
      rintro e w8 ⟨rfl, hb⟩
      have K8 := hid (K5.out.step hb)
      clear hb
      go_wp2_with fail
      go_meet
      exact ⟨by rw [B.out], K8⟩
    · have e1 : (chk a == 0) = false := by simp [hA]
      have B : Hid (mtG a b = chk a) := by show _ = _; unfold mtG; rw [if_neg hA]
      clear hA
      go_wp2_with fail
      go_meet
      exact ⟨by rw [B.out], K5⟩
  case rest =>
  obtain ⟨rfl, K8⟩ := hcut
  clear K5
  obtain ⟨w8, rfl⟩ : ∃ w8 : World, w8 = wc := ⟨_, rfl⟩
  go_upto_region 20 with fail
  go_cut [94] (fun c wx => c = .bool (mtC a b) ∧ Hid (KeptR W [(W.heap.size + 1, #[.slice A3 b.out.length c3, .slice A4 b.next.length c4], 24), (W.heap.size, #[.slice A1 a.out.length c1, .slice A2 a.next.length c2], 24)] [(u14, wapL a i k)] [((.agg #[.slice A3 b.out.length c3, .slice A4 b.next.length c4]), b), ((.agg #[.slice A1 a.out.length c1, .slice A2 a.next.length c2]), a)] [(u15, setR a), ((.slice A5 ws.length c5), ws)] wx))
  case first => as_aux_lemma =>
    by_cases hG : mtG a b = 0
    · have e1 : (mtG a b == 0) = true := by simp [hG]
      have GZ := hid (mtG_zero hG)
      obtain ⟨b1, o1, e2, p2, d2, rfl, U1⟩ := mach_row0 (fun b h => h) HA.out (chk_good GZ.out.1)
      obtain ⟨b3, o3, e4, p4, d4, rfl, U3⟩ := mach_row0 (fun b h => h) HB.out (chk_good GZ.out.2)
      have q1 := U1 w8 K8.out.bel
      have q3 := U3 w8 K8.out.bel
      have pa := (chk_good GZ.out.1).pos
      have pb := (chk_good GZ.out.2).pos
      have x0 := K8.out.cellN 1 rfl 0
      have x1 := K8.out.cellN 1 rfl 1
      simp at x0 x1
      have y0 := K8.out.cellN 0 rfl 0
      have y1 := K8.out.cellN 0 rfl 1
      simp at y0 y1
      clear U1 U3
      by_cases hI : ins a = ins b
      · have B : Hid (mtC a b = false) := by show _ = _; unfold mtC; simp [hI]
        rw [← hI] at q3
        have z1 : ((ins a : Int) != (ins a : Int)) = false := by simp
        clear hI hG
        go_quiet (fail)
        go_wp2_with fail
        go_meet
        exact ⟨by rw [B.out], K8.out.drewN _⟩
      · have B : Hid (mtC a b = true) := by show _ = _; unfold mtC; simp [hI, hG]
        have z1 : ((ins a : Int) != (ins b : Int)) = true := by simp; omega
        have z2 : (ins a != ins b) = true := by simp; omega
        clear hI hG
        go_quiet (fail)
        go_wp2_with fail
        go_meet
        exact ⟨by rw [B.out], K8.out.drewN _⟩
    · have e1 : (mtG a b == 0) = false := by simp [hG]
      have B : Hid (mtC a b = false) := by show _ = _; unfold mtC; simp [hG]
      clear hG
      go_quiet (fail)
      go_wp2_with fail
      go_meet
      exact ⟨by rw [B.out], K8.out.drewN _⟩
  case rest =>
  obtain ⟨rfl, K9⟩ := hcut
  clear K8
  obtain ⟨w9, rfl⟩ : ∃ w9 : World, w9 = wc := ⟨_, rfl⟩
  obtain ⟨β, hβ⟩ : ∃ β, β = mtC a b := ⟨_, rfl⟩
  rw [← hβ]
  have HBT := hid hβ
  clear hβ
  go_upto_if 94 with fail
  go_cut [18] (fun c wx => c = .int .i64 (mtH a b) ∧ wx = w9)
  case first => as_aux_lemma =>
    cases β with
    | true =>
      have B : Hid (mtH a b = 3) := by show _ = _; unfold mtH; rw [if_pos HBT.out.symm]
      go_wp2_with fail
      go_meet
      exact ⟨by rw [B.out], rfl⟩
    | false =>
      have B : Hid (mtH a b = mtG a b) := by show _ = _; unfold mtH; rw [if_neg (by rw [← HBT.out]; simp)]
      go_wp2_with fail
      go_meet
      exact ⟨by rw [B.out], rfl⟩
  case rest =>
  obtain ⟨rfl, hwc⟩ := hcut
  subst wc
  clear HBT
  have I0 := hid (WtInv.start a b ws)
  go_wp2_with fail
  go_loopw [18, 19, 20] (fun gv pv jv wx => ∃ (j : Nat) (γ : Int) (β : Bool), j ≤ ws.length ∧ gv = .int .i64 γ ∧ pv = .bool β ∧ jv = .int .i64 j ∧ Hid (WtInv a b ws j γ β) ∧ Hid (KeptR W [(W.heap.size + 1, #[.slice A3 b.out.length c3, .slice A4 b.next.length c4], 24), (W.heap.size, #[.slice A1 a.out.length c1, .slice A2 a.next.length c2], 24)] [(u14, wapL a i k)] [((.agg #[.slice A3 b.out.length c3, .slice A4 b.next.length c4]), b), ((.agg #[.slice A1 a.out.length c1, .slice A2 a.next.length c2]), a)] [(u15, setR a), ((.slice A5 ws.length c5), ws)] wx)) (fun _ _ jv _ => ws.length - (intOf jv).toNat)
  case atStart => exact ⟨0, _, true, Nat.zero_le _, rfl, rfl, rfl, I0, K9⟩
  case round =>
    obtain ⟨j, γ, β, hj, rfl, rfl, rfl, hI, KA⟩ := hrel
    obtain ⟨wa, rfl⟩ : ∃ wa : World, wa = wr := ⟨_, rfl⟩
    clear I0 K9
    by_cases hgo : γ = 0 ∧ j < ws.length
    · obtain ⟨rfl, hlt⟩ := hgo
      have PG := hid (passFault_good hI.out.g.symm)
      have GA := hid (chk_good PG.out.1)
      have GB := hid (chk_good PG.out.2.1)
      have pa := GA.out.pos
      have pb := GB.out.pos
      obtain ⟨bw, ow, rfl, fbw, R⟩ := HWR.out (by omega)
      obtain ⟨rj, yj, Ij⟩ := R j hlt
      have HIj := hid Ij
      have FBW := hid fbw
      have HZj : (rowAt ws j).length * 8 ≤ 140737488351232 := HZ.out _ (row_mem hlt)
      obtain ⟨A7, c7, rfl, _, _, _⟩ := Ij
      have YJ := hid yj
      have HBA := hid KA.out.bel
      have y2 : wa.cell? ⟨bw, ow + j, none⟩ = some (.slice A7 (rowAt ws j).length c7) := (HBA.out.cell (p := ⟨bw, ow + j, none⟩) fbw).trans yj
      have jO : (j : Int) < (ws.length : Int) := by omega
      have KB := hid (KA.out.addInts (HIj.out.keep (Same.of_below HBA.out fun b h => h)) fun b (h : b < W.heap.size) => by have := HBA.out.size; omega)
      have KD := hid KB.out.drewN
      have x0 := KA.out.cellN 1 rfl 0
      have x1 := KA.out.cellN 1 rfl 1
      simp at x0 x1
      clear R yj fbw
      go_upto_region 25 with fail
      go_cut [110] (fun c wx => ∃ γ' : Bool, c = .bool γ' ∧ Hid (γ' = true ↔ ¬ word a (rowAt ws j)) ∧ Hid (KeptR W [(W.heap.size + 1, #[.slice A3 b.out.length c3, .slice A4 b.next.length c4], 24), (W.heap.size, #[.slice A1 a.out.length c1, .slice A2 a.next.length c2], 24)] [(.slice A7 (rowAt ws j).length c7, rowAt ws j), (u14, wapL a i k)] [((.agg #[.slice A3 b.out.length c3, .slice A4 b.next.length c4]), b), ((.agg #[.slice A1 a.out.length c1, .slice A2 a.next.length c2]), a)] [(u15, setR a), ((.slice (some ⟨bw, ow, none⟩) ws.length c5), ws)] wx))
      case first => as_aux_lemma =>
        go_region_law (go_simp; go_at_call 15; refine (wfault_any a (rowAt ws j) (fun b => b < wa.drew.heap.size) _ _ _ (fun b h => h) ((KB.out.step (w' := wa.drew) (below_drewN (Below.refl _ _) 1)).macN 1 rfl) ((KB.out.step (w' := wa.drew) (below_drewN (Below.refl _ _) 1)).intN 0 rfl) GA.out).mono ?_; rintro e w6 ⟨γ', rfl, hγ, hb⟩; have K6 := hid ((KB.out.step (w' := wa.drew) (below_drewN (Below.refl _ _) 1)).step hb))
        all_goals
          go_wp2_with fail
          go_meet
          exact ⟨γ', rfl, hγ, K6⟩
      case rest =>
      obtain ⟨γ', rfl, hγ, K6⟩ := hcut
      clear x0 x1 y2 KA KB KD HBA
      obtain ⟨w6, rfl⟩ : ∃ w6 : World, w6 = wc := ⟨_, rfl⟩
      cases γ' with
      | true =>
        have N1 := hid (hI.out.bad hlt (hγ.out.1 rfl))
        have K7 : Hid (KeptR W [(W.heap.size + 1, #[.slice A3 b.out.length c3, .slice A4 b.next.length c4], 24), (W.heap.size, #[.slice A1 a.out.length c1, .slice A2 a.next.length c2], 24)] [(u14, wapL a i k)] [((.agg #[.slice A3 b.out.length c3, .slice A4 b.next.length c4]), b), ((.agg #[.slice A1 a.out.length c1, .slice A2 a.next.length c2]), a)] [(u15, setR a), ((.slice (some ⟨bw, ow, none⟩) ws.length c5), ws)] w6) := ⟨⟨K6.out.k.bel, K6.out.k.box, fun p hp => K6.out.k.ints p (List.mem_cons_of_mem _ hp), K6.out.k.mach⟩, K6.out.rows⟩
        go_wp2_with fail
        go_roundw
        case rel => exact ⟨j + 1, 1, β, by omega, rfl, rfl, by go_num, N1, K7⟩
        case measure => simp [intOf]; omega
      | false =>
        have WD : Hid (word a (rowAt ws j)) := by
          by_cases h : word a (rowAt ws j)
          · exact h
          · have := hγ.out.2 h; cases this
        have WD2 : Hid (word b (rowAt ws j)) := by
          have h := WD.out
          have e := PG.out.2.2
          intro x hx
          have := h x hx
          unfold letter at this ⊢
          rw [← e]; exact this
        have N1 := hid (hI.out.good hlt WD.out)
        have HB6 := hid K6.out.bel
        have y2 : w6.cell? ⟨bw, ow + j, none⟩ = some (.slice A7 (rowAt ws j).length c7) := (HB6.out.cell (p := ⟨bw, ow + j, none⟩) FBW.out).trans YJ.out
        have x0 := K6.out.cellN 1 rfl 0
        have x1 := K6.out.cellN 1 rfl 1
        simp at x0 x1
        have y0 := K6.out.cellN 0 rfl 0
        have y1 := K6.out.cellN 0 rfl 1
        simp at y0 y1
        have l0 := K6.out.ltN 0 rfl
        have l1 := K6.out.ltN 1 rfl
        have lbw := cell_lt y2
        go_upto_region 27 with fail
        go_cut [124] (fun c wx => ∃ r7 r8, c = .bool (!decide (tells a 0 (rowAt ws j) = tells b 0 (rowAt ws j))) ∧ Hid (KeptR W [(W.heap.size + 1, #[.slice A3 b.out.length c3, .slice A4 b.next.length c4], 24), (W.heap.size, #[.slice A1 a.out.length c1, .slice A2 a.next.length c2], 24)] [(r8, tells b 0 (rowAt ws j)), (r7, tells a 0 (rowAt ws j)), (.slice A7 (rowAt ws j).length c7, rowAt ws j), (u14, wapL a i k)] [((.agg #[.slice A3 b.out.length c3, .slice A4 b.next.length c4]), b), ((.agg #[.slice A1 a.out.length c1, .slice A2 a.next.length c2]), a)] [(u15, setR a), ((.slice (some ⟨bw, ow, none⟩) ws.length c5), ws)] wx))
        case first => as_aux_lemma =>
          go_region_held3 (fun w' => w'.cell? ⟨W.heap.size, 0, none⟩ = some (.slice A1 a.out.length c1) ∧ w'.cell? ⟨W.heap.size, 1, none⟩ = some (.slice A2 a.next.length c2) ∧ w'.cell? ⟨W.heap.size + 1, 0, none⟩ = some (.slice A3 b.out.length c3) ∧ w'.cell? ⟨W.heap.size + 1, 1, none⟩ = some (.slice A4 b.next.length c4) ∧ w'.cell? ⟨bw, ow + j, none⟩ = some (.slice A7 (rowAt ws j).length c7))
            (first | go_keep | exact ⟨(hb7.cell (p := ⟨W.heap.size, 0, none⟩) (by simp; omega)).trans x0, (hb7.cell (p := ⟨W.heap.size, 1, none⟩) (by simp; omega)).trans x1, (hb7.cell (p := ⟨W.heap.size + 1, 0, none⟩) (by simp; omega)).trans y0, (hb7.cell (p := ⟨W.heap.size + 1, 1, none⟩) (by simp; omega)).trans y1, (hb7.cell (p := ⟨bw, ow + j, none⟩) (by simp; omega)).trans y2⟩ | exact ⟨(hb8.cell (p := ⟨W.heap.size, 0, none⟩) (by simp; omega)).trans x0, (hb8.cell (p := ⟨W.heap.size, 1, none⟩) (by simp; omega)).trans x1, (hb8.cell (p := ⟨W.heap.size + 1, 0, none⟩) (by simp; omega)).trans y0, (hb8.cell (p := ⟨W.heap.size + 1, 1, none⟩) (by simp; omega)).trans y1, (hb8.cell (p := ⟨bw, ow + j, none⟩) (by simp; omega)).trans y2⟩ | exact ⟨(hb9.cell (p := ⟨W.heap.size, 0, none⟩) (by simp; omega)).trans x0, (hb9.cell (p := ⟨W.heap.size, 1, none⟩) (by simp; omega)).trans x1, (hb9.cell (p := ⟨W.heap.size + 1, 0, none⟩) (by simp; omega)).trans y0, (hb9.cell (p := ⟨W.heap.size + 1, 1, none⟩) (by simp; omega)).trans y1, (hb9.cell (p := ⟨bw, ow + j, none⟩) (by simp; omega)).trans y2⟩)
            (first
              | (go_at_call 20; refine (ints_any _ _ _ _ _ _ (K8.out.intN 1 rfl) (K8.out.intN 0 rfl)).mono ?_; rintro e w9 ⟨rfl, q9, rfl⟩; have hb9 := below_drewN hb8 q9; have K9 := hid (K8.out.drewN q9))
              | (go_at_call_of 16 (Value.agg #[.slice A1 a.out.length c1, .slice A2 a.next.length c2]); refine (rtells_ok a 0 (rowAt ws j) _ _ _ _ (fun b h => h) ((K6.out.drewN 1).macN 1 rfl) ((K6.out.drewN 1).intN 0 rfl) GA.out (by omega) WD.out (by omega)).mono ?_; rintro e w7 ⟨r7, rfl, hr7, hb7'⟩; have hb7 := hb7'; have K7 := hid (((K6.out.drewN 1).step hb7).addInts hr7 fun b h => h.2))
              | (go_at_call_of 16 (Value.agg #[.slice A3 b.out.length c3, .slice A4 b.next.length c4]); refine (rtells_ok b 0 (rowAt ws j) _ _ _ _ (fun b h => h) (K7.out.macN 0 rfl) (K7.out.intN 1 rfl) GB.out (by omega) WD2.out (by omega)).mono ?_; rintro e w8 ⟨r8, rfl, hr8, hb8'⟩; have hb8 := hb7.trans (hb8'.mono (by simpa using hb7.size)); have K8 := hid ((K7.out.step hb8').addInts hr8 fun b h => h.2)))
          go_wp2_with fail
          go_meet
          exact ⟨r7, r8, rfl, K9⟩
        case rest =>
        obtain ⟨r7, r8, rfl, K7⟩ := hcut
        clear x0 x1 y0 y1 y2 l0 l1 lbw K6 HB6
        obtain ⟨w7, rfl⟩ : ∃ w7 : World, w7 = wc := ⟨_, rfl⟩
        have K8 : Hid (KeptR W [(W.heap.size + 1, #[.slice A3 b.out.length c3, .slice A4 b.next.length c4], 24), (W.heap.size, #[.slice A1 a.out.length c1, .slice A2 a.next.length c2], 24)] [(u14, wapL a i k)] [((.agg #[.slice A3 b.out.length c3, .slice A4 b.next.length c4]), b), ((.agg #[.slice A1 a.out.length c1, .slice A2 a.next.length c2]), a)] [(u15, setR a), ((.slice (some ⟨bw, ow, none⟩) ws.length c5), ws)] w7) := ⟨⟨K7.out.k.bel, K7.out.k.box, fun p hp => K7.out.k.ints p (List.mem_cons_of_mem _ (List.mem_cons_of_mem _ (List.mem_cons_of_mem _ hp))), K7.out.k.mach⟩, K7.out.rows⟩
        clear K7
        generalize hd : decide (tells a 0 (rowAt ws j) = tells b 0 (rowAt ws j)) = δ at *
        clear hd
        cases δ with
        | true =>
          go_wp2_with fail
          go_roundw
          case rel => exact ⟨j + 1, 0, β, by omega, rfl, rfl, by go_num, by have := N1.out; rw [Bool.and_true] at this; exact this, K8⟩
          case measure => simp [intOf]; omega
        | false =>
          go_wp2_with fail
          go_roundw
          case rel => exact ⟨j + 1, 0, false, by omega, rfl, rfl, by go_num, by have := N1.out; rw [Bool.and_false] at this; exact this, K8⟩
          case measure => simp [intOf]; omega
    · obtain ⟨E, PB⟩ := hI.out.stop hj hgo
      subst E
      have PB := hid PB
      have GO := hid hgo
      clear hgo hI
      go_upto_region 23 with fail
      go_cut [102] (fun c wx => c = .bool false ∧ wx = wa)
      case first => as_aux_lemma =>
        by_cases hp : passFault a b ws = 0
        · have e1 : (passFault a b ws == 0) = true := by simp [hp]
          have jl : j = ws.length := by
            by_cases k : j < ws.length
            · exact absurd ⟨hp, k⟩ GO.out
            · omega
          subst jl
          clear hp
          go_wp2_with fail
          go_meet
          exact ⟨by simp, rfl⟩
        · have e1 : (passFault a b ws == 0) = false := by simp [hp]
          clear hp
          go_wp2_with fail
          go_meet
          exact ⟨rfl, rfl⟩
      case rest =>
      obtain ⟨rfl, hwc⟩ := hcut
      subst wc
      clear GO
      have x0 := KA.out.cellN 1 rfl 0
      have x1 := KA.out.cellN 1 rfl 1
      simp at x0 x1
      go_wp2_with fail
      refine (wapart_any a i k (fun b => b < wa.heap.size) _ _ (fun b h => h) (KA.out.macN 1 rfl)).mono ?_
      rintro e w10 ⟨r2, rfl, hr, hb⟩
      have K10 := hid ((KA.out.step hb).addInts hr fun b h => h.2)
      clear hb hr x0 x1 KA
      go_wp2_with fail
      refine (serror_any _ _ _ (K10.out.laid HL.out)).mono ?_
      rintro e w11 ⟨rfl, hb⟩
      have K11 := hid (K10.out.step hb)
      clear hb K10
      rw [decide_eq_true rfl]
      go_wp2_with fail
      refine (ints_any _ _ _ _ _ _ (K11.out.intN 0 rfl) (K11.out.intN 1 rfl)).mono ?_
      rintro e w12 ⟨rfl, q, rfl⟩
      have K12 := hid (K11.out.drewN q)
      clear K11
      rw [decide_eq_true rfl]
      have x0 := K12.out.cellN 1 rfl 0
      have x1 := K12.out.cellN 1 rfl 1
      simp at x0 x1
      go_wp2_with fail
      refine (set_any a _ _ _ (fun b h => h) (K12.out.macN 1 rfl)).mono ?_
      rintro e w13 ⟨r3, rfl, hr, hb⟩
      have K13 := hid ((K12.out.step hb).addRows hr fun b h => h.2)
      clear hb hr x0 x1 K12
      go_wp2_with fail
      refine (serror_any _ _ _ (K13.out.laid HL.out)).mono ?_
      rintro e w14 ⟨rfl, hb⟩
      have K14 := hid (K13.out.step hb)
      clear hb K13
      rw [decide_eq_true rfl]
      go_wp2_with fail
      refine (rows_any _ _ _ _ _ _ (K14.out.rowN 0 rfl) (K14.out.rowN 1 rfl)).mono ?_
      rintro e w15 ⟨rfl, q2, rfl⟩
      have K15 := hid (K14.out.drewN q2)
      clear K14
      rw [decide_eq_true rfl]
      have x0 := K15.out.cellN 1 rfl 0
      have x1 := K15.out.cellN 1 rfl 1
      simp at x0 x1
      have y0 := K15.out.cellN 0 rfl 0
      have y1 := K15.out.cellN 0 rfl 1
      simp at y0 y1
      go_wp2_with fail
      refine (passes_one a b ws _ _ _ _ _ (fun b h => h) (K15.out.macN 1 rfl) (K15.out.macN 0 rfl) (K15.out.rowN 2 rfl) (fun x hx => by have := HZ.out x hx; omega)).mono ?_
      rintro e w16 ⟨rfl, hb⟩
      have K16 := hid (K15.out.step hb)
      clear hb x0 x1 y0 y1 K15
      rw [PB.out]
      go_wp2_with fail
      refine (serror_any _ _ _ (K16.out.laid HL.out)).mono ?_
      rintro e w17 ⟨rfl, hb⟩
      have K17 := hid (K16.out.step hb)
      clear hb K16
      rw [decide_eq_true rfl]
      by_cases hp : passFault a b ws = 0
      · have e1 : (passFault a b ws == 0) = true := by simp [hp]
        have e2 : decide (passFault a b ws = 0) = true := by simp [hp]
        rw [e2]
        clear hp e2
        cases β
        all_goals
          go_wp2_with fail
          go_ret
          exact ⟨rfl, K17.out.bel⟩
      · have e1 : (passFault a b ws == 0) = false := by simp [hp]
        have e2 : decide (passFault a b ws = 0) = false := by simp [hp]
        rw [e2]
        clear hp e2
        cases β
        all_goals
          go_wp2_with fail
          go_ret
          exact ⟨rfl, K17.out.bel⟩
end Go.Proofs.YtfalbffpdgfepaaDoor
