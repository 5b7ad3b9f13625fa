/- What wset.Apart returns, whatever it is given: the first word that tells two states apart, or the fault's number. No conditions. -/
import Derived.Test.YtfalbffpdgfepaaDoorApt
namespace Go.Proofs.YtfalbffpdgfepaaDoor
open Go.RowKit
set_option maxRecDepth 100000 in
set_option maxHeartbeats 1000000 in
theorem wapart_any (m : MachD) (i k : Int) (F : Nat → Prop) (mv : Value) (w : World) (hF : ∀ b, F b → b < w.heap.size) (hm : MachIn F w mv m) :
    Calls Tryd.prog 25 #[mv, .int .i64 i, .int .i64 k] w (ApPost (wapC m i k) (wapL m i k) w) := by
  have HF := hid hF
  have HM := hid hm
  obtain ⟨o1, n1, rfl, ⟨A1, c1, rfl, l1, _⟩, ⟨A2, c2, rfl, l2, _⟩⟩ := hm
  clear hF
  by_cases gm : chk m = 0
  · have GM := hid (chk_good gm)
    have m1 := (chk_good gm).le
    by_cases hr : i < 0 ∨ (m.out.length : Int) ≤ i ∨ k < 0 ∨ (m.out.length : Int) ≤ k
    · have EC : Hid (wapC m i k = 1) := by show _ = _; unfold wapC; rw [if_neg (by simp [gm]), if_pos hr]
      have EL : Hid (wapL m i k = []) := by show _ = _; unfold wapL; rw [if_neg fun h => h.2 hr]
      clear gm
      go_enter Tryd.func25, Tryd.ntmps25
      go_wp2_with fail
      refine (chk_ok (F := F) (fun b hb => by have := HF.out b hb; simp; omega) (HM.out.keep fun b hb => Below.heap_alloc _ _ _ (HF.out b hb)) GM.out).mono ?_
      rintro e w1 ⟨rfl, hb⟩
      obtain ⟨B1, X1, s1⟩ := box_below hb
      have x0 := Has.cell X1 0
      have x1 := Has.cell X1 1
      simp at x0 x1
      have HB := hid B1
      clear hb B1 X1
      by_cases h1 : i < 0
      · clear hr
        go_wp2_with fail
        go_ret2
        exact ApPost.err EC.out (by decide) EL.out HB.out
      · have d1 : decide (i < 0) = false := by simp [h1]
        by_cases h2 : (m.out.length : Int) ≤ i
        · clear hr
          go_wp2_with fail
          go_ret2
          exact ApPost.err EC.out (by decide) EL.out HB.out
        · have d2 : decide ((m.out.length : Int) ≤ i) = false := by simp [h2]
          by_cases h3 : k < 0
          · clear hr
            go_wp2_with fail
            go_ret2
            exact ApPost.err EC.out (by decide) EL.out HB.out
          · have d3 : decide (k < 0) = false := by simp [h3]
            have h4 : (m.out.length : Int) ≤ k := by omega
            clear hr
            go_wp2_with fail
            go_ret2
            exact ApPost.err EC.out (by decide) EL.out HB.out
    · obtain ⟨I, rfl⟩ : ∃ I : Nat, i = (I : Int) := ⟨i.toNat, by omega⟩
      obtain ⟨J, rfl⟩ : ∃ J : Nat, k = (J : Int) := ⟨k.toNat, by omega⟩
      have EC : Hid (wapC m I J = apartN m m I J) := by show _ = _; unfold wapC; rw [if_neg (by simp [gm]), if_neg hr]; rfl
      have EL : Hid (wapL m I J = apartL m m I J) := by show _ = _; unfold wapL; rw [if_pos ⟨gm, hr⟩]; rfl
      have LI : Hid (I < m.out.length ∧ J < m.out.length) := ⟨by omega, by omega⟩
      have d1 : decide ((I : Int) < 0) = false := by simp
      have d2 : decide ((m.out.length : Int) ≤ I) = false := by simp; omega
      have d3 : decide ((J : Int) < 0) = false := by simp
      have d4 : decide ((m.out.length : Int) ≤ J) = false := by simp; omega
      have d5 : decide (m.out.length ≤ I) = false := by simp; omega
      have d6 : decide (m.out.length ≤ J) = false := by simp; omega
      clear gm hr
      go_enter Tryd.func25, Tryd.ntmps25
      go_wp2_with fail
      refine (chk_ok (F := F) (fun b hb => by have := HF.out b hb; simp; omega) (HM.out.keep fun b hb => Below.heap_alloc _ _ _ (HF.out b hb)) GM.out).mono ?_
      rintro e w1 ⟨rfl, hb⟩
      obtain ⟨B1, X1, s1⟩ := box_below hb
      have x0 := Has.cell X1 0
      have x1 := Has.cell X1 1
      simp at x0 x1
      have HB := hid B1
      clear hb B1 X1
      go_wp2_with fail
      refine (between_any m m I J F _ _ _ (fun b hb => by have := HF.out b hb; omega) (HM.out.keep (Same.of_below HB.out HF.out)) (HM.out.keep (Same.of_below HB.out HF.out)) GM.out GM.out rfl LI.out.1 LI.out.2).mono ?_
      rintro e w3 ⟨hb, hp⟩
      have B4 : Hid (Below w.heap.size w w3) := HB.out.trans (hb.mono (by omega))
      clear hb x0 x1
      rcases hp with ⟨r, f, rfl, hf, hr⟩ | ⟨rfl, hx⟩
      · have FF := hid (apart_yes hf)
        have HR : Hid (IntsIn .i64 (Fresh w w3) w3 r f) := hr.more fun b hb => ⟨by have := hb.1; omega, hb.2⟩
        clear hf hr
        go_wp2_with fail
        go_ret2
        exact ⟨_, by rw [EC.out, FF.out.2]; rfl, by rw [EL.out, FF.out.1]; exact HR.out, B4.out⟩
      · have FF := hid (apart_no hx)
        clear hx
        go_wp2_with fail
        go_ret2
        exact ApPost.err (by rw [EC.out, FF.out.2]) (by decide) (by rw [EL.out, FF.out.1]) B4.out
  · have EC : Hid (wapC m i k = chk m) := by show _ = _; unfold wapC; rw [if_pos gm]
    have EL : Hid (wapL m i k = []) := by show _ = _; unfold wapL; rw [if_neg fun h => gm h.1]
    have GM := hid gm
    clear gm
    go_enter Tryd.func25, Tryd.ntmps25
    go_wp2_with fail
    refine (chk_bad (F := F) (fun b hb => by have := HF.out b hb; simp; omega) (HM.out.keep fun b hb => Below.heap_alloc _ _ _ (HF.out b hb)) GM.out).mono ?_
    rintro e w1 ⟨rfl, hb⟩
    obtain ⟨B1, X1, s1⟩ := box_below hb
    have HB := hid B1
    clear hb B1 X1
    go_wp2_with fail
    go_ret2
    exact ApPost.err EC.out GM.out EL.out HB.out
end Go.Proofs.YtfalbffpdgfepaaDoor
