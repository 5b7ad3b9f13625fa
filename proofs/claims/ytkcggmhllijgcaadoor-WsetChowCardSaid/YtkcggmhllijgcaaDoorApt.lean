/- What mealy.Apart and wset.Apart return, whatever they are given: the first word that tells apart, or the fault's number. No conditions. -/
import Derived.Test.YtkcggmhllijgcaaDoorBtw
import Derived.Test.YtkcggmhllijgcaaDoorApm
import Derived.BigQuiet
namespace Go.Proofs.YtkcggmhllijgcaaDoor
open Go.RowKit
def ApPost (c : Int) (l : List Int) (w : World) (e : Ending) (w' : World) : Prop := ∃ r, e = .returned (.tuple #[r, errV c]) ∧ IntsIn .i64 (Fresh w w') w' r l ∧ Below w.heap.size w w'
theorem ApPost.err {c : Int} {w w' : World} {c' : Int} {l : List Int} (hc : c' = c) (h : c ≠ 0) (hl : l = []) (hb : Below w.heap.size w w') : ApPost c' l w (.returned (.tuple #[.slice none 0 0, .iface 33 (.int .i64 c)])) w' := by
  subst hc hl
  exact ⟨_, by rw [errV_no h], IntsIn.nil_, hb⟩
set_option maxRecDepth 100000 in
set_option maxHeartbeats 1000000 in
theorem apart_ok (a b : MachD) (F : Nat → Prop) (mv ov : Value) (w : World) (hF : ∀ b, F b → b < w.heap.size) (hm : MachIn F w mv a) (ho : MachIn F w ov b) (gm : Good a) (go : Good b) (hi : ins a = ins b) :
    Calls Tryd.prog 16 #[mv, ov] w (ApPost (apC a b) (apL a b) w) := by
  have HF := hid hF
  have HM := hid hm
  have HO := hid ho
  have GM := hid gm
  have GO := hid go
  have HI := hid hi
  have EC : Hid (apC a b = apartN a b 0 0) := by show _ = _; unfold apC; rw [if_neg (by simp [good_chk gm]), if_neg (by simp [good_chk go]), if_neg (by simp [hi])]
  have EL : Hid (apL a b = apartL a b 0 0) := by show _ = _; unfold apL; rw [if_pos ⟨good_chk gm, good_chk go, hi⟩]
  obtain ⟨o1, n1, rfl, ⟨A1, c1, rfl, l1, k1⟩, ⟨A2, c2, rfl, l2, _⟩⟩ := hm
  obtain ⟨o2, n2, rfl, ⟨A3, c3, rfl, l3, k3⟩, ⟨A4, c4, rfl, l4, _⟩⟩ := ho
  obtain ⟨b1, f1, rfl, hb1, k1'⟩ := k1 gm.pos
  obtain ⟨b3, f3, rfl, hb3, k3'⟩ := k3 go.pos
  obtain ⟨r1, q1, ⟨A5, c5, rfl, l5, _, _⟩⟩ := k1' 0 gm.pos
  obtain ⟨r3, q3, ⟨A6, c6, rfl, l6, _, _⟩⟩ := k3' 0 go.pos
  have i1 : (rowAt a.out 0).length = ins a := rfl
  have i3 : (rowAt b.out 0).length = ins a := by rw [hi]; rfl
  rw [i1] at q1
  rw [i3] at q3
  simp only [Nat.add_zero] at q1 q3
  have m0 := gm.pos
  have m1 := gm.le
  have p0 := go.pos
  have p1 := go.le
  have s1 := hF b1 hb1
  have s3 := hF b3 hb3
  have j0 : ((ins a : Int) != (ins a : Int)) = false := by simp
  clear k1 k3 k1' k3' gm go hF hi i1 i3 l5 l6
  go_enter Tryd.func16, Tryd.ntmps16
  go_wp2_with fail
  refine (chk_ok (F := F) (fun b hb => by have := HF.out b hb; simp; omega) ((HM.out.keep fun b hb => Below.heap_alloc _ _ _ (HF.out b hb)).keep fun b hb => Below.heap_alloc _ _ _ (by have := HF.out b hb; simp; omega)) GM.out).mono ?_
  rintro e w1 ⟨rfl, hb⟩
  have B1 : Hid (Below w.heap.size w w1) := (((Below.refl _ _).alloc (Nat.le_refl _) _).alloc (by simp) _).trans (hb.mono (by simp; omega))
  have X1 := Has.below (Has.alloc (Has.new w _) _) hb (by simp; omega)
  have Y1 := Has.below (Has.newAt (w.alloc _) _ (g := w.heap.size + 1) (by simp)) hb (by simp)
  clear hb
  have x0 := Has.cell X1 0
  have x1 := Has.cell X1 1
  have y0 := Has.cell Y1 0
  have y1 := Has.cell Y1 1
  have z1 := Has.lt Y1
  have HX1 := hid X1
  have HY1 := hid Y1
  clear X1 Y1
  simp at x0 x1 y0 y1
  go_wp2_with fail
  refine (chk_ok (F := F) (fun b hb => by have := HF.out b hb; omega) (HO.out.keep (Same.of_below B1.out HF.out)) GO.out).mono ?_
  rintro e w2 ⟨rfl, hb⟩
  have B2 : Hid (Below w.heap.size w w2) := B1.out.trans (hb.mono (by omega))
  have X2 := Has.below HX1.out hb (by omega)
  have Y2 := Has.below HY1.out hb z1
  have z2 : w1.heap.size ≤ w2.heap.size := hb.size
  clear hb x0 x1 y0 y1
  have x0 := Has.cell X2 0
  have x1 := Has.cell X2 1
  have y0 := Has.cell Y2 0
  have y1 := Has.cell Y2 1
  clear X2 Y2 HX1 HY1
  simp at x0 x1 y0 y1
  have q1' := (B2.out.cell (p := ⟨b1, f1, none⟩) s1).trans q1
  have q3' := (B2.out.cell (p := ⟨b3, f3, none⟩) s3).trans q3
  clear q1 q3
  go_upto_region 7 with fail
  go_cut [30] from 20 to 30 (fun c wx => c = .bool false ∧ ∃ q, wx = w2.drewN q)
  case first =>
    go_quiet (fail)
    go_wp2_with fail
    go_meet
    exact ⟨rfl, _, rfl⟩
  case rest =>
    obtain ⟨rfl, q, rfl⟩ := hcut
    clear q1' q3' j0
    have B3 : Hid (Below w.heap.size w (w2.drewN q)) := below_drewN B2.out q
    go_wp2_with fail
    refine (between_any a b 0 0 F _ _ _ (fun b hb => by have := HF.out b hb; simp; omega) (HM.out.keep (Same.of_below B3.out HF.out)) (HO.out.keep (Same.of_below B3.out HF.out)) GM.out GO.out HI.out GM.out.pos GO.out.pos).mono ?_
    rintro e w3 ⟨hb, hp⟩
    have B4 : Hid (Below w.heap.size w w3) := B3.out.trans (hb.mono (by simp; omega))
    clear hb
    rcases hp with ⟨r, f, rfl, hf, hr⟩ | ⟨rfl, hx⟩
    · have FF := hid (apart_yes hf)
      have HR : Hid (IntsIn .i64 (Fresh w w3) w3 r f) := hr.more fun b hb => ⟨by have := hb.1; simp at this; omega, hb.2⟩
      clear hf hr
      go_wp2_with fail
      go_ret2
      exact ⟨_, by rw [EC.out, FF.out.2]; rfl, by rw [EL.out, FF.out.1]; exact HR.out, B4.out⟩
    · have FF := hid (apart_no hx)
      clear hx
      go_wp2_with fail
      go_ret2
      exact ApPost.err (by rw [EC.out, FF.out.2]) (by decide) (by rw [EL.out, FF.out.1]) B4.out
set_option maxRecDepth 100000 in
set_option maxHeartbeats 1000000 in
theorem apart_bad (m o : MachD) (F : Nat → Prop) (mv ov : Value) (w : World) (hF : ∀ b, F b → b < w.heap.size) (hm : MachIn F w mv m) (ho : MachIn F w ov o)
    (hbad : ¬ (Good m ∧ Good o ∧ ins m = ins o)) :
    Calls Tryd.prog 16 #[mv, ov] w (ApPost (apC m o) (apL m o) w) := by
  have HF := hid hF
  have HM := hid hm
  have HO := hid ho
  obtain ⟨o1, n1, rfl, h1, ⟨A2, c2, rfl, l2, _⟩⟩ := hm
  obtain ⟨o2, n2, rfl, h3, ⟨A4, c4, rfl, l4, _⟩⟩ := ho
  have H1 := hid h1
  have H3 := hid h3
  obtain ⟨A1, c1, rfl, l1, _⟩ := h1
  obtain ⟨A3, c3, rfl, l3, _⟩ := h3
  have HB := hid hbad
  have EL : Hid (apL m o = []) := by show _ = _; unfold apL; rw [if_neg]; rintro ⟨g1, g2, g3⟩; exact hbad ⟨chk_good g1, chk_good g2, g3⟩
  clear hF hbad l1 l2 l3 l4
  by_cases gm : chk m = 0
  · have GM := hid gm
    clear gm
    by_cases go : chk o = 0
    · have GO := hid go
      clear go
      have hi : ins m ≠ ins o := fun h => HB.out ⟨chk_good GM.out, chk_good GO.out, h⟩
      have R : Hid (apC m o = 3) := by show _ = _; unfold apC; rw [if_neg (by simp [GM.out]), if_neg (by simp [GO.out]), if_pos hi]
      have j0 : ((ins m : Int) != (ins o : Int)) = true := by simp; omega
      clear hi
      obtain ⟨_, _, e1, _, k1⟩ := H1.out
      obtain ⟨_, _, e3, _, k3⟩ := H3.out
      obtain ⟨b1, f1, r1, hb1, k1'⟩ := k1 (chk_good GM.out).pos
      obtain ⟨b3, f3, r3, hb3, k3'⟩ := k3 (chk_good GO.out).pos
      injection e1 with e1 _ e1c
      injection e3 with e3 _ e3c
      subst e1 e3 e1c e3c
      subst r1 r3
      obtain ⟨r1, q1, ⟨A5, c5, rfl, l5, _, _⟩⟩ := k1' 0 (chk_good GM.out).pos
      obtain ⟨r3, q3, ⟨A6, c6, rfl, l6, _, _⟩⟩ := k3' 0 (chk_good GO.out).pos
      have i1 : (rowAt m.out 0).length = ins m := rfl
      have i3 : (rowAt o.out 0).length = ins o := rfl
      rw [i1] at q1
      rw [i3] at q3
      simp only [Nat.add_zero] at q1 q3
      have m0 := (chk_good GM.out).pos
      have m1 := (chk_good GM.out).le
      have p0 := (chk_good GO.out).pos
      have p1 := (chk_good GO.out).le
      have s1 := HF.out b1 hb1
      have s3 := HF.out b3 hb3
      have i6 : ((ins m : Nat) : Int) ≤ 3 := by have := (chk_good GM.out).ins3; omega
      have i7 : ((ins o : Nat) : Int) ≤ 3 := by have := (chk_good GO.out).ins3; omega
      clear k1 k3 k1' k3' i1 i3 l5 l6
      go_enter Tryd.func16, Tryd.ntmps16
      go_wp2_with fail
      refine (chk_ok (F := F) (fun b hb => by have := HF.out b hb; simp; omega) ((HM.out.keep fun b hb => Below.heap_alloc _ _ _ (HF.out b hb)).keep fun b hb => Below.heap_alloc _ _ _ (by have := HF.out b hb; simp; omega)) (chk_good GM.out)).mono ?_
      rintro e w1 ⟨rfl, hb⟩
      have B1 : Hid (Below w.heap.size w w1) := (((Below.refl _ _).alloc (Nat.le_refl _) _).alloc (by simp) _).trans (hb.mono (by simp; omega))
      have X1 := Has.below (Has.alloc (Has.new w _) _) hb (by simp; omega)
      have Y1 := Has.below (Has.newAt (w.alloc _) _ (g := w.heap.size + 1) (by simp)) hb (by simp)
      clear hb
      have x0 := Has.cell X1 0
      have x1 := Has.cell X1 1
      have y0 := Has.cell Y1 0
      have y1 := Has.cell Y1 1
      have z1 := Has.lt Y1
      have HX1 := hid X1
      have HY1 := hid Y1
      clear X1 Y1
      simp at x0 x1 y0 y1
      go_wp2_with fail
      refine (chk_ok (F := F) (fun b hb => by have := HF.out b hb; omega) (HO.out.keep (Same.of_below B1.out HF.out)) (chk_good GO.out)).mono ?_
      rintro e w2 ⟨rfl, hb⟩
      have B2 : Hid (Below w.heap.size w w2) := B1.out.trans (hb.mono (by omega))
      have X2 := Has.below HX1.out hb (by omega)
      have Y2 := Has.below HY1.out hb z1
      clear hb x0 x1 y0 y1
      have x0 := Has.cell X2 0
      have y0 := Has.cell Y2 0
      clear X2 Y2
      simp at x0 y0
      have q1' := (B2.out.cell (p := ⟨b1, f1, none⟩) s1).trans q1
      have q3' := (B2.out.cell (p := ⟨b3, f3, none⟩) s3).trans q3
      clear q1 q3
      go_upto_region 7 with fail
      go_cut [30] from 20 to 30 (fun c wx => c = .bool true ∧ ∃ q, wx = w2.drewN q)
      case first =>
        go_quiet (fail)
        go_wp2_with fail
        go_meet
        exact ⟨rfl, _, rfl⟩
      case rest =>
        obtain ⟨rfl, q, rfl⟩ := hcut
        clear q1' q3' j0
        go_wp2_with fail
        go_ret2
        exact ApPost.err R.out (by decide) EL.out (below_drewN B2.out q)
    · have R : Hid (apC m o = chk o) := by show _ = _; unfold apC; rw [if_neg (by simp [GM.out]), if_pos go]
      have GO := hid go
      clear go
      go_enter Tryd.func16, Tryd.ntmps16
      go_wp2_with fail
      refine (chk_ok (F := F) (fun b hb => by have := HF.out b hb; simp; omega) ((HM.out.keep fun b hb => Below.heap_alloc _ _ _ (HF.out b hb)).keep fun b hb => Below.heap_alloc _ _ _ (by have := HF.out b hb; simp; omega)) (chk_good GM.out)).mono ?_
      rintro e w1 ⟨rfl, hb⟩
      have B1 : Hid (Below w.heap.size w w1) := (((Below.refl _ _).alloc (Nat.le_refl _) _).alloc (by simp) _).trans (hb.mono (by simp; omega))
      have Y1 := Has.below (Has.newAt (w.alloc _) _ (g := w.heap.size + 1) (by simp)) hb (by simp)
      clear hb
      have y0 := Has.cell Y1 0
      have y1 := Has.cell Y1 1
      have z1 := Has.lt Y1
      clear Y1
      simp at y0 y1
      go_wp2_with fail
      refine (chk_bad (F := F) (fun b hb => by have := HF.out b hb; omega) (HO.out.keep (Same.of_below B1.out HF.out)) GO.out).mono ?_
      rintro e w2 ⟨rfl, hb⟩
      have B2 : Hid (Below w.heap.size w w2) := B1.out.trans (hb.mono (by omega))
      clear hb
      go_wp2_with fail
      go_ret2
      exact ApPost.err R.out GO.out EL.out B2.out
  · have R : Hid (apC m o = chk m) := by show _ = _; unfold apC; rw [if_pos gm]
    have GM := hid gm
    clear gm
    go_enter Tryd.func16, Tryd.ntmps16
    go_wp2_with fail
    refine (chk_bad (F := F) (fun b hb => by have := HF.out b hb; simp; omega) ((HM.out.keep fun b hb => Below.heap_alloc _ _ _ (HF.out b hb)).keep fun b hb => Below.heap_alloc _ _ _ (by have := HF.out b hb; simp; omega)) GM.out).mono ?_
    rintro e w1 ⟨rfl, hb⟩
    have B1 : Hid (Below w.heap.size w w1) := (((Below.refl _ _).alloc (Nat.le_refl _) _).alloc (by simp) _).trans (hb.mono (by simp; omega))
    clear hb
    go_wp2_with fail
    go_ret2
    exact ApPost.err R.out GM.out EL.out B1.out
theorem apart_any (a b : MachD) (F : Nat → Prop) (mv ov : Value) (w : World) (hF : ∀ b, F b → b < w.heap.size) (hm : MachIn F w mv a) (ho : MachIn F w ov b) :
    Calls Tryd.prog 16 #[mv, ov] w (ApPost (apC a b) (apL a b) w) := by
  by_cases h : Good a ∧ Good b ∧ ins a = ins b
  · exact apart_ok a b F mv ov w hF hm ho h.1 h.2.1 h.2.2
  · exact apart_bad a b F mv ov w hF hm ho h
end Go.Proofs.YtkcggmhllijgcaaDoor
