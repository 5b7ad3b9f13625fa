/- What wset.Passes returns: the fault's number, or if both machines tell the same of all words. Condition: each word's cells take at most 2^47 bytes. -/
import Derived.Test.YtkcggmhllijgcaaDoorEql
import Derived.Test.YtkcggmhllijgcaaDoorMpr
import Derived.Deep.RegionHeld3
namespace Go.Proofs.YtkcggmhllijgcaaDoor
open Go.RowKit
def passFault (m o : MachD) (ws : List (List Int)) : Int :=
  if chk m ≠ 0 then chk m else if chk o ≠ 0 then chk o else if ins m ≠ ins o then 3 else if ∀ w ∈ ws, ∀ x ∈ w, 0 ≤ x ∧ x < (ins m : Int) then 0 else 1
def passVal (m o : MachD) (ws : List (List Int)) : Bool := ws.all fun w => decide (tells m 0 w = tells o 0 w)
theorem run_one (m : MachD) (s : Nat) (ws : List Int) (F : Nat → Prop) (v u : Value) (w : World) (hF : ∀ b, F b → b < w.heap.size) (h : MachIn F w v m) (hu : IntsIn .i64 F w u ws) (hz : ws.length * 8 ≤ 140737488355328) (g : Good m) (_hs : s < m.out.length) (hf : ¬ word m ws) :
    Calls Tryd.prog 14 #[v, .int .i64 s, u] w fun e w' => e = .returned (.tuple #[.slice none 0 0, .int .i64 0, .iface 33 (.int .i64 1)]) ∧ Below w.heap.size w w' := by
  have e : runFault m s ws = 1 := by
    unfold runFault
    rw [if_neg (by simp [good_chk g]), if_pos]
    exact .inr (.inr hf)
  refine (run_any m s ws F v u w hF h hu hz).mono ?_
  rintro e' w' ⟨h1, _, hb⟩
  have := h1 (by rw [e]; decide)
  rw [e] at this
  exact ⟨this, hb⟩
theorem pass_zero {m o : MachD} {ws : List (List Int)} (gm : Good m) (go : Good o) (hi : ins m = ins o) : passFault m o ws = 0 ↔ ∀ w ∈ ws, word m w := by
  unfold passFault
  rw [if_neg (by simp [good_chk gm]), if_neg (by simp [good_chk go]), if_neg (by simp [hi])]
  constructor
  · intro h
    split at h
    · assumption
    · simp at h
  · intro h; rw [if_pos (show ∀ w ∈ ws, ∀ x ∈ w, 0 ≤ x ∧ x < (ins m : Int) from h)]
theorem pass_one {m o : MachD} {ws : List (List Int)} (gm : Good m) (go : Good o) (hi : ins m = ins o) {w : List Int} (hw : w ∈ ws) (h : ¬ word m w) : passFault m o ws = 1 := by
  unfold passFault
  rw [if_neg (by simp [good_chk gm]), if_neg (by simp [good_chk go]), if_neg (by simp [hi]), if_neg]
  intro hh; exact h (hh w hw)
def PassPost (c : Int) (b : Bool) (w : World) (e : Ending) (w' : World) : Prop :=
  (c ≠ 0 → e = .returned (.tuple #[.bool false, .iface 33 (.int .i64 c)])) ∧ (c = 0 → e = .returned (.tuple #[.bool b, .nilIface])) ∧ Below w.heap.size w w'
theorem PassPost.err {c : Int} {b : Bool} {w w' : World} {d : Int} (h : c = d) (hd : d ≠ 0) (hb : Below w.heap.size w w') : PassPost c b w (.returned (.tuple #[.bool false, .iface 33 (.int .i64 d)])) w' := by
  subst h; exact ⟨fun _ => rfl, fun h => absurd h hd, hb⟩
theorem PassPost.ok {c : Int} {b d : Bool} {w w' : World} (h : c = 0) (hd : b = d) (hb : Below w.heap.size w w') : PassPost c b w (.returned (.tuple #[.bool d, .nilIface])) w' := by
  subst h hd; exact ⟨fun h => absurd rfl h, fun _ => rfl, hb⟩
theorem rows_take (ws : List (List Int)) (k : Nat) (h : k < ws.length) : ws.take (k + 1) = ws.take k ++ [rowAt ws k] := by
  rw [List.take_succ_eq_append_getElem h]; unfold rowAt; rw [List.getD_eq_getElem?_getD, List.getElem?_eq_getElem h]; rfl
theorem row_mem {ws : List (List Int)} {k : Nat} (h : k < ws.length) : rowAt ws k ∈ ws := by
  unfold rowAt; rw [List.getD_eq_getElem?_getD, List.getElem?_eq_getElem h]; exact List.getElem_mem _
set_option maxRecDepth 100000 in
set_option maxHeartbeats 1000000 in
theorem passes_main (m o : MachD) (ws : List (List Int)) (F : Nat → Prop) (mv ov wv : Value) (w : World) (hF : ∀ b, F b → b < w.heap.size) (hm : MachIn F w mv m) (ho : MachIn F w ov o) (hw : RowsIn F w wv ws) (hz : ∀ x ∈ ws, x.length * 8 ≤ 140737488355328)
    (gm : Good m) (go : Good o) (hi : ins m = ins o) :
    Calls Tryd.prog 20 #[mv, ov, wv] w (PassPost (passFault m o ws) (passVal m o ws) w) := by
  have HF := hid hF
  have HM := hid hm
  have HO := hid ho
  have HZ := hid hz
  have GM := hid gm
  have GO := hid go
  have HI := hid hi
  obtain ⟨o1, n1, rfl, ⟨A1, c1, rfl, l1, k1⟩, ⟨A2, c2, rfl, l2, _⟩⟩ := hm
  obtain ⟨o2, n2, rfl, ⟨A3, c3, rfl, l3, k3⟩, ⟨A4, c4, rfl, l4, _⟩⟩ := ho
  obtain ⟨b1, f1, rfl, hb1, k1'⟩ := k1 gm.pos
  obtain ⟨b3, f3, rfl, hb3, k3'⟩ := k3 go.pos
  obtain ⟨r1, q1, ⟨A5, c5, rfl, l5, _, _⟩⟩ := k1' 0 gm.pos
  obtain ⟨r3, q3, ⟨A6, c6, rfl, l6, _, _⟩⟩ := k3' 0 go.pos
  obtain ⟨A7, c7, rfl, l7, k7⟩ := hw
  have i1 : (rowAt m.out 0).length = ins m := rfl
  have i3 : (rowAt o.out 0).length = ins m := by rw [hi]; rfl
  rw [i1] at q1
  rw [i3] at q3
  simp only [Nat.add_zero] at q1 q3
  have m0 := gm.pos
  have m1 := gm.le
  have p0 := go.pos
  have p1 := go.le
  have s1 := hF b1 hb1
  have s3 := hF b3 hb3
  have K7 := hid k7
  have j0 : ((ins m : Int) != (ins m : Int)) = false := by simp
  unfold maxLen at l7
  clear k1 k3 k1' k3' k7 gm go hF hz hi i1 i3 l5 l6
  go_enter Tryd.func20, Tryd.ntmps20
  go_wp2_with fail
  refine (chk_ok (F := F) (fun b hb => by have := HF.out b hb; simp; omega) ((HM.out.keep fun b hb => Below.heap_alloc _ _ _ (HF.out b hb)).keep fun b hb => Below.heap_alloc _ _ _ (by have := HF.out b hb; simp; omega)) GM.out).mono ?_
  rintro e w1 ⟨rfl, hb⟩
  have B1 : Hid (Below w.heap.size w w1) := (((Below.refl _ _).alloc (Nat.le_refl _) _).alloc (by simp) _).trans (hb.mono (by simp; omega))
  have X1 := Has.below (Has.alloc (Has.new w _) _) hb (by simp; omega)
  have Y1 := Has.below (Has.newAt (w.alloc _) _ (g := w.heap.size + 1) (by simp)) hb (by simp)
  clear hb
  have x0 := Has.cell X1 0
  have x1 := Has.cell X1 1
  have y0 := Has.cell Y1 0
  have y1 := Has.cell Y1 1
  have z1 := Has.lt Y1
  have HX1 := hid X1
  have HY1 := hid Y1
  clear X1 Y1
  simp at x0 x1 y0 y1
  go_wp2_with fail
  refine (chk_ok (F := F) (fun b hb => by have := HF.out b hb; omega) (HO.out.keep (Same.of_below B1.out HF.out)) GO.out).mono ?_
  rintro e w2 ⟨rfl, hb⟩
  have B2 : Hid (Below w.heap.size w w2) := B1.out.trans (hb.mono (by omega))
  have X2 := Has.below HX1.out hb (by omega)
  have Y2 := Has.below HY1.out hb z1
  have z2 : w1.heap.size ≤ w2.heap.size := hb.size
  clear hb x0 x1 y0 y1
  have x0 := Has.cell X2 0
  have x1 := Has.cell X2 1
  have y0 := Has.cell Y2 0
  have y1 := Has.cell Y2 1
  have HX2 := hid X2
  have HY2 := hid Y2
  clear X2 Y2
  simp at x0 x1 y0 y1
  have q1' := (B2.out.cell (p := ⟨b1, f1, none⟩) s1).trans q1
  have q3' := (B2.out.cell (p := ⟨b3, f3, none⟩) s3).trans q3
  clear q1 q3
  go_upto_region 7 with fail
  go_cut [38] from 28 to 38 (fun c wx => c = .bool false ∧ ∃ q, wx = w2.drewN q)
  case first =>
    go_quiet (fail)
    go_wp2_with fail
    go_meet
    exact ⟨rfl, _, rfl⟩
  case rest =>
    obtain ⟨rfl, q, rfl⟩ := hcut
    clear q1' q3' j0
    go_wp2_with fail
    go_loopw [10, 42] (fun al i wr => ∃ j : Nat, j ≤ ws.length ∧ i = .int .i64 j ∧ al = .bool (passVal m o (ws.take j)) ∧ Hid (∀ x ∈ ws.take j, word m x) ∧ Hid (Below w.heap.size w wr) ∧ Hid (wr.heap[w.heap.size]? = w2.heap[w.heap.size]?) ∧ Hid (wr.heap[w.heap.size + 1]? = w2.heap[w.heap.size + 1]?)) (fun _ i _ => ws.length - (intOf i).toNat)
    case atStart => exact ⟨0, Nat.zero_le _, rfl, rfl, fun x hx => by simp at hx, below_drewN B2.out q, rfl, rfl⟩
    case round =>
      obtain ⟨j, hj, rfl, rfl, hwd, hB, hX, hY⟩ := hrel
      have X3 : wr.heap[w.heap.size]? = _ := hX.out.trans HX2.out
      have Y3 : wr.heap[w.heap.size + 1]? = _ := hY.out.trans HY2.out
      clear x0 x1 y0 y1
      have x0 := Has.cell X3 0
      have x1 := Has.cell X3 1
      have y0 := Has.cell Y3 0
      have y1 := Has.cell Y3 1
      have z3 := Has.lt Y3
      have HX3 := hid X3
      have HY3 := hid Y3
      clear X3 Y3
      simp at x0 x1 y0 y1
      by_cases hlt : j < ws.length
      · obtain ⟨b7, f7, rfl, hb7, k7⟩ := K7.out (by omega)
        obtain ⟨r7, q7, i7⟩ := k7 j hlt
        have s7 := HF.out b7 hb7
        have q7' := (hB.out.cell (p := ⟨b7, f7 + j, none⟩) s7).trans q7
        have I7 := hid (i7.keep (Same.of_below hB.out HF.out))
        have HW := hid (rows_take ws j hlt)
        obtain ⟨A8, c8, rfl, _, _, _⟩ := i7
        have ZL : Hid ((rowAt ws j).length * 8 ≤ 140737488355328) := HZ.out _ (row_mem hlt)
        clear k7 q7
        have g1 : ∀ b, F b → b < wr.heap.size := fun b hb => by have := HF.out b hb; omega
        have G1 := hid g1
        clear g1
        by_cases hword : word m (rowAt ws j)
        · have HWD := hid hword
          clear hword
          go_wp2_with fail
          refine (run_ok m 0 (rowAt ws j) F _ _ _ G1.out (HM.out.keep (Same.of_below hB.out HF.out)) I7.out ZL.out (fault_zero.2 ⟨GM.out, by omega, by have := GM.out.pos; omega, HWD.out⟩)).mono ?_
          rintro e w3 ⟨r9, rfl, J9, hb⟩
          have B3 : Hid (Below w.heap.size w w3) := hB.out.trans (hb.mono (by omega))
          have X4 := Has.below HX3.out hb (by omega)
          have Y4 := Has.below HY3.out hb (by omega)
          have z4 : wr.heap.size ≤ w3.heap.size := hb.size
          have I8 := hid (I7.out.keep (Same.of_below hb fun b hb => G1.out b hb))
          clear hb x0 x1 y0 y1 q7'
          have y0 := Has.cell Y4 0
          have y1 := Has.cell Y4 1
          have HX4 := hid X4
          have HY4 := hid Y4
          clear X4 Y4
          simp at y0 y1
          go_wp2_with fail
          refine (run_ok o 0 (rowAt ws j) F _ _ _ (fun b hb => by have := G1.out b hb; omega) (HO.out.keep (Same.of_below B3.out HF.out)) I8.out ZL.out (fault_zero.2 ⟨GO.out, by omega, by have := GO.out.pos; omega, fun x hx => by have := HWD.out x hx; unfold letter at *; rw [← HI.out]; exact this⟩)).mono ?_
          rintro e w4 ⟨r10, rfl, J10, hb⟩
          have B4 : Hid (Below w.heap.size w w4) := B3.out.trans (hb.mono (by omega))
          have X5 := hid (Has.below HX4.out hb (by omega))
          have Y5 := hid (Has.below HY4.out hb (by omega))
          have z5 : w3.heap.size ≤ w4.heap.size := hb.size
          have J9' := hid ((J9.out.keep (Same.of_below hb fun b hb => hb.2)).more (F' := fun b => b < w4.heap.size) fun b hb => by have := hb.2; omega)
          have J10' := hid (J10.out.more (F' := fun b => b < w4.heap.size) fun b hb => hb.2)
          clear hb y0 y1
          have PV : Hid (passVal m o (ws.take (j + 1)) = (passVal m o (ws.take j) && decide (tells m 0 (rowAt ws j) = tells o 0 (rowAt ws j)))) := by
            show _ = _; rw [HW.out]; simp [passVal]
          have WD : Hid (∀ x ∈ ws.take (j + 1), word m x) := by
            rw [HW.out]; intro x hx
            rcases List.mem_append.1 hx with hx | hx
            · exact hwd.out x hx
            · simp at hx; subst hx; exact HWD.out
          cases hall : passVal m o (ws.take j) with
          | true =>
            have HA := hid hall
            clear hall
            go_wp2_with fail
            refine (equal_any _ _ _ _ _ _ J9'.out J10'.out).mono ?_
            rintro e w5 ⟨rfl, q2, rfl⟩
            have PV2 : Hid (passVal m o (ws.take (j + 1)) = decide (tells m 0 (rowAt ws j) = tells o 0 (rowAt ws j))) := by show _ = _; rw [PV.out, HA.out, Bool.true_and]
            generalize hd : decide (tells m 0 (rowAt ws j) = tells o 0 (rowAt ws j)) = d at *
            clear hd
            go_wp2_with fail
            go_roundw
            case rel => exact ⟨j + 1, by omega, by go_num, by rw [PV2.out], WD, below_drewN B4.out _, X5.out.trans HX2.out.symm, Y5.out.trans HY2.out.symm⟩
            case measure => simp [intOf]; omega
          | false =>
            have PV2 : Hid (passVal m o (ws.take (j + 1)) = false) := by show _ = _; rw [PV.out, hall, Bool.false_and]
            clear hall
            go_wp2_with fail
            go_roundw
            case rel => exact ⟨j + 1, by omega, by go_num, by rw [PV2.out], WD, B4.out, X5.out.trans HX2.out.symm, Y5.out.trans HY2.out.symm⟩
            case measure => simp [intOf]; omega
        · have HWD := hid hword
          clear hword
          go_wp2_with fail
          refine (run_one m 0 (rowAt ws j) F _ _ _ G1.out (HM.out.keep (Same.of_below hB.out HF.out)) I7.out ZL.out GM.out (by have := GM.out.pos; omega) HWD.out).mono ?_
          rintro e w3 ⟨rfl, hb⟩
          have B3 : Hid (Below w.heap.size w w3) := hB.out.trans (hb.mono (by omega))
          clear hb
          go_wp2_with fail
          go_ret2
          exact PassPost.err (pass_one GM.out GO.out HI.out (row_mem hlt) HWD.out) (by decide) B3.out
      · obtain rfl : j = ws.length := by omega
        have hwd2 := hwd.out
        rw [List.take_length] at hwd2
        have Z := hid ((pass_zero GM.out GO.out HI.out).2 hwd2)
        have E := hid (List.take_length (l := ws))
        clear hwd2 hwd
        go_wp2_with fail
        go_ret2
        exact PassPost.ok Z.out (by rw [E.out]) hB.out
set_option maxRecDepth 100000 in
set_option maxHeartbeats 1000000 in
theorem passes_bad (m o : MachD) (ws : List (List Int)) (F : Nat → Prop) (mv ov wv : Value) (w : World) (hF : ∀ b, F b → b < w.heap.size) (hm : MachIn F w mv m) (ho : MachIn F w ov o) (hw : RowsIn F w wv ws) 
    (hbad : ¬ (Good m ∧ Good o ∧ ins m = ins o)) :
    Calls Tryd.prog 20 #[mv, ov, wv] w (PassPost (passFault m o ws) (passVal m o ws) w) := by
  have HF := hid hF
  have HM := hid hm
  have HO := hid ho
  obtain ⟨o1, n1, rfl, h1, ⟨A2, c2, rfl, l2, _⟩⟩ := hm
  obtain ⟨o2, n2, rfl, h3, ⟨A4, c4, rfl, l4, _⟩⟩ := ho
  have H1 := hid h1
  have H3 := hid h3
  obtain ⟨A1, c1, rfl, l1, _⟩ := h1
  obtain ⟨A3, c3, rfl, l3, _⟩ := h3
  obtain ⟨A7, c7, rfl, l7, _⟩ := hw
  have HB := hid hbad
  clear hF hbad l1 l2 l3 l4 l7
  by_cases gm : chk m = 0
  · have GM := hid gm
    clear gm
    by_cases go : chk o = 0
    · have GO := hid go
      clear go
      have hi : ins m ≠ ins o := fun h => HB.out ⟨chk_good GM.out, chk_good GO.out, h⟩
      have R : Hid (passFault m o ws = 3) := by show _ = _; unfold passFault; rw [if_neg (by simp [GM.out]), if_neg (by simp [GO.out]), if_pos hi]
      have j0 : ((ins m : Int) != (ins o : Int)) = true := by simp; omega
      clear hi
      obtain ⟨_, _, e1, _, k1⟩ := H1.out
      obtain ⟨_, _, e3, _, k3⟩ := H3.out
      obtain ⟨b1, f1, r1, hb1, k1'⟩ := k1 (chk_good GM.out).pos
      obtain ⟨b3, f3, r3, hb3, k3'⟩ := k3 (chk_good GO.out).pos
      injection e1 with e1 _ e1c
      injection e3 with e3 _ e3c
      subst e1 e3 e1c e3c
      subst r1 r3
      obtain ⟨r1, q1, ⟨A5, c5, rfl, l5, _, _⟩⟩ := k1' 0 (chk_good GM.out).pos
      obtain ⟨r3, q3, ⟨A6, c6, rfl, l6, _, _⟩⟩ := k3' 0 (chk_good GO.out).pos
      have i1 : (rowAt m.out 0).length = ins m := rfl
      have i3 : (rowAt o.out 0).length = ins o := rfl
      rw [i1] at q1
      rw [i3] at q3
      simp only [Nat.add_zero] at q1 q3
      have m0 := (chk_good GM.out).pos
      have m1 := (chk_good GM.out).le
      have p0 := (chk_good GO.out).pos
      have p1 := (chk_good GO.out).le
      have s1 := HF.out b1 hb1
      have s3 := HF.out b3 hb3
      have i6 : ((ins m : Nat) : Int) ≤ 3 := by have := (chk_good GM.out).ins3; omega
      have i7 : ((ins o : Nat) : Int) ≤ 3 := by have := (chk_good GO.out).ins3; omega
      clear k1 k3 k1' k3' i1 i3 l5 l6
      go_enter Tryd.func20, Tryd.ntmps20
      go_wp2_with fail
      refine (chk_ok (F := F) (fun b hb => by have := HF.out b hb; simp; omega) ((HM.out.keep fun b hb => Below.heap_alloc _ _ _ (HF.out b hb)).keep fun b hb => Below.heap_alloc _ _ _ (by have := HF.out b hb; simp; omega)) (chk_good GM.out)).mono ?_
      rintro e w1 ⟨rfl, hb⟩
      have B1 : Hid (Below w.heap.size w w1) := (((Below.refl _ _).alloc (Nat.le_refl _) _).alloc (by simp) _).trans (hb.mono (by simp; omega))
      have X1 := Has.below (Has.alloc (Has.new w _) _) hb (by simp; omega)
      have Y1 := Has.below (Has.newAt (w.alloc _) _ (g := w.heap.size + 1) (by simp)) hb (by simp)
      clear hb
      have x0 := Has.cell X1 0
      have x1 := Has.cell X1 1
      have y0 := Has.cell Y1 0
      have y1 := Has.cell Y1 1
      have z1 := Has.lt Y1
      have HX1 := hid X1
      have HY1 := hid Y1
      clear X1 Y1
      simp at x0 x1 y0 y1
      go_wp2_with fail
      refine (chk_ok (F := F) (fun b hb => by have := HF.out b hb; omega) (HO.out.keep (Same.of_below B1.out HF.out)) (chk_good GO.out)).mono ?_
      rintro e w2 ⟨rfl, hb⟩
      have B2 : Hid (Below w.heap.size w w2) := B1.out.trans (hb.mono (by omega))
      have X2 := Has.below HX1.out hb (by omega)
      have Y2 := Has.below HY1.out hb z1
      clear hb x0 x1 y0 y1
      have x0 := Has.cell X2 0
      have y0 := Has.cell Y2 0
      clear X2 Y2
      simp at x0 y0
      have q1' := (B2.out.cell (p := ⟨b1, f1, none⟩) s1).trans q1
      have q3' := (B2.out.cell (p := ⟨b3, f3, none⟩) s3).trans q3
      clear q1 q3
      go_upto_region 7 with fail
      go_cut [38] from 28 to 38 (fun c wx => c = .bool true ∧ ∃ q, wx = w2.drewN q)
      case first =>
        go_quiet (fail)
        go_wp2_with fail
        go_meet
        exact ⟨rfl, _, rfl⟩
      case rest =>
        obtain ⟨rfl, q, rfl⟩ := hcut
        clear q1' q3' j0
        go_wp2_with fail
        go_ret2
        exact PassPost.err R.out (by decide) (below_drewN B2.out q)
    · have R : Hid (passFault m o ws = chk o) := by show _ = _; unfold passFault; rw [if_neg (by simp [GM.out]), if_pos go]
      have GO := hid go
      clear go
      go_enter Tryd.func20, Tryd.ntmps20
      go_wp2_with fail
      refine (chk_ok (F := F) (fun b hb => by have := HF.out b hb; simp; omega) ((HM.out.keep fun b hb => Below.heap_alloc _ _ _ (HF.out b hb)).keep fun b hb => Below.heap_alloc _ _ _ (by have := HF.out b hb; simp; omega)) (chk_good GM.out)).mono ?_
      rintro e w1 ⟨rfl, hb⟩
      have B1 : Hid (Below w.heap.size w w1) := (((Below.refl _ _).alloc (Nat.le_refl _) _).alloc (by simp) _).trans (hb.mono (by simp; omega))
      have Y1 := Has.below (Has.newAt (w.alloc _) _ (g := w.heap.size + 1) (by simp)) hb (by simp)
      clear hb
      have y0 := Has.cell Y1 0
      have y1 := Has.cell Y1 1
      have z1 := Has.lt Y1
      clear Y1
      simp at y0 y1
      go_wp2_with fail
      refine (chk_bad (F := F) (fun b hb => by have := HF.out b hb; omega) (HO.out.keep (Same.of_below B1.out HF.out)) GO.out).mono ?_
      rintro e w2 ⟨rfl, hb⟩
      have B2 : Hid (Below w.heap.size w w2) := B1.out.trans (hb.mono (by omega))
      clear hb
      go_wp2_with fail
      go_ret2
      exact PassPost.err R.out GO.out B2.out
  · have R : Hid (passFault m o ws = chk m) := by show _ = _; unfold passFault; rw [if_pos gm]
    have GM := hid gm
    clear gm
    go_enter Tryd.func20, Tryd.ntmps20
    go_wp2_with fail
    refine (chk_bad (F := F) (fun b hb => by have := HF.out b hb; simp; omega) ((HM.out.keep fun b hb => Below.heap_alloc _ _ _ (HF.out b hb)).keep fun b hb => Below.heap_alloc _ _ _ (by have := HF.out b hb; simp; omega)) GM.out).mono ?_
    rintro e w1 ⟨rfl, hb⟩
    have B1 : Hid (Below w.heap.size w w1) := (((Below.refl _ _).alloc (Nat.le_refl _) _).alloc (by simp) _).trans (hb.mono (by simp; omega))
    clear hb
    go_wp2_with fail
    go_ret2
    exact PassPost.err R.out GM.out B1.out
theorem passes_any (m o : MachD) (ws : List (List Int)) (F : Nat → Prop) (mv ov wv : Value) (w : World) (hF : ∀ b, F b → b < w.heap.size) (hm : MachIn F w mv m) (ho : MachIn F w ov o) (hw : RowsIn F w wv ws) (hz : ∀ x ∈ ws, x.length * 8 ≤ 140737488355328) :
    Calls Tryd.prog 20 #[mv, ov, wv] w (PassPost (passFault m o ws) (passVal m o ws) w) := by
  by_cases hg : chk m = 0 ∧ chk o = 0 ∧ ins m = ins o
  · exact passes_main m o ws F mv ov wv w hF hm ho hw hz (chk_good hg.1) (chk_good hg.2.1) hg.2.2
  · exact passes_bad m o ws F mv ov wv w hF hm ho hw (fun h => hg ⟨good_chk h.1, good_chk h.2.1, h.2.2⟩)
end Go.Proofs.YtkcggmhllijgcaaDoor
