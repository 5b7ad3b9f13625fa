/- What pairs.next returns: the next row, in a block of its own. Conditions: levels that Check lets pass; some pairs of theirs are missing. -/
import Derived.Test.YtkiljnggphlomaaDoorPnw
namespace Go.Proofs.YtkiljnggphlomaaDoor
open Go.RowKit Go.Deep
set_option maxRecDepth 100000 in
set_option maxHeartbeats 4000000 in
theorem next_any (l : List Int) (op : List Four) (F : Nat → Prop) (v u : Value) (w : World) (hF : ∀ b, F b → b < w.heap.size) (hv : IntsIn .i64 F w v l) (hu : QuadsIn F w u op) (hok : LevOk l) (ho : 0 < op.length) (hol : op.length ≤ 3600) (hoq : ∀ p ∈ op, p ∈ allP l) :
    Calls Tryd.prog 47 #[v, u] w fun e w' => ∃ r, e = .returned (.slice (some ⟨r, 0, none⟩) l.length l.length) ∧ w.heap.size ≤ r ∧ RowAt w' r (nextP l op) ∧ Below w.heap.size w w' := by
  have HF := hid hF
  have HV := hid hv
  have HQ := hid hoq
  have OK := hid hok
  obtain ⟨A, c, rfl, hl1, _, h3⟩ := hv
  obtain ⟨A2, c2, rfl, hl2, h4⟩ := hu
  have hp0 : Hid (qAt op 0 ∈ allP l) := hoq _ (qAt_mem ho)
  obtain ⟨pa, px, pb, py, hp, pab, pbl, pxl, pyl⟩ := mem_allP.1 hp0.out
  have HP := hid hp
  have ln : 1 ≤ l.length ∧ l.length ≤ 12 := ⟨by omega, hok.len⟩
  obtain ⟨b, o, rfl, hb, hc⟩ := h3 (by omega)
  obtain ⟨b2, o2, rfl, hb2, hq⟩ := h4 ho
  have HC := hid hc
  have HQC := hid hq
  have lb := hF b hb
  have lb2 := hF b2 hb2
  have pq := hq 0 ho
  rw [hp] at pq
  simp only [Nat.zero_mul, Nat.add_zero] at pq
  have i0 : (0 : Int) < (op.length : Int) := by omega
  have SL := hid (seedP_length l (qAt op 0))
  have SO := hid (seedP_ok hok hp0.out)
  clear hF hok hoq h3 h4 hc hq hl1 hl2 hb hb2 hp
  have X := Has.new w (.cells #[.int .i64 (-1)] 3)
  have X0 := hid ((Has.cell X 0).trans rfl)
  have BX := hid ((Below.refl w.heap.size w).alloc (Nat.le_refl _) (.cells #[.int .i64 (-1)] 3))
  clear X
  go_enter Tryd.func47, Tryd.ntmps47
  go_wp2_with fail
  refine (repeat_any (-1) l.length ln.1 (by omega) w.heap.size 1 _ X0.out).mono ?_
  rintro e w1 ⟨rfl, hR, hB⟩
  simp only [World.size_alloc] at hR hB ⊢
  obtain ⟨r, hr⟩ : ∃ r, r = w.heap.size + 1 := ⟨_, rfl⟩
  rw [← hr] at hR ⊢
  have R1 : Hid (RowAt w1 r (List.replicate l.length (-1))) := hR
  have B1 := hid (BX.out.trans (hB.mono (by omega)))
  have s1 := hB.size
  have lr := R1.out.lt
  have q0 := (B1.out.cell (p := ⟨b2, o2, none⟩) lb2).trans pq.1
  have q1 := (B1.out.cell (p := ⟨b2, o2 + 1, none⟩) lb2).trans pq.2.1
  have q2 := (B1.out.cell (p := ⟨b2, o2 + 2, none⟩) lb2).trans pq.2.2.1
  have q3 := (B1.out.cell (p := ⟨b2, o2 + 3, none⟩) lb2).trans pq.2.2.2
  clear hR hB pq BX X0
  have HRR := hid hr
  have rge : w.heap.size ≤ r := by omega
  have lr2 : r < w1.heap.size := lr
  clear hr s1
  go_upto_region 3 with fail
  obtain ⟨w2, hw2⟩ : ∃ w2, w2 = w1.alloc (.cells #[.int .i64 (pa : Int), .int .i64 (px : Int), .int .i64 (pb : Int), .int .i64 (py : Int)] 118) := ⟨_, rfl⟩
  have Y : w2.heap[w1.heap.size]? = some (.cells #[.int .i64 (pa : Int), .int .i64 (px : Int), .int .i64 (pb : Int), .int .i64 (py : Int)] 118 (0, 0)) := by rw [hw2]; exact Has.new w1 _
  have R2 : Hid (RowAt w2 r (List.replicate l.length (-1))) := by show RowAt _ _ _; rw [hw2]; exact R1.out.alloc _
  have B2 : Hid (Below w.heap.size w w2) := by show Below _ _ _; rw [hw2]; exact B1.out.alloc (by omega) _
  have y0 := (Has.cell Y 0).trans rfl
  have y1 := (Has.cell Y 1).trans rfl
  have y2 := (Has.cell Y 2).trans rfl
  have y3 := (Has.cell Y 3).trans rfl
  have RL : Hid ((List.replicate l.length (-1 : Int)).length = l.length) := List.length_replicate
  have r0 := R2.out.cell (i := pa) (by rw [RL.out]; omega)
  have r1 := R2.out.cell (i := pb) (by rw [RL.out]; omega)
  have f0 := R2.out.froz pa
  have f1 := R2.out.froz pb
  generalize at0 (List.replicate l.length (-1)) pa = z0 at r0
  generalize at0 (List.replicate l.length (-1)) pb = z1 at r1
  have pl1 : (pa : Int) < (l.length : Int) := by omega
  have pl2 : (pb : Int) < (l.length : Int) := by omega
  have pne : ¬ pa = pb := by omega
  have pne2 : ¬ pb = pa := by omega
  have S2 : Hid (w2.heap.size = w1.heap.size + 1) := by show _ = _; rw [hw2]; simp
  have LR : Hid (r < w1.heap.size) := lr
  rw [← hw2]
  clear hw2 Y R1 B1 lr
  go_region
  obtain ⟨w3, hw3⟩ : ∃ w3, w3 = ((w2.setCell ⟨r, pa, none⟩ (.int .i64 (px : Int))).setCell ⟨r, pb, none⟩ (.int .i64 (py : Int))).drew := ⟨_, rfl⟩
  obtain ⟨sd, hsd⟩ : ∃ sd, sd = seedP l (qAt op 0) := ⟨_, rfl⟩
  have R3 : Hid (RowAt w3 r sd) := by
    show RowAt _ _ _
    rw [hw3, hsd, HP.out]
    exact (R2.out.set pa (px : Int)).set pb (py : Int)
  have B3 : Hid (Below w.heap.size w w3) := by
    show Below _ _ _
    rw [hw3]
    exact ((B2.out.setCell rge _).setCell rge _).drew
  rw [← hsd] at SL SO
  have HSD := hid hsd
  rw [← hw3]
  clear hw3 hsd r0 r1 f0 f1 y0 y1 y2 y3 q0 q1 q2 q3 R2 B2 HP hp0 pab pbl pxl pyl pne pne2 pl1 pl2 RL S2 LR lr2 i0
  go_wp2_with fail
  go_loopw [35] (fun ai wr => ∃ a : Nat, a ≤ l.length ∧ ai = .int .i64 a ∧ Hid (RowAt wr r (fillP l op a sd)) ∧ Hid (Below w.heap.size w wr)) (fun ai _ => l.length - (intOf ai).toNat)
  case atStart => exact ⟨0, Nat.zero_le _, rfl, R3, B3⟩
  case round =>
    clear R3 B3
    obtain ⟨a, ha, rfl, hR, hB⟩ := hrel
    by_cases hlt : a < l.length
    · obtain ⟨ra, hra⟩ : ∃ ra, ra = fillP l op a sd := ⟨_, rfl⟩
      rw [← hra] at hR
      have HRA := hid hra
      have LA : Hid (ra.length = l.length) := by show _ = _; rw [hra, fillP_length, SL.out]
      have RO : Hid (rowOk ra) := by show rowOk _; rw [hra]; exact fillP_ok OK.out op a SO.out
      clear hra
      have c0 := hR.out.cell (i := a) (by rw [LA.out]; exact hlt)
      have i1 : (a : Int) < (l.length : Int) := by omega
      obtain ⟨z, hz⟩ : ∃ z, z = at0 ra a := ⟨_, rfl⟩
      have HZ := hid hz
      rw [← hz] at c0
      clear hz
      by_cases hz0 : 0 ≤ z
      · have NX : Hid (fillP l op (a + 1) sd = ra) := by
          show _ = _
          rw [fillP_skip (by rw [← HRA.out, ← HZ.out]; exact hz0), HRA.out]
        rw [← NX.out] at hR
        have hR9 := hid hR.out
        have d0 : decide (0 ≤ z) = true := by simpa using hz0
        clear hR
        go_wp2_with fail
        go_roundw
        case rel => exact ⟨a + 1, by omega, by go_num, hR9, hB⟩
        case measure => simp [intOf]; omega
      · have d0 : decide (0 ≤ z) = false := by simp; omega
        have c1 := (hB.out.cell (p := ⟨b, o + a, none⟩) lb).trans (HC.out a hlt)
        have LV := lvl_at OK.out hlt
        rw [LV.1] at c1
        have la5 := LV.2
        obtain ⟨na, hna⟩ : ∃ na, na = lvl l a := ⟨_, rfl⟩
        rw [← hna] at c1 la5
        have NX : Hid (fillP l op (a + 1) sd = ra.set a (bestP ra a op na).1) := by
          show _ = _
          rw [fillP_do (by rw [← HRA.out, ← HZ.out]; exact hz0), ← HRA.out, ← hna]
        have z9 : z < 0 := by omega
        clear hna LV hz0
        go_wp2_with fail
        go_loopw [8, 9, 47] (fun bi mi xi wr => ∃ x : Nat, x ≤ na ∧ bi = .int .i64 (bestP ra a op x).1 ∧ mi = .int .i64 (bestP ra a op x).2 ∧ xi = .int .i64 x ∧ Hid (∃ r', RowAt wr r r' ∧ r'.length = l.length ∧ ∀ y, r'.set a y = ra.set a y) ∧ Hid (Below w.heap.size w wr)) (fun _ _ xi _ => na - (intOf xi).toNat)
        case atStart => exact ⟨0, Nat.zero_le _, rfl, rfl, rfl, ⟨ra, hR.out, LA.out, fun _ => rfl⟩, hB⟩
        case round =>
          clear hR hB c0 c1
          obtain ⟨x, hx, rfl, rfl, rfl, hS, hB⟩ := hrel
          obtain ⟨r', hR', hl', hs'⟩ := hS.out
          have HR' := hid hR'
          have HS' := hid hs'
          have c0 := hR'.cell (i := a) (by rw [hl']; exact hlt)
          have f0 := hR'.froz a
          generalize at0 r' a = z' at c0
          obtain ⟨bx, hbx⟩ : ∃ bx, bx = bestP ra a op x := ⟨_, rfl⟩
          have HBX := hid hbx
          have BL := bestP_lo ra a op x
          rw [← hbx] at BL ⊢
          obtain ⟨best, most⟩ := bx
          simp only [] at BL ⊢
          clear hS hR' hs' hbx
          by_cases hxt : x < na
          · have i2 : (x : Int) < (na : Int) := by omega
            have LX : Hid ((ra.set a (x : Int)).length = l.length) := by show _ = _; rw [List.length_set]; exact LA.out
            have ROX : Hid (rowOk (ra.set a (x : Int))) := RO.out.set a (by omega) (by omega)
            obtain ⟨rx, hrx⟩ : ∃ rx, rx = ra.set a (x : Int) := ⟨_, rfl⟩
            have HRX := hid hrx
            rw [← hrx] at LX ROX
            have RX : Hid (RowAt (wr.setCell ⟨r, a, none⟩ (.int .i64 (x : Int))) r rx) := by
              show RowAt _ _ _
              rw [hrx, ← HS'.out]; exact HR'.out.set a _
            have BX : Hid (Below w.heap.size w (wr.setCell ⟨r, a, none⟩ (.int .i64 (x : Int)))) := hB.out.setCell rge _
            clear hrx
            go_wp2_with fail
            go_loopw [11, 56] (fun ni ki wr => ∃ k : Nat, k ≤ op.length ∧ ni = .int .i64 ((cntP rx a (op.take k) : Nat) : Int) ∧ ki = .int .i64 k ∧ Hid (RowAt wr r rx) ∧ Hid (Below w.heap.size w wr)) (fun _ ki _ => op.length - (intOf ki).toNat)
            case atStart => exact ⟨0, Nat.zero_le _, rfl, rfl, RX, BX⟩
            case round =>
              clear RX BX hB c0 f0 HR' HS' hl'
              obtain ⟨k, hk, rfl, rfl, hRX, hBX⟩ := hrel
              by_cases hkt : k < op.length
              · have q0 := (hBX.out.cell (p := ⟨b2, o2 + k * 4, none⟩) lb2).trans (HQC.out k hkt).1
                have q1 := (hBX.out.cell (p := ⟨b2, o2 + k * 4 + 1, none⟩) lb2).trans (HQC.out k hkt).2.1
                have q2 := (hBX.out.cell (p := ⟨b2, o2 + k * 4 + 2, none⟩) lb2).trans (HQC.out k hkt).2.2.1
                have q3 := (hBX.out.cell (p := ⟨b2, o2 + k * 4 + 3, none⟩) lb2).trans (HQC.out k hkt).2.2.2
                obtain ⟨qa, qx, qb, qy, hq, qab, qbl, qxl, qyl⟩ := mem_allP.1 (HQ.out _ (qAt_mem hkt))
                rw [hq] at q0 q1 q2 q3
                simp only [] at q0 q1 q2 q3
                have HQQ := hid hq
                have i4 : (k : Int) < (op.length : Int) := by omega
                have IX := hid (hRX.out.ints ROX.out.wf (by rw [LX.out]; unfold maxLen; omega))
                rw [LX.out] at IX
                have SB := hBX.out.size
                have rlt := hRX.out.lt
                have CL : cntP rx a (op.take k) ≤ 3600 := by have := cntP_le rx a (op.take k); rw [List.length_take] at this; omega
                have HH : Hid (QOk rx.length ((qa : Int), (qx : Int), (qb : Int), (qy : Int))) := by rw [LX.out]; exact ⟨qa, qx, qb, qy, rfl, by omega, qbl⟩
                obtain ⟨wo, hwo⟩ : ∃ wo, wo = wr := ⟨_, rfl⟩
                subst hwo
                have BA := hid (hBX.out.alloc SB (.cells #[.int .i64 (qa : Int), .int .i64 (qx : Int), .int .i64 (qb : Int), .int .i64 (qy : Int)] 118))
                have RA := hid (hRX.out.alloc (.cells #[.int .i64 (qa : Int), .int .i64 (qx : Int), .int .i64 (qb : Int), .int .i64 (qy : Int)] 118))
                have IA := hid (IX.out.keep (w' := wo.alloc (.cells #[.int .i64 (qa : Int), .int .i64 (qx : Int), .int .i64 (qb : Int), .int .i64 (qy : Int)] 118)) (fun b hb => Below.heap_alloc _ _ _ (by rw [hb]; exact rlt)))
                clear hq qxl qyl hRX hBX IX
                by_cases qea : qa = a
                · replace qea := qea.symm
                  subst qea
                  have z1 : ((a : Int) == (a : Int)) = true := by simp
                  have z2 : decide ((a : Int) = (a : Int)) = true := by simp
                  go_wp2_with fail
                  refine (has_any rx ((a : Int), (qx : Int), (qb : Int), (qy : Int)) (fun b => b = r) _ _ (fun b hb => by subst hb; simp; omega) IA.out HH.out).mono ?_
                  rintro e w5 ⟨rfl, hb5⟩
                  have B5 := hid (BA.out.trans (hb5.mono (by simp; omega)))
                  have R5 := hid (RA.out.below hb5 (by simp; omega))
                  clear hb5
                  by_cases hh : hasP rx ((a : Int), (qx : Int), (qb : Int), (qy : Int)) = true
                  · have CY : Hid (cntP rx a (op.take (k + 1)) = cntP rx a (op.take k) + 1) := cntP_yes hkt (by rw [HQQ.out]; simp [hh])
                    rw [hh]
                    clear hh q0 q1 q2 q3
                    go_wp2_with fail
                    go_roundw
                    case rel => exact ⟨k + 1, by omega, by rw [CY.out]; go_num, by go_num, R5, B5⟩
                    case measure => simp [intOf]; omega
                  · have hh' : hasP rx ((a : Int), (qx : Int), (qb : Int), (qy : Int)) = false := by simpa using hh
                    have CY : Hid (cntP rx a (op.take (k + 1)) = cntP rx a (op.take k)) := cntP_no hkt (by rw [HQQ.out]; simp [hh'])
                    rw [hh']
                    clear hh hh' q0 q1 q2 q3
                    go_wp2_with fail
                    go_roundw
                    case rel => exact ⟨k + 1, by omega, by rw [CY.out], by go_num, R5, B5⟩
                    case measure => simp [intOf]; omega
                · have z1 : ((qa : Int) == (a : Int)) = false := by simp; omega
                  have z2 : decide ((qa : Int) = (a : Int)) = false := by simp; omega
                  by_cases qeb : qb = a
                  · replace qeb := qeb.symm
                    subst qeb
                    have z3 : ((a : Int) == (a : Int)) = true := by simp
                    have z4 : decide ((a : Int) = (a : Int)) = true := by simp
                    go_wp2_with fail
                    refine (has_any rx ((qa : Int), (qx : Int), (a : Int), (qy : Int)) (fun b => b = r) _ _ (fun b hb => by subst hb; simp; omega) IA.out HH.out).mono ?_
                    rintro e w5 ⟨rfl, hb5⟩
                    have B5 := hid (BA.out.trans (hb5.mono (by simp; omega)))
                    have R5 := hid (RA.out.below hb5 (by simp; omega))
                    clear hb5
                    by_cases hh : hasP rx ((qa : Int), (qx : Int), (a : Int), (qy : Int)) = true
                    · have CY : Hid (cntP rx a (op.take (k + 1)) = cntP rx a (op.take k) + 1) := cntP_yes hkt (by rw [HQQ.out]; simp [hh])
                      rw [hh]
                      clear hh q0 q1 q2 q3
                      go_wp2_with fail
                      go_roundw
                      case rel => exact ⟨k + 1, by omega, by rw [CY.out]; go_num, by go_num, R5, B5⟩
                      case measure => simp [intOf]; omega
                    · have hh' : hasP rx ((qa : Int), (qx : Int), (a : Int), (qy : Int)) = false := by simpa using hh
                      have CY : Hid (cntP rx a (op.take (k + 1)) = cntP rx a (op.take k)) := cntP_no hkt (by rw [HQQ.out]; simp [hh'])
                      rw [hh']
                      clear hh hh' q0 q1 q2 q3
                      go_wp2_with fail
                      go_roundw
                      case rel => exact ⟨k + 1, by omega, by rw [CY.out], by go_num, R5, B5⟩
                      case measure => simp [intOf]; omega
                  · have z3 : ((qb : Int) == (a : Int)) = false := by simp; omega
                    have z4 : decide ((qb : Int) = (a : Int)) = false := by simp; omega
                    have CY : Hid (cntP rx a (op.take (k + 1)) = cntP rx a (op.take k)) := cntP_no hkt (by rw [HQQ.out]; show ((((qa : Int) == (a : Int)) || ((qb : Int) == (a : Int))) && _) = false; rw [z1, z3]; rfl)
                    go_wp2_with fail
                    go_roundw
                    case rel => exact ⟨k + 1, by omega, by rw [CY.out], by go_num, RA, BA⟩
                    case measure => simp [intOf]; omega
              · obtain rfl : k = op.length := by omega
                rw [List.take_length]
                have CN : Hid (cntP rx a op = cntP (ra.set a (x : Int)) a op) := by show _ = _; rw [HRX.out]
                have SN : Hid (∃ r', RowAt wr r r' ∧ r'.length = l.length ∧ ∀ y, r'.set a y = ra.set a y) := ⟨rx, hRX.out, LX.out, fun y => by rw [HRX.out, List.set_set]⟩
                by_cases hbm : most < (cntP rx a op : Nat)
                · have BE : Hid (bestP ra a op (x + 1) = ((x : Int), ((cntP rx a op : Nat) : Int))) := by
                    show _ = _
                    rw [bestP_yes (by rw [← HBX.out, ← CN.out]; exact hbm), ← CN.out]
                  have i3 : decide (most < ((cntP rx a op : Nat) : Int)) = true := by simpa using hbm
                  go_wp2_with fail
                  go_roundw
                  case rel => exact ⟨x + 1, by omega, by rw [BE.out], by rw [BE.out], by go_num, SN, hBX⟩
                  case measure => simp [intOf]; omega
                · have BE : Hid (bestP ra a op (x + 1) = (best, most)) := by
                    show _ = _
                    rw [bestP_no (by rw [← HBX.out, ← CN.out]; exact hbm), ← HBX.out]
                  have i3 : decide (most < ((cntP rx a op : Nat) : Int)) = false := by simpa using hbm
                  go_wp2_with fail
                  go_roundw
                  case rel => exact ⟨x + 1, by omega, by rw [BE.out], by rw [BE.out], by go_num, SN, hBX⟩
                  case measure => simp [intOf]; omega
          · obtain rfl : x = na := by omega
            have RX : Hid (RowAt (wr.setCell ⟨r, a, none⟩ (.int .i64 best)) r (fillP l op (a + 1) sd)) := by
              show RowAt _ _ _
              rw [NX.out, ← HBX.out, ← HS'.out]; exact HR'.out.set a _
            have BX : Hid (Below w.heap.size w (wr.setCell ⟨r, a, none⟩ (.int .i64 best))) := hB.out.setCell rge _
            go_wp2_with fail
            go_roundw
            case rel => exact ⟨a + 1, by omega, by go_num, RX, BX⟩
            case measure => simp [intOf]; omega
    · obtain rfl : a = l.length := by omega
      have RF : Hid (RowAt wr r (nextP l op)) := by
        show RowAt _ _ _
        unfold nextP
        have e : op.getD 0 (0, 0, 0, 0) = qAt op 0 := rfl
        rw [e, ← HSD.out]; exact hR.out
      clear hR
      go_wp2_with fail
      go_ret
      exact ⟨r, rfl, rge, RF.out, hB.out⟩
end Go.Proofs.YtkiljnggphlomaaDoor
