/- What the reference's Differ returns of two right machines with as many inputs: for each two states, if a word of so many letters tells them apart. Condition: at most 41 letters. -/
import Derived.Test.YtfalbffpdgfepaaDoorDfm
import Derived.Test.YtfalbffpdgfepaaDoorBth
import Derived.Deep.OwnRows
import Derived.Deep.RegionLaw
import Derived.BigQuiet
namespace Go.Proofs.YtfalbffpdgfepaaDoor
open Go.RowKit Go.Deep
/-- the boxes of two machines -/
structure Bxs (g : Nat) (A B : Array Value) (w : World) : Prop where
  a : w.heap[g]? = some (.cells A 24 (0, 0))
  b : w.heap[g + 1]? = some (.cells B 24 (0, 0))
theorem Bxs.below {g : Nat} {A B : Array Value} {w w' : World} (h : Bxs g A B w) (hb : Below w.heap.size w w') : Bxs g A B w' :=
  ⟨Has.below h.a hb (Has.lt h.a), Has.below h.b hb (Has.lt h.b)⟩
theorem made_row (w : World) (m : Nat) (hm : m ≤ 6) : BRow (fun b => b = w.heap.size) (w.alloc (.cells (madeCells #[Value.bool false] m) 4)) (.slice (some ⟨w.heap.size, 0, none⟩) m m) (fun _ => false) m := by
  have O1 := World.ownsRow_lit (e := 4) (size := 1) (base := w.heap.size) w (madeCells #[Value.bool false] m) m (Nat.le_refl _) (by unfold maxLen; omega) (by rw [size_madeCells, Nat.mul_one])
  have hz : (madeCells #[Value.bool false] m).toList = bools (fun _ => false) m := by
    rw [toList_madeCells_one]; unfold bools
    apply List.ext_getElem <;> simp
  rw [hz] at O1
  exact (brow_of_own O1).more fun b k => by have := k.2.2; simp [Value.ownBlock] at this; exact this.symm
theorem row_cell {F : Nat → Prop} {w : World} {b o n : Nat} {l : List (List Int)} (R : ∀ s, s < n → ∃ r, w.cell? ⟨b, o + s, none⟩ = some r ∧ IntsIn .i64 F w r (rowAt l s)) {s x : Nat} (hs : s < n) (hx : x < (rowAt l s).length) :
    ∃ e p d, w.cell? ⟨b, o + s, none⟩ = some (.slice (some ⟨e, p, none⟩) (rowAt l s).length d) ∧ F e ∧ w.cell? ⟨e, p + x, none⟩ = some (.int .i64 (at0 (rowAt l s) x)) := by
  obtain ⟨r, h1, ⟨A, c, rfl, _, _, h2⟩⟩ := R s hs
  obtain ⟨e, p, rfl, h3, h4⟩ := h2 (by omega)
  exact ⟨e, p, c, h1, h3, h4 x hx⟩
def DifPost (a b : MachD) (n : Nat) (w : World) (e : Ending) (w' : World) : Prop := ∃ r, e = .returned r ∧ BMat (Fresh w w') w' r (df a b n) a.out.length b.out.length ∧ Below w.heap.size w w'
set_option maxRecDepth 100000 in
set_option maxHeartbeats 8000000 in
theorem differ_ok (a b : MachD) (n : Nat) (F : Nat → Prop) (u v : Value) (w : World) (hF : ∀ b, F b → b < w.heap.size) (hu : MachIn F w u a) (hv : MachIn F w v b) (ga : Good a) (gb : Good b) (hab : ins a = ins b) (hn : n ≤ 41) :
    Calls Tryd.prog 36 #[u, v, .int .i64 n] w (DifPost a b n w) := by
  have HF := hid hF
  have HA := hid hu
  have HB := hid hv
  have GA := hid ga
  have GB := hid gb
  have HI := hid hab
  obtain ⟨ao, an, rfl, ⟨A1, c1, rfl, _, k1⟩, ⟨A2, c2, rfl, _, k2⟩⟩ := hu
  obtain ⟨bo, bn, rfl, ⟨A3, c3, rfl, _, k3⟩, ⟨A4, c4, rfl, _, k4⟩⟩ := hv
  have ga0 : 0 < a.out.length := ga.pos
  have gb0 : 0 < b.out.length := gb.pos
  have ga2 := ga.le
  have gb2 := gb.le
  obtain ⟨b1, o1, rfl, f1, R1⟩ := k1 ga0
  obtain ⟨b2, o2, rfl, f2, R2⟩ := k2 (by rw [ga.next]; exact ga0)
  obtain ⟨b3, o3, rfl, f3, R3⟩ := k3 gb0
  obtain ⟨b4, o4, rfl, f4, R4⟩ := k4 (by rw [gb.next]; exact gb0)
  have R1 := hid R1
  have R2 := hid R2
  have R3 := hid R3
  have R4 := hid R4
  have l1 := hF b1 f1
  have l2 := hF b2 f2
  have l3 := hF b3 f3
  have l4 := hF b4 f4
  obtain ⟨n1, hn1⟩ : ∃ n1, n1 = a.out.length := ⟨_, rfl⟩
  obtain ⟨m, hm⟩ : ∃ m, m = b.out.length := ⟨_, rfl⟩
  have N1 := hid hn1
  have M1 := hid hm
  rw [← hn1] at ga0 ga2
  rw [← hm] at gb0 gb2
  rw [← hn1, ← hm]
  have hmk := run_make_row' (P := Tryd.prog) 64 4 (.bool false) 1 Tryd.underlying64 infoBool rfl .i64 .i64 m (by omega) (by omega)
  obtain ⟨i0, hi0, hz0, hz1, hz2⟩ := info_parts infoBool
  obtain ⟨i1, hi1, hy0, hy1, hy2⟩ := info_parts infoRowB
  clear hF ga gb hab k1 k2 k3 k4 hn1 hm
  go_enter Tryd.func36, Tryd.ntmps36
  go_wp2_with fail
  go_loopw [7, 8] (fun ov iv wr => ∃ i : Nat, i ≤ n1 ∧ iv = .int .i64 i ∧ Hid (DInv (w.heap.size + 2) ov (df a b 0) i m wr) ∧ Hid (Below w.heap.size w wr) ∧ Hid (w.heap.size + 2 ≤ wr.heap.size) ∧ Hid (Bxs w.heap.size #[.slice (some ⟨b1, o1, none⟩) n1 c1, .slice (some ⟨b2, o2, none⟩) a.next.length c2] #[.slice (some ⟨b3, o3, none⟩) m c3, .slice (some ⟨b4, o4, none⟩) b.next.length c4] wr)) (fun _ iv _ => n1 - (intOf iv).toNat)
  case atStart => exact ⟨0, Nat.zero_le _, rfl, DInv.zero, ((Below.refl _ _).alloc (Nat.le_refl _) _).alloc (by simp) _, by show _ ≤ _; simp, ⟨Has.alloc (Has.new w _) _, Has.newAt (w.alloc _) _ (by simp)⟩⟩
  case round =>
    obtain ⟨i, hi, rfl, hD, hB, hS, hX⟩ := hrel
    obtain ⟨wo, rfl⟩ : ∃ wo : World, wo = wr := ⟨_, rfl⟩
    have x0 := Has.cell hX.out.a 0
    have x1 := Has.cell hX.out.a 1
    have y0 := Has.cell hX.out.b 0
    have y1 := Has.cell hX.out.b 1
    simp at x0 x1 y0 y1
    have sS := hS.out
    by_cases hlt : i < n1
    · have B2 : Hid (Below wo.heap.size wo ((wo.alloc (.cells (madeCells #[Value.bool false] m) 4)).alloc (.cells #[.slice (some ⟨wo.heap.size, 0, none⟩) m m] 64))) := ((Below.refl _ _).alloc (Nat.le_refl _) _).alloc (by simp) _
      obtain ⟨cs, h1, h2⟩ := (hD.out.below B2.out).row
      have H1 := hid h1
      have H2 := hid h2
      have hr := (((made_row wo m (by omega)).keep (w' := (wo.alloc (.cells (madeCells #[Value.bool false] m) 4)).alloc (.cells #[.slice (some ⟨wo.heap.size, 0, none⟩) m m] 64)) fun b k => Below.heap_alloc _ _ _ (by subst k; simp)).more (F' := fun b => w.heap.size + 2 ≤ b ∧ b < ((wo.alloc (.cells (madeCells #[Value.bool false] m) 4)).alloc (.cells #[.slice (some ⟨wo.heap.size, 0, none⟩) m m] 64)).heap.size ∧ u7.ownBlock ≠ some b) fun b k => by
        subst k
        refine ⟨sS, by simp; omega, fun e => ?_⟩
        have := (hD.out.at_lt _ e).2
        omega)
      have HR := hid hr
      clear h1 h2 hr
      go_wp2_with (at_builtin; refine wpList_app _ rfl _ _ 65 rfl (w.heap.size + 2) 64 i1 (.slice none 0 0) 1 24 Tryd.underlying65 hi1 hy0 hy1 hy2 rfl (by decide) u7 i cs rfl H1.out _ _ 1 [.slice (some ⟨wo.heap.size, 0, none⟩) m m] rfl (cells_oneAt _ _ _ (by simp)) (by intro u hu; simp at hu; subst hu; rfl) (by unfold maxLen; omega) (by omega) (by simp; omega) ?_; intro v5 w5 hown5 hgrow5 hat5)
      have D5 : Hid (DInv (w.heap.size + 2) v5 (df a b 0) (i + 1) m w5) := DInv.push H1.out H2.out HR.out hown5 hgrow5 hat5
      have B5 : Hid (Below (w.heap.size + 2) wo w5) := (B2.out.mono sS).grown hgrow5 (by simp; omega) (fun k hk => (hD.out.at_lt k hk).1)
      have s5 := B5.out.size
      have X5 : Hid (Bxs w.heap.size _ _ w5) := ⟨(B5.out.block _ (by omega)).trans hX.out.a, (B5.out.block _ (by omega)).trans hX.out.b⟩
      clear hown5 hgrow5 hat5
      go_roundw
      case rel => exact ⟨i + 1, by omega, by go_num, D5, hB.out.trans (B5.out.mono (by omega)), by show _ ≤ _; omega, X5⟩
      case measure => simp [intOf]; omega
    · have ei : n1 = i := by omega
      subst ei
      have MM : Hid (BMat (fun b => w.heap.size + 2 ≤ b ∧ b < wo.heap.size) wo u7 (df a b 0) n1 m) := hD.out.mat
      clear hmk hD x0 x1 y0 y1 hlt hi
      have x0 := Has.cell hX.out.a 0
      simp at x0
      go_wp2_with fail
      clear x0
      go_loopw [7, 9] (fun ov rv wr => ∃ r : Nat, r ≤ n ∧ rv = .int .i64 r ∧ Hid (BMat (fun b => w.heap.size + 2 ≤ b ∧ b < wr.heap.size) wr ov (df a b r) n1 m) ∧ Hid (Below w.heap.size w wr) ∧ Hid (w.heap.size + 2 ≤ wr.heap.size) ∧ Hid (Bxs w.heap.size #[.slice (some ⟨b1, o1, none⟩) n1 c1, .slice (some ⟨b2, o2, none⟩) a.next.length c2] #[.slice (some ⟨b3, o3, none⟩) m c3, .slice (some ⟨b4, o4, none⟩) b.next.length c4] wr)) (fun _ rv _ => n - (intOf rv).toNat)
      case atStart => exact ⟨0, Nat.zero_le _, rfl, MM, hB, hS, hX⟩
      case round =>
        obtain ⟨r, hr, rfl, hM, hBp, hSp, hXp⟩ := hrel
        obtain ⟨wp, rfl⟩ : ∃ wp : World, wp = wr := ⟨_, rfl⟩
        have sSp := hSp.out
        clear MM hB hS hX sS
        by_cases hltr : r < n
        · go_wp2_with fail
          go_loopw [10, 11] (fun nv iv wi => ∃ i : Nat, i ≤ n1 ∧ iv = .int .i64 i ∧ Hid (DInv wp.heap.size nv (df a b (r + 1)) i m wi) ∧ Hid (Below wp.heap.size wp wi)) (fun _ iv _ => n1 - (intOf iv).toNat)
          case atStart => exact ⟨0, Nat.zero_le _, rfl, DInv.zero, Below.refl _ _⟩
          case round =>
            obtain ⟨i, hi, rfl, hD, hBi⟩ := hrel
            obtain ⟨wi, rfl⟩ : ∃ wi : World, wi = wr := ⟨_, rfl⟩
            have hXi := hid (hXp.out.below hBi.out)
            have sBi := hBi.out.size
            have x0 := Has.cell hXi.out.a 0
            have x1 := Has.cell hXi.out.a 1
            have y0 := Has.cell hXi.out.b 0
            have y1 := Has.cell hXi.out.b 1
            simp at x0 x1 y0 y1
            by_cases hlti : i < n1
            · go_wp2_with fail
              go_loopw [12, 13] (fun rv kv wk => ∃ k : Nat, k ≤ m ∧ kv = .int .i64 k ∧ Hid (wk.ownsRow wi.heap.size 4 1 rv k (bools (df a b (r + 1) i) k)) ∧ Hid (Below wi.heap.size wi wk)) (fun _ kv _ => m - (intOf kv).toNat)
              case atStart => exact ⟨0, Nat.zero_le _, rfl, World.ownsRow_nil _ _ _ _, Below.refl _ _⟩
              case round =>
                obtain ⟨k, hk, rfl, hO, hBk⟩ := hrel
                obtain ⟨wk, rfl⟩ : ∃ wk : World, wk = wr := ⟨_, rfl⟩
                have hXk := hid (hXi.out.below hBk.out)
                have sBk := hBk.out.size
                clear x0 x1 y0 y1
                have x0 := Has.cell hXk.out.a 0
                have x1 := Has.cell hXk.out.a 1
                have y0 := Has.cell hXk.out.b 0
                have y1 := Has.cell hXk.out.b 1
                simp at x0 x1 y0 y1
                by_cases hltk : k < m
                · have hBB : Hid (Below w.heap.size w wk) := (hBp.out.trans (hBi.out.mono (by omega))).trans (hBk.out.mono (by omega))
                  have hMk := hid (hM.out.keep (Same.of_below (hBi.out.trans (hBk.out.mono (by omega))) fun b k => k.2))
                  obtain ⟨r0, hr0, ⟨A0, d0, rfl, _, _, _⟩⟩ := R1.out 0 (by rw [← N1.out]; omega)
                  have z0 : wk.cell? ⟨b1, o1, none⟩ = some (.slice A0 (ins a) d0) := (hBB.out.cell (p := ⟨b1, o1, none⟩) l1).trans (by rw [show (rowAt a.out 0).length = ins a from rfl] at hr0; simpa using hr0)
                  have i3 := GA.out.ins3
                  clear hr0
                  go_wp2_with fail
                  go_loopw [14, 15] (fun sv xv wx => ∃ x : Nat, x ≤ ins a ∧ xv = .int .i64 x ∧ sv = .bool (dfx a b r i k x) ∧ ∃ q, wx = wk.drewN q) (fun _ xv _ => ins a - (intOf xv).toNat)
                  case atStart => exact ⟨0, Nat.zero_le _, rfl, by rw [dfx_zero], 0, rfl⟩
                  case round =>
                    obtain ⟨x, hx, rfl, rfl, q, rfl⟩ := hrel
                    by_cases hltx : x < ins a
                    · have LX : letter a (x : Int) := ⟨by omega, by omega⟩
                      have LXb : letter b (x : Int) := ⟨by omega, by have := HI.out; omega⟩
                      have rO := GA.out.rowO i (by rw [← N1.out]; exact hlti)
                      have rN := GA.out.rowN i (by rw [← N1.out]; exact hlti)
                      have sO := GB.out.rowO k (by rw [← M1.out]; exact hltk)
                      have sN := GB.out.rowN k (by rw [← M1.out]; exact hltk)
                      have hi2 := HI.out
                      obtain ⟨e1, p1, d1, q1, t1, u1⟩ := row_cell (x := x) R1.out (by rw [← N1.out]; exact hlti) (by omega)
                      obtain ⟨e2, p2, d2, q2, t2, u2⟩ := row_cell (x := x) R2.out (by rw [GA.out.next, ← N1.out]; exact hlti) (by omega)
                      obtain ⟨e3, p3, d3, q3, t3, u3⟩ := row_cell (x := x) R3.out (by rw [← M1.out]; exact hltk) (by omega)
                      obtain ⟨e4, p4, d4, q4, t4, u4⟩ := row_cell (x := x) R4.out (by rw [GB.out.next, ← M1.out]; exact hltk) (by omega)
                      rw [rO] at q1
                      rw [rN] at q2
                      rw [sO, ← hi2] at q3
                      rw [sN, ← hi2] at q4
                      have w1 := HF.out _ t1
                      have w2 := HF.out _ t2
                      have w3 := HF.out _ t3
                      have w4 := HF.out _ t4
                      have P1 := nextAt_lt GA.out (s := i) (by rw [← N1.out]; exact hlti) LX
                      have P2 := nextAt_lt GB.out (s := k) (by rw [← M1.out]; exact hltk) LXb
                      rw [← N1.out] at P1
                      rw [← M1.out] at P2
                      obtain ⟨g5, o5, c5, g6, o6, c6, e5, f5, q5, f6, q6⟩ := hMk.out.entry P1 P2
                      subst e5
                      have c1' : wk.cell? ⟨b1, o1 + i, none⟩ = some (.slice (some ⟨e1, p1, none⟩) (ins a) d1) := (hBB.out.cell (p := ⟨b1, _, none⟩) l1).trans q1
                      have c2' : wk.cell? ⟨b2, o2 + i, none⟩ = some (.slice (some ⟨e2, p2, none⟩) (ins a) d2) := (hBB.out.cell (p := ⟨b2, _, none⟩) l2).trans q2
                      have c3' : wk.cell? ⟨b3, o3 + k, none⟩ = some (.slice (some ⟨e3, p3, none⟩) (ins a) d3) := (hBB.out.cell (p := ⟨b3, _, none⟩) l3).trans q3
                      have c4' : wk.cell? ⟨b4, o4 + k, none⟩ = some (.slice (some ⟨e4, p4, none⟩) (ins a) d4) := (hBB.out.cell (p := ⟨b4, _, none⟩) l4).trans q4
                      have n1' : wk.cell? ⟨e1, p1 + x, none⟩ = some (.int .i64 (outAt a i x)) := (hBB.out.cell (p := ⟨e1, _, none⟩) w1).trans u1
                      have n2' : wk.cell? ⟨e2, p2 + x, none⟩ = some (.int .i64 (nextAt a i x : Nat)) := (hBB.out.cell (p := ⟨e2, _, none⟩) w2).trans (by rw [u2]; congr 2; exact nextAt_eq GA.out (by rw [← N1.out]; exact hlti) LX)
                      have n3' : wk.cell? ⟨e3, p3 + x, none⟩ = some (.int .i64 (outAt b k x)) := (hBB.out.cell (p := ⟨e3, _, none⟩) w3).trans u3
                      have n4' : wk.cell? ⟨e4, p4 + x, none⟩ = some (.int .i64 (nextAt b k x : Nat)) := (hBB.out.cell (p := ⟨e4, _, none⟩) w4).trans (by rw [u4]; congr 2; exact nextAt_eq GB.out (by rw [← M1.out]; exact hltk) LXb)
                      have SU := hid (dfx_succ a b r i k x)
                      have v1 : nextAt a i x < a.next.length := by rw [GA.out.next, ← N1.out]; exact P1
                      have ia : i < a.next.length := by rw [GA.out.next, ← N1.out]; exact hlti
                      have kb : k < b.next.length := by rw [GB.out.next, ← M1.out]; exact hltk
                      clear q1 q2 q3 q4 u1 u2 u3 u4 rO rN sO sN hi2 t1 t2 t3 t4 w1 w2 w3 w4 LX LXb f5 f6
                      generalize hP : nextAt a i x = P at *
                      generalize hQ : nextAt b k x = Q at *
                      generalize hX1 : outAt a i x = X at *
                      generalize hY1 : outAt b k x = Y at *
                      clear hP hQ hX1 hY1
                      cases hs : dfx a b r i k x with
                      | true =>
                        have D1 : Hid (dfx a b r i k (x + 1) = true) := by show _ = _; rw [SU.out, hs]; rfl
                        clear hs SU
                        go_wp2_with fail
                        go_quiet (fail)
                        go_wp2_with fail
                        go_roundw
                        case rel => exact ⟨x + 1, by omega, by go_num, by rw [D1.out], _, rfl⟩
                        case measure => simp [intOf]; omega
                      | false =>
                        by_cases hXY : X = Y
                        · have D1 : Hid (dfx a b r i k (x + 1) = df a b r P Q) := by show _ = _; rw [SU.out, hs]; simp [hXY]
                          subst hXY
                          clear hs SU
                          generalize hd : df a b r P Q = d at *
                          clear hd
                          have e1 : (X != X) = false := by simp
                          go_wp2_with fail
                          go_quiet (fail)
                          go_wp2_with fail
                          go_roundw
                          case rel => exact ⟨x + 1, by omega, by go_num, by rw [D1.out], _, rfl⟩
                          case measure => simp [intOf]; omega
                        · have D1 : Hid (dfx a b r i k (x + 1) = true) := by show _ = _; rw [SU.out, hs]; simp [hXY]
                          have e1 : (X != Y) = true := by simp [hXY]
                          clear hs SU hXY
                          go_wp2_with fail
                          go_quiet (fail)
                          go_wp2_with fail
                          go_roundw
                          case rel => exact ⟨x + 1, by omega, by go_num, by rw [D1.out], _, rfl⟩
                          case measure => simp [intOf]; omega
                    · have ex : x = ins a := by omega
                      subst ex
                      have D1 : Hid (bools (df a b (r + 1) i) (k + 1) = bools (df a b (r + 1) i) k ++ [.bool (dfx a b r i k (ins a))]) := by show _ = _; rw [bools_succ, dfx_all]
                      have OK : (wk.drewN q).ownsRow wi.heap.size 4 1 u12 k (bools (df a b (r + 1) i) k) := own_keep hO.out fun _ _ => rfl
                      have HOK := hid OK
                      generalize hs : dfx a b r i k (ins a) = sv at *
                      clear hs OK
                      go_wp2_with (at_builtin; refine wpList_app _ rfl _ _ 64 rfl wi.heap.size 4 i0 (.bool false) 1 1 Tryd.underlying64 hi0 hz0 hz1 hz2 rfl (by decide) u12 k (bools (df a b (r + 1) i) k) rfl (HOK.out.alloc _) _ _ 1 [.bool sv] rfl (cells_oneAt _ _ _ (by simp)) (by intro u hu; simp at hu; subst hu; rfl) (by unfold maxLen; omega) (by omega) (by simp; omega) ?_; intro v5 w5 hown5 hgrow5 hat5)
                      have O5 : Hid (w5.ownsRow wi.heap.size 4 1 v5 (k + 1) (bools (df a b (r + 1) i) (k + 1))) := by rw [D1.out]; exact hown5
                      have B5 : Hid (Below wi.heap.size wi w5) := ((below_drewN hBk.out q).alloc (by simp; omega) _).grown hgrow5 (by simp; omega) (fun k hk => own_ge HOK.out k hk)
                      clear hown5 hgrow5 hat5
                      go_roundw
                      case rel => exact ⟨k + 1, by omega, by go_num, O5, B5⟩
                      case measure => simp [intOf]; omega
                · have ek : k = m := by omega
                  subst ek
                  have W2B : Hid (Below wi.heap.size wi (wk.alloc (.cells #[u12] 64))) := hBk.out.alloc (by omega) _
                  obtain ⟨cs, h1, h2⟩ := (hD.out.below W2B.out).row
                  have H1 := hid h1
                  have H2 := hid h2
                  have HR : Hid (BRow (fun b => wp.heap.size ≤ b ∧ b < (wk.alloc (.cells #[u12] 64)).heap.size ∧ u10.ownBlock ≠ some b) (wk.alloc (.cells #[u12] 64)) u12 (df a b (r + 1) i) k) :=
                    ((brow_of_own hO.out).keep (w' := wk.alloc (.cells #[u12] 64)) fun b hb => Below.heap_alloc _ _ _ hb.2.1).more fun b hb => ⟨by have := hb.1; omega, by have := hb.2.1; simp; omega, fun e => by
                      have := (hD.out.at_lt _ e).2
                      have := hb.1
                      omega⟩
                  obtain ⟨A9, c9, e9, _, _⟩ := HR.out
                  subst e9
                  clear h1 h2
                  go_wp2_with (at_builtin; refine wpList_app _ rfl _ _ 65 rfl wp.heap.size 64 i1 (.slice none 0 0) 1 24 Tryd.underlying65 hi1 hy0 hy1 hy2 rfl (by decide) u10 i cs rfl H1.out _ _ 1 [.slice A9 k c9] rfl (cells_oneAt _ _ _ (by simp)) (by intro u hu; simp at hu; subst hu; rfl) (by unfold maxLen; omega) (by omega) (by simp; omega) ?_; intro v5 w5 hown5 hgrow5 hat5)
                  have D5 : Hid (DInv wp.heap.size v5 (df a b (r + 1)) (i + 1) k w5) := DInv.push H1.out H2.out HR.out hown5 hgrow5 hat5
                  have B5 : Hid (Below wp.heap.size wp w5) := ((hBi.out.trans (hBk.out.mono (by omega))).alloc (by omega) _).grown hgrow5 (by simp; omega) (fun k hk => (hD.out.at_lt k hk).1)
                  clear hown5 hgrow5 hat5
                  go_roundw
                  case rel => exact ⟨i + 1, by omega, by go_num, D5, B5⟩
                  case measure => simp [intOf]; omega
            · have ei : n1 = i := by omega
              subst ei
              have M5 : Hid (BMat (fun b => w.heap.size + 2 ≤ b ∧ b < wi.heap.size) wi u10 (df a b (r + 1)) n1 m) := hD.out.mat.more fun b hb => ⟨by have := hb.1; omega, hb.2⟩
              go_wp2_with fail
              go_roundw
              case rel => exact ⟨r + 1, by omega, by go_num, M5, hBp.out.trans (hBi.out.mono (by omega)), by show _ ≤ _; omega, hXi⟩
              case measure => simp [intOf]; omega
        · have er : n = r := by omega
          subst er
          have M5 := hid (hM.out.more (F' := Fresh w wp) fun b hb => ⟨by have := hb.1; omega, hb.2⟩)
          go_wp2_with fail
          go_ret
          refine ⟨_, rfl, ?_, hBp.out⟩
          rw [← N1.out, ← M1.out]
          exact M5.out
end Go.Proofs.YtfalbffpdgfepaaDoor
