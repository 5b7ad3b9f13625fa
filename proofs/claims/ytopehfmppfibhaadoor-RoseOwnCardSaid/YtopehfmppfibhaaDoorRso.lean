/- The law RoseOwn: it returns true, and all that the call was given reads as before. Condition: errors.errorType holds its handle. -/
import Derived.Test.YtopehfmppfibhaaDoorRlx
import Derived.Test.YtopehfmppfibhaaDoorSpi
import Derived.Test.YtopehfmppfibhaaDoorIna
import Derived.Test.YtopehfmppfibhaaDoorRcp
import Derived.Test.YtopehfmppfibhaaDoorSmr
import Derived.Test.YtopehfmppfibhaaDoorAst
import Derived.Deep.QuietTactic
import Derived.BigQuiet
namespace Go.Proofs.YtopehfmppfibhaaDoor
open Go.RowKit Go.Deep
def LawPost (W : World) (e : Ending) (w' : World) : Prop := e = .returned (.bool true) ∧ Below W.heap.size W w'
/-- what Less tells of whatever tape: rows, and a fault -/
def lessRows (g : Ge) (l : List Int) : List (List Int) := match replR g l with
  | .error _ => []
  | .ok _ => lessL g l
def lessErr (g : Ge) (l : List Int) : Int := match replR g l with
  | .error c => c
  | .ok _ => 0
theorem lessRows_len (g : Ge) (l : List Int) : (lessRows g l).length ≤ 4000000000 := by
  unfold lessRows
  cases h : replR g l with
  | error c => simp
  | ok z =>
    have h1 := lessTo_len g l l.length
    have h2 := (replR_ok h).2.2.1
    show (lessTo g l l.length).length ≤ _
    omega
def LessA (g : Ge) (l : List Int) (w : World) (e : Ending) (w' : World) : Prop := ∃ v cs, e = .returned (.tuple #[v, errV (lessErr g l)]) ∧ Below w.heap.size w w' ∧ w'.ownsRow w.heap.size 25 1 v (lessRows g l).length cs ∧ OwnRows w.heap.size v w' cs (lessRows g l)
theorem less_all (g : Ge) (l : List Int) (F : Nat → Prop) (u v x c lv : Value) (w : World) (hF : ∀ b, F b → b < w.heap.size) (hx : GeIn F w g u v x c) (hl : IntsIn .i64 F w lv l) :
    Calls Tryd.prog 10 #[.agg #[u, v, x, c], lv] w (LessA g l w) := by
  refine (less_is g l F u v x c lv w hF hx hl).mono ?_
  rintro e w' ⟨hb, h⟩
  unfold LessA lessErr lessRows
  cases hr : replR g l with
  | error c =>
    rw [hr] at h
    obtain ⟨_, rfl⟩ := h
    exact ⟨_, [], rfl, hb, World.ownsRow_nil _ _ _ _, OwnRows.nil_⟩
  | ok z =>
    rw [hr] at h
    obtain ⟨v, cs, rfl, h1, h2⟩ := h
    exact ⟨v, cs, rfl, hb, h1, h2⟩
theorem fact_rows : (lessRows (.mk 2 0 1 []) [1]).length = 4 ∧ lessErr (.mk 2 0 1 []) [1] = 0 := by decide +kernel
theorem OwnRows.rows {B : Nat} {v : Value} {w : World} {cs : List Value} {ll : List (List Int)} (h : OwnRows B v w cs ll) (ho : w.ownsRow B 25 1 v ll.length cs) : RowsIn (fun b => B ≤ b ∧ b < w.heap.size) w v ll :=
  rows_of_own ho rfl (fun i hi => by
    have hc : i < cs.length := by rw [h.len]; exact hi
    refine ⟨cs[i], List.getElem?_eq_getElem hc, ?_⟩
    obtain ⟨h1, _⟩ := h.at_ i cs[i] ll[i] (List.getElem?_eq_getElem hc) (List.getElem?_eq_getElem hi)
    have e : rowAt ll i = ll[i] := by unfold rowAt; rw [List.getD_eq_getElem?_getD, List.getElem?_eq_getElem hi]; rfl
    rw [e]
    exact (ints_blockC h1 (wf1000 (h.ok _ (List.getElem_mem hi)).2)).more fun b hb => ⟨own_ge h1 b hb, own_lt h1 b hb⟩) fun b h1 h2 => ⟨h1, h2⟩
set_option maxRecDepth 100000 in
set_option maxHeartbeats 4000000 in
theorem roseOwn_walk (g : Ge) (vg : Value) (l : List Int) (v : Value) (x : Int) (W : World) (hL : Laid W) (hg : ∃ u x y c, vg = .agg #[u, x, y, c] ∧ GeIn (fun b => b < W.heap.size) W g u x y c) (hv : IntsIn .i64 (fun b => b < W.heap.size) W v l) (hz : l.length * 8 ≤ 140737488351232) :
    Calls Tryd.prog 3 #[vg, v, .int .i64 x] W (LawPost W) := by
  obtain ⟨u1, u2, u3, u4, rfl, hg⟩ := hg
  have HL := hid hL
  have HG := hid hg
  have HV := hid hv
  have WF : Hid (∀ z ∈ l, (Lit.int .i64 z).wf = true) := by obtain ⟨_, _, _, _, h, _⟩ := hv; exact h
  have LA := hid (less_all g l)
  have RL := lessRows_len g l
  obtain ⟨R, hR⟩ : ∃ R, R = lessRows g l := ⟨_, rfl⟩
  rw [← hR] at RL
  have HR := hid hR
  obtain ⟨ce, hce⟩ : ∃ ce, ce = lessErr g l := ⟨_, rfl⟩
  have HCE := hid hce
  obtain ⟨k, a, b, s⟩ := g
  generalize hG : Ge.mk k a b s = G at HG LA HR HCE
  obtain ⟨A, cp, rfl, rfl, rfl, rfl, _, _, _⟩ := hg.box
  obtain ⟨Az, cz, rfl, _, _, _⟩ := hv
  have B0 : Hid (Below W.heap.size W (W.alloc (.cells #[.int .i64 k, .int .i64 a, .int .i64 b, .slice A s.length cp] 24))) := (Below.refl _ _).alloc (Nat.le_refl _) _
  have X0 := hid (Has.new W (.cells #[.int .i64 k, .int .i64 a, .int .i64 b, .slice A s.length cp] 24))
  have ln : l.length ≤ 17592186043904 := by omega
  clear hL hg hG hz hR hce
  go_enter Tryd.func3, Tryd.ntmps3
  go_wp2_with fail
  refine (copy_any l (fun b => b < W.heap.size) _ _ (fun b h => by simp; omega) (HV.out.keep (Same.of_below B0.out fun b h => h)) (by omega)).mono ?_
  rintro e w1 ⟨v1, rfl, hO, hb⟩
  have s1 := hb.size
  simp only [World.size_alloc] at s1
  have B1 := hid (B0.out.trans (hb.mono (by simp)))
  have X1 := hid (Has.below X0.out hb (by simp))
  have I1 := hid ((ints_blockC hO WF.out).more (F' := fun b => b < w1.heap.size) fun b h => own_lt hO b h)
  obtain ⟨A1, c1, rfl, _, _⟩ := own_slice1 hO
  have y0 := Has.cell X1.out 0
  have y1 := Has.cell X1.out 1
  have y2 := Has.cell X1.out 2
  have y3 := Has.cell X1.out 3
  simp at y0 y1 y2 y3
  clear hO hb X0 B0
  go_wp2_with fail
  refine (LA.out (fun b => b < w1.heap.size) _ _ _ _ _ w1 (fun b h => h) (GeIn.more (fun b hb => by omega) _ (GeIn.keep (Same.of_below B1.out fun b h => h) _ HG.out)) I1.out).mono ?_
  rintro e w2 ⟨v2, cs, rfl, hb, hO, hR⟩
  rw [← HR.out] at hO hR
  rw [← HCE.out]
  have s2 := hb.size
  have P2 := hid hb
  have O2 := hid hO
  have R2 := hid hR
  obtain ⟨A2, c2, rfl, _, _⟩ := own_slice1 hO
  have X2 := hid (Has.below X1.out hb (by omega))
  clear hb hO hR y0 y1 y2 y3 X1
  go_wp2_with fail
  refine (less_all (.mk 2 0 1 []) [1] (fun b => b < w2.heap.size + 1) _ _ _ _ _ _ (fun b h => by simpa using h) (ge_leaf (by decide) (by decide) (by decide)) ⟨_, 1, rfl, by simp [maxLen], by intro n hn; simp at hn; subst hn; decide, fun _ => ⟨w2.heap.size, 0, rfl, by omega, fun i hi => by
    match i, hi with
    | 0, _ => simp⟩⟩).mono ?_
  rintro e w3 ⟨v3, cs3, rfl, hb, hO, _⟩
  rw [fact_rows.1] at hO
  rw [fact_rows.2, errV_0]
  obtain ⟨A3, c3, rfl, _, _⟩ := own_slice1 hO
  have P3a := hid (((Below.refl w2.heap.size w2).alloc (Nat.le_refl _) (.cells #[.int .i64 1] 3)).trans (hb.mono (by simp)))
  have P3 := hid (P2.out.trans (P3a.out.mono s2))
  have s3 := P3a.out.size
  have O3 := hid (own_below O2.out P3a.out)
  have R3 := hid (R2.out.keep (w' := w3) fun b _ h _ => P3a.out.block b h)
  have X3 := hid (Has.below X2.out P3a.out (by omega))
  clear hb hO P2 P3a O2 R2 X2
  go_wp2_with fail
  refine (ints_any l l (fun _ => True) _ _ w3 ((I1.out.keep (Same.of_below P3.out fun b h => h)).more fun _ _ => trivial) ((HV.out.keep (Same.of_below (B1.out.trans (P3.out.mono (by omega))) fun b h => h)).more fun _ _ => trivial)).mono ?_
  rintro e w4 ⟨rfl, q, rfl⟩
  rw [show decide (l = l) = true from decide_eq_true rfl]
  have P4 := hid (below_drewN P3.out q)
  have O4 := hid (own_below O3.out (below_drewN (Below.refl _ _) q))
  have R4 := hid (R3.out.keep (w' := w3.drewN q) fun b _ _ _ => rfl)
  have X4 : Hid ((w3.drewN q).heap[W.heap.size]? = _) := X3.out
  have s4 : w2.heap.size ≤ (w3.drewN q).heap.size := s3
  have s4' : w1.heap.size ≤ (w3.drewN q).heap.size := by omega
  generalize w3.drewN q = w4 at *
  clear P3 O3 R3 X3 s3
  have GX : Hid (∀ y ∈ R, y.length * 8 ≤ 140737488355328) := fun y hy => by have := (R4.out.ok y hy).1; omega
  have RI := hid (R4.out.rows O4.out)
  go_wp2_with fail
  refine (rcopy_any R (fun b => w1.heap.size ≤ b ∧ b < w4.heap.size) _ w4 (fun b h => h.2) RI.out (by omega) GX.out).mono ?_
  rintro e w5 ⟨v5, rfl, hV, hb⟩
  have s5 := hb.size
  have P5 := hid (P4.out.trans (hb.mono s4'))
  have O5 := hid (own_below O4.out hb)
  have R5 := hid (R4.out.keep (w' := w5) fun b _ h _ => hb.block b h)
  have X5 := hid (Has.below X4.out hb (by omega))
  have V5 := hid hV
  have RB : Hid (∀ r ∈ evens cs, ∀ b, r.ownBlock = some b → w1.heap.size ≤ b ∧ b < w4.heap.size) := fun r hr b hb => by
    obtain ⟨i, _, hi⟩ := of_evens hr
    have hlt : i < cs.length := by
      rcases Nat.lt_or_ge i cs.length with h | h
      · exact h
      · rw [List.getElem?_eq_none h] at hi; cases hi
    have h1 := (R4.out.at_ i r (R[i]'(by rw [← R4.out.len]; exact hlt)) hi (List.getElem?_eq_getElem _)).1
    exact ⟨own_ge h1 b hb, own_lt h1 b hb⟩
  have SP0 : Hid (∀ r ∈ evens cs, SP w5 r) := fun r hr => by
    obtain ⟨i, _, hi⟩ := of_evens hr
    have hlt : i < cs.length := by
      rcases Nat.lt_or_ge i cs.length with h | h
      · exact h
      · rw [List.getElem?_eq_none h] at hi; cases hi
    have hl := (R5.out.ok (R[i]'(by rw [← R5.out.len]; exact hlt)) (List.getElem_mem _)).1
    exact SP.of_own (R5.out.at_ i r (R[i]'(by rw [← R5.out.len]; exact hlt)) hi (List.getElem?_eq_getElem _)).1 (by omega)
  have CL : Hid (cs.length = R.length) := R5.out.len
  obtain ⟨A5, c5, rfl, _, _⟩ := hV
  clear hb P4 O4 R4 X4 RI GX
  go_wp2_with fail
  go_loopw [14] (fun iv wr => ∃ i : Nat, i % 2 = 0 ∧ i ≤ R.length + 1 ∧ iv = .int .i64 i ∧ Hid (SpI w5 (evens cs) wr)) (fun iv _ => R.length + 1 - (intOf iv).toNat)
  case atStart => exact ⟨0, rfl, Nat.zero_le _, rfl, SpI.start SP0.out⟩
  case round =>
    obtain ⟨i, i2, hi, rfl, hS⟩ := hrel
    by_cases hlt : i < R.length
    · have hO := hS.out.row SP0.out O5.out
      obtain ⟨g2, cc, e1, _, _, _, _, hc⟩ := own_open hO (by omega)
      injection e1 with e1 _ e2
      subst e1 e2
      have q1 := hc i (by omega)
      have hic : i < cs.length := by rw [CL.out]; exact hlt
      rw [List.getElem?_eq_getElem hic] at q1
      have ME := hid (mem_evens i2 (List.getElem?_eq_getElem hic))
      have SR := hid (spoil_sp x cs[i] wr (hS.out.sp _ ME.out))
      have i1 : (i : Int) < (R.length : Int) := by omega
      obtain ⟨r, hr⟩ : ∃ r, r = cs[i] := ⟨_, rfl⟩
      rw [← hr] at q1 ME SR
      have I2 := hid i2
      clear hc hO hr i2
      go_wp2_with fail
      refine SR.out.mono ?_
      rintro e w6 ⟨rfl, hg⟩
      have S6 := hid (hS.out.step ME.out hg)
      clear hg
      go_wp2_with fail
      go_roundw
      case rel => exact ⟨i + 2, by have := I2.out; omega, by omega, by go_num, S6⟩
      case measure => simp [intOf]; omega
    · have i1 : decide ((i : Int) < (R.length : Int)) = false := decide_eq_false (by omega)
      have i3 : ¬ (i : Int) < (R.length : Int) := by omega
      obtain ⟨w6, hw6⟩ : ∃ w6, w6 = wr := ⟨_, rfl⟩
      subst hw6
      clear i2
      go_wp2_with fail
      go_loopw [15] (fun iv wr => ∃ j q : Nat, j % 2 = 1 ∧ j ≤ R.length + 2 ∧ iv = .int .i64 j ∧ wr = w6.drewN q) (fun iv _ => R.length + 2 - (intOf iv).toNat)
      case atStart => exact ⟨1, 0, rfl, by omega, rfl, rfl⟩
      case round =>
        obtain ⟨j, q, j2, hj, rfl, hq⟩ := hrel
        have HQ := hid hq
        by_cases hlt : j < R.length
        · have hO := hS.out.row SP0.out O5.out
          obtain ⟨g2, cc, e1, _, _, _, _, hc⟩ := own_open hO (by omega)
          injection e1 with e1 _ e2
          subst e1 e2
          have q1 := hc j (by omega)
          have hic : j < cs.length := by rw [CL.out]; exact hlt
          rw [List.getElem?_eq_getElem hic] at q1
          have hk := (R5.out.at_ j cs[j] (R[j]'hlt) (List.getElem?_eq_getElem hic) (List.getElem?_eq_getElem hlt)).1
          have eR : rowAt R j = R[j]'hlt := by unfold rowAt; rw [List.getD_eq_getElem?_getD, List.getElem?_eq_getElem hlt]; rfl
          have m1 : IntsIn .i64 (fun b => (cs[j]).ownBlock = some b) w6 cs[j] (rowAt R j) := by
            rw [eR]
            refine (ints_blockC hk (wf1000 (R5.out.ok _ (List.getElem_mem hlt)).2)).keep fun b hb => hS.out.keep b (own_lt hk b hb) fun r hr e => ?_
            obtain ⟨i', h1, h2⟩ := of_evens hr
            exact R5.out.ap i' j r cs[j] b (fun e => by omega) h2 (List.getElem?_eq_getElem hic) e hb
          have m2 : RowsIn (fun b => w4.heap.size ≤ b ∧ b < w5.heap.size) w6 (.slice A5 R.length c5) R := V5.out.keep fun b hb => hS.out.keep b hb.2 fun r hr e => by have := (RB.out r hr b e).2; omega
          obtain ⟨Ax, cx, e3, _, hv3⟩ := m2
          injection e3 with e3 _ e4
          subst e3 e4
          obtain ⟨g3, o3, e5, _, hc2⟩ := hv3 (by omega)
          subst e5
          obtain ⟨r2, n1, n2⟩ := hc2 j hlt
          obtain ⟨r, hr⟩ : ∃ r, r = cs[j] := ⟨_, rfl⟩
          rw [← hr] at q1 m1
          have J1 : Hid (IntsIn .i64 (fun _ => True) wr r (rowAt R j)) := by show IntsIn _ _ _ _ _; rw [hq]; exact (m1.keep (fun _ _ => rfl)).more fun _ _ => trivial
          have J2 : Hid (IntsIn .i64 (fun _ => True) wr r2 (rowAt R j)) := by show IntsIn _ _ _ _ _; rw [hq]; exact (n2.keep (fun _ _ => rfl)).more fun _ _ => trivial
          have t1 : wr.cell? ⟨g2, j, none⟩ = some r := by rw [hq]; exact q1
          have t2 : wr.cell? ⟨g3, o3 + j, none⟩ = some r2 := by rw [hq]; exact n1
          have i4 : (j : Int) < (R.length : Int) := by omega
          clear hk eR m1 n1 n2 hc2 hv3 hq hc hO hr q1
          go_upto_region 13 with fail
          go_quiet ((go_at_call 11; exact Calls.quiet_of (ints_any (rowAt R j) (rowAt R j) (fun _ => True) _ _ _ (J1.out.keep fun _ _ => rfl) (J2.out.keep fun _ _ => rfl))))
          rw [show decide (rowAt R j = rowAt R j) = true from decide_eq_true rfl]
          go_wp2_with fail
          go_roundw
          case rel => exact ⟨j + 2, q + nq, by omega, by omega, by go_num, by rw [HQ.out]; simp only [World.drewN_drewN]⟩
          case measure => simp [intOf]; omega
        · have j1 : decide ((j : Int) < (R.length : Int)) = false := decide_eq_false (by omega)
          have j3 : ¬ (j : Int) < (R.length : Int) := by omega
          have BS : Hid (Below w1.heap.size w5 w6) := hS.out.below (by omega) fun r hr b hb => (RB.out r hr b hb).1
          have B6 : Hid (Below W.heap.size W wr) := by show Below _ _ _; rw [hq]; exact below_drewN (B1.out.trans ((P5.out.trans BS.out).mono (by omega))) q
          have V6 : Hid (RowsIn (fun b => w4.heap.size ≤ b ∧ b < w5.heap.size) wr (.slice A5 R.length c5) R) := by
            show RowsIn _ _ _ _
            rw [hq]
            exact (V5.out.keep fun b hb => hS.out.keep b hb.2 fun r hr e => by have := (RB.out r hr b e).2; omega).keep (fun _ _ => rfl)
          have X6 := (hS.out.other SP0.out X5.out (by decide))
          have X7 : wr.heap[W.heap.size]? = some (.cells #[.int .i64 k, .int .i64 a, .int .i64 b, .slice A s.length cp] 24 (0, 0)) := by rw [hq]; exact X6
          have sw : w5.heap.size ≤ wr.heap.size := by rw [hq]; exact hS.out.size
          have y0 := Has.cell X7 0
          have y1 := Has.cell X7 1
          have y2 := Has.cell X7 2
          have y3 := Has.cell X7 3
          simp at y0 y1 y2 y3
          obtain ⟨wo, hwo⟩ : ∃ wo, wo = wr := ⟨_, rfl⟩
          subst hwo
          clear hq X6 X7 j2
          go_wp2_with fail
          refine (LA.out (fun b => b < W.heap.size) _ _ _ _ _ wo (fun b h => by have := B6.out.size; omega) (GeIn.keep (Same.of_below B6.out fun b h => h) _ HG.out) (HV.out.keep (Same.of_below B6.out fun b h => h))).mono ?_
          rintro e w7 ⟨v7, cs7, rfl, hb, hO, hR⟩
          rw [← HR.out] at hO hR
          rw [← HCE.out]
          have B7 := hid (B6.out.trans (hb.mono (by have := B6.out.size; omega)))
          have N7 := hid (hR.rows hO)
          have V7 := hid (V6.out.keep (Same.of_below hb fun b h => by omega))
          obtain ⟨A7, c7, rfl, _, _⟩ := own_slice1 hO
          clear hb hO hR y0 y1 y2 y3
          go_wp2_with fail
          refine (rows_any R R (fun _ => True) _ _ w7 (N7.out.more fun _ _ => trivial) (V7.out.more fun _ _ => trivial)).mono ?_
          rintro e w8 ⟨rfl, q8, rfl⟩
          rw [show decide (R = R) = true from decide_eq_true rfl]
          have B8 := hid (below_drewN B7.out q8)
          generalize w7.drewN q8 = w8 at *
          clear B7
          go_wp2_with fail
          refine (stold_any ce ce w8 (HL.out.below B8.out)).mono ?_
          rintro e w9 ⟨rfl, hb⟩
          have B9 := hid (B8.out.trans (hb.mono (by have := B8.out.size; omega)))
          clear hb
          rw [show decide (ce = ce) = true from decide_eq_true rfl]
          go_wp2_with fail
          go_ret
          exact ⟨rfl, B9.out⟩
end Go.Proofs.YtopehfmppfibhaaDoor
