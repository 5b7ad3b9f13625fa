/- The law MutateOwn: it returns true, and all that the call was given reads as before. Conditions: expr's and mutate's lists, and the variable errors.errorType. -/
import Derived.Test.YtanpmmpdolaiiaaDoorEfa
import Derived.Test.YtanpmmpdolaiiaaDoorExs
import Derived.Test.YtanpmmpdolaiiaaDoorEve
import Derived.Test.YtanpmmpdolaiiaaDoorVar
import Derived.Test.YtanpmmpdolaiiaaDoorAsy
import Derived.BigQuiet
import Derived.Deep.QuietTactic
namespace Go.Proofs.YtanpmmpdolaiiaaDoor
open Go.RowKit Go.Deep
theorem eval_atE (t : Ex) (v : Va) (a b c a' b' c' : Value) (W w : World) (hL : LaidE W) (hb : Below W.heap.size W w) (hx : ExIn (fun g => g < W.heap.size) W t a b c) (hv : VaIn (fun g => g < W.heap.size) W v a' b' c') :
    Calls Tryd.prog 5 #[.agg #[a, b, c], .agg #[a', b', c']] w (EvalPost (evalR t v) w) := by
  have hs := hb.size
  have hx' := ExIn.more (F' := fun g => g < w.heap.size) (fun g h => by omega) _ (ExIn.keep (Same.of_below hb fun g h => h) _ hx)
  have hv' := VaIn.more (F' := fun g => g < w.heap.size) (fun g h => by omega) _ (VaIn.keep (Same.of_below hb fun g h => h) _ hv)
  exact eval_any t v (fun g => g < w.heap.size) a b c a' b' c' w (fun g h => h) hx' hv' fun w2 h2 =>
    echeck_any t (fun g => g < w.heap.size) a b c w2 (fun g h => by have := h2.size; omega) (ExIn.keep (Same.of_below h2 fun g h => h) _ hx') ((hL.below hb).below h2)
theorem cells6 {Wb w : World} {g h : Nat} {a0 a1 a2 b0 b1 b2 : Value} (hb : Below Wb.heap.size Wb w) (c : Wb.cell? ⟨g, 0, none⟩ = some a0 ∧ Wb.cell? ⟨g, 1, none⟩ = some a1 ∧ Wb.cell? ⟨g, 2, none⟩ = some a2 ∧ Wb.cell? ⟨h, 0, none⟩ = some b0 ∧ Wb.cell? ⟨h, 1, none⟩ = some b1 ∧ Wb.cell? ⟨h, 2, none⟩ = some b2) :
    w.cell? ⟨g, 0, none⟩ = some a0 ∧ w.cell? ⟨g, 1, none⟩ = some a1 ∧ w.cell? ⟨g, 2, none⟩ = some a2 ∧ w.cell? ⟨h, 0, none⟩ = some b0 ∧ w.cell? ⟨h, 1, none⟩ = some b1 ∧ w.cell? ⟨h, 2, none⟩ = some b2 :=
  ⟨(hb.cell (cell_lt c.1)).trans c.1, (hb.cell (cell_lt c.2.1)).trans c.2.1, (hb.cell (cell_lt c.2.2.1)).trans c.2.2.1, (hb.cell (cell_lt c.2.2.2.1)).trans c.2.2.2.1, (hb.cell (cell_lt c.2.2.2.2.1)).trans c.2.2.2.2.1, (hb.cell (cell_lt c.2.2.2.2.2)).trans c.2.2.2.2.2⟩
theorem lit_two : (mutsR (.mk 1 0 [])).length = 2 ∧ chkE (.mk 1 0 []) = 0 := by
  have h : chkE (.mk 1 0 []) = 0 := by decide
  exact ⟨by unfold mutsR; rw [if_pos h]; exact muts_lit 0, h⟩
theorem eqB_self (x : Ex) : x.eqB x = true := (Ex.eqB_iff x x).2 rfl
/-- blocks of those that were written -/
def Used (D : Nat → Nat → Prop) (m i b : Nat) : Prop := ∃ j, j < i ∧ j < m ∧ j % 2 = 0 ∧ D j b
theorem Used.more {D : Nat → Nat → Prop} {m i i' b : Nat} (h : Used D m i b) (hi : i ≤ i') : Used D m i' b := by
  obtain ⟨j, h1, h2⟩ := h
  exact ⟨j, by omega, h2⟩
theorem used_apart {D : Nat → Nat → Prop} {m i b : Nat} (ha : ∀ i j b, i < m → j < m → D i b → D j b → i = j) {k : Nat} (hk : k < m) (hki : ¬ (k < i ∧ k % 2 = 0)) (h : D k b) : ¬ Used D m i b := by
  rintro ⟨j, h1, h2, h3, h4⟩
  obtain rfl := ha k j b hk h2 h h4
  exact hki ⟨h1, h3⟩
/-- one expression is written into a row of expressions -/
theorem own_put {w : World} {g m cap k o0 o1 o2 : Nat} {cs : List Value} (e0 : o0 = k * 3) (e1 : o1 = k * 3 + 1) (e2 : o2 = k * 3 + 2) (h : w.ownsRow 0 24 3 (.slice (some ⟨g, 0, none⟩) m cap) m cs) (a b c : Value) :
    ∃ cs', (((w.setCell ⟨g, o0, none⟩ a).setCell ⟨g, o1, none⟩ b).setCell ⟨g, o2, none⟩ c).ownsRow 0 24 3 (.slice (some ⟨g, 0, none⟩) m cap) m cs' :=
  ⟨_, (((h.stored o0 a).1.stored o1 b).1.stored o2 c).1⟩
set_option maxRecDepth 100000 in
set_option maxHeartbeats 8000000 in
theorem mutateOwn_walk (x : Ex) (vx : Value) (v : Va) (vv : Value) (n : Int) (W : World) (hL : LaidE W) (hG : Laid W) (hx : ExV (fun b => b < W.heap.size) W vx x) (hv : VaV (fun b => b < W.heap.size) W vv v) :
    Calls Tryd.prog 3 #[vx, vv, .int .i64 n] W (LawPost W) := by
  obtain ⟨a1, a2, a3, rfl, hx⟩ := hx
  obtain ⟨d1, d2, d3, rfl, hv⟩ := hv
  obtain ⟨xk, xn, xs⟩ := x
  obtain ⟨vk, vn, vs⟩ := v
  have HX := hid hx
  have HV := hid hv
  have HL := hid hL
  have HG := hid hG
  obtain ⟨A1, p1, rfl, rfl, rfl, _, _, _⟩ := hx.box
  obtain ⟨A4, p4, rfl, rfl, rfl, _, _, _⟩ := hv.box
  obtain ⟨Wb, hWb⟩ : ∃ Wb, Wb = (W.alloc (.cells #[.int .i64 xk, .int .i64 xn, .slice A1 xs.length p1] 24)).alloc (.cells #[.bool vk, .int .i64 vn, .slice A4 vs.length p4] 27) := ⟨_, rfl⟩
  have BW : Hid (Below W.heap.size W Wb) := by show Below _ _ _; rw [hWb]; exact ((Below.refl _ _).alloc (Nat.le_refl _) _).alloc (by simp) _
  have SB : Wb.heap.size = W.heap.size + 2 := by rw [hWb]; simp
  have CB : Hid (Wb.cell? ⟨W.heap.size, 0, none⟩ = some (.int .i64 xk) ∧ Wb.cell? ⟨W.heap.size, 1, none⟩ = some (.int .i64 xn) ∧ Wb.cell? ⟨W.heap.size, 2, none⟩ = some (.slice A1 xs.length p1) ∧ Wb.cell? ⟨W.heap.size + 1, 0, none⟩ = some (.bool vk) ∧ Wb.cell? ⟨W.heap.size + 1, 1, none⟩ = some (.int .i64 vn) ∧ Wb.cell? ⟨W.heap.size + 1, 2, none⟩ = some (.slice A4 vs.length p4)) := by
    have X0 := Has.alloc (Has.new W (.cells #[.int .i64 xk, .int .i64 xn, .slice A1 xs.length p1] 24)) (.cells #[.bool vk, .int .i64 vn, .slice A4 vs.length p4] 27)
    have X1 := Has.newAt (g := W.heap.size + 1) (W.alloc (.cells #[.int .i64 xk, .int .i64 xn, .slice A1 xs.length p1] 24)) (.cells #[.bool vk, .int .i64 vn, .slice A4 vs.length p4] 27) (by simp)
    rw [← hWb] at X0 X1
    exact ⟨(Has.cell X0 0).trans rfl, (Has.cell X0 1).trans rfl, (Has.cell X0 2).trans rfl, (Has.cell X1 0).trans rfl, (Has.cell X1 1).trans rfl, (Has.cell X1 2).trans rfl⟩
  have XB : Hid (ExIn (fun b => b < Wb.heap.size) Wb (.mk xk xn xs) (.int .i64 xk) (.int .i64 xn) (.slice A1 xs.length p1)) := ExIn.more (fun b h => by omega) _ (ExIn.keep (Same.of_below BW.out fun b h => h) _ HX.out)
  have VB : Hid (VaIn (fun b => b < Wb.heap.size) Wb (.mk vk vn vs) (.bool vk) (.int .i64 vn) (.slice A4 vs.length p4)) := VaIn.more (fun b h => by omega) _ (VaIn.keep (Same.of_below BW.out fun b h => h) _ HV.out)
  have LB := hid (HL.out.below BW.out)
  have GB := hid (HG.out.below BW.out)
  clear hL hG hx hv HX HV HL HG
  by_cases hc : chkE (.mk xk xn xs) = 0
  · have E0 : Hid (errV (chkE (.mk xk xn xs)) = .nilIface) := by show _ = _; rw [hc]; rfl
    have M0 : Hid (mutsR (.mk xk xn xs) = (Ex.mk xk xn xs).muts) := by show _ = _; unfold mutsR; rw [if_pos hc]
    have ML := muts_le (.mk xk xn xs)
    have SZ := size_le hc
    obtain ⟨L, hLm⟩ : ∃ L, L = (Ex.mk xk xn xs).muts := ⟨_, rfl⟩
    rw [← hLm] at M0 ML
    have ll : L.length ≤ 200 := by omega
    have R0 : Hid (∃ R, R = evalR (.mk xk xn xs) (.mk vk vn vs)) := ⟨_, rfl⟩
    obtain ⟨⟨r1, r2⟩, hR⟩ := R0.out
    have HR := hid hR
    clear hc hLm ML SZ R0 hR
    go_enter Tryd.func3, Tryd.ntmps3
    go_wp2_with fail
    rw [← hWb]
    refine (allFR_any (.mk xk xn xs) (fun b => b < Wb.heap.size) _ _ _ Wb (fun b h => h) XB.out LB.out).mono ?_
    rintro e w1 ⟨va, rfl, hEa, hb1⟩
    rw [E0.out]
    rw [M0.out] at hEa
    obtain ⟨Aa, ca, rfl⟩ := hEa.slice
    have B1 := hid hb1
    have EA := hid hEa
    clear hb1 hEa
    obtain ⟨x0, x1, x2, _⟩ := cells6 B1.out CB.out
    go_wp2_with fail
    refine (allFR_any (.mk xk xn xs) (fun b => b < Wb.heap.size) _ _ _ w1 (fun b h => by have := B1.out.size; omega) (ExIn.keep (Same.of_below B1.out fun b h => h) _ XB.out) (LB.out.below B1.out)).mono ?_
    rintro e w2 ⟨vb, rfl, hEb, hb2⟩
    rw [E0.out]
    rw [M0.out] at hEb
    obtain ⟨Ab, cb, rfl⟩ := hEb.slice
    have B2 := hid (B1.out.trans (hb2.mono B1.out.size))
    have EA2 := hid (EA.out.bound (P' := fun b => b < w1.heap.size) (fun b _ _ h => h) |>.below hb2)
    have EB := hid hEb
    have s2 := hb2.size
    clear x0 x1 x2 hb2 hEb EA
    go_wp2_with fail
    refine (allFR_any (.mk 1 0 []) (fun b => b < Wb.heap.size) _ _ _ w2 (fun b h => by have := B2.out.size; omega) (ex_leaf (by decide) (by decide)) (LB.out.below B2.out)).mono ?_
    rintro e w3 ⟨vf, rfl, hEf, hb3⟩
    rw [show errV (chkE (.mk 1 0 [])) = .nilIface from by rw [lit_two.2]; rfl]
    obtain ⟨Af, cf, rfl⟩ := hEf.slice
    rw [lit_two.1]
    have B3 := hid (B2.out.trans (hb3.mono B2.out.size))
    have EA3 := hid (EA2.out.below hb3)
    have EB3 := hid (EB.out.below hb3)
    clear hb3 hEf EA2 EB
    have d1 : ((2 : Int) != 2) = false := by decide
    have d2 : ((L.length : Int) != (L.length : Int)) = false := by simp
    go_upto_region 4 with fail
    go_quiet (fail)
    have ND := hid (below_drewN (Below.refl w3.heap.size w3) nq)
    generalize w3.drewN nq = wn at *
    have BN := hid (B3.out.trans (ND.out.mono B3.out.size))
    have EAN := hid (EA3.out.below ND.out)
    have EBN := hid (EB3.out.below ND.out)
    clear EA3 EB3 B3 ND
    obtain ⟨x0, x1, x2, z0, z1, z2⟩ := cells6 BN.out CB.out
    go_wp2_with fail
    refine (eval_atE (.mk xk xn xs) (.mk vk vn vs) _ _ _ _ _ _ Wb wn LB.out BN.out XB.out VB.out).mono ?_
    rintro e w4 ⟨rfl, hb4⟩
    rw [← HR.out]
    have B4 := hid (BN.out.trans (hb4.mono BN.out.size))
    obtain ⟨csa, oa, D, ⟨la, fa⟩, da, aa⟩ := EAN.out.below hb4
    obtain ⟨csb, ob, Db, ⟨lb, fb⟩, db, ab⟩ := EBN.out.below hb4
    have OA := hid oa
    have FA := hid fa
    have DA := hid da
    have AA := hid aa
    have OB := hid ob
    have FB := hid fb
    have DB := hid db
    clear hb4 x0 x1 x2 z0 z1 z2 oa fa da aa ob fb db ab EAN EBN
    go_wp2_with fail
    go_loopw [15] (fun iv wr => ∃ i : Nat, i % 2 = 0 ∧ i ≤ L.length + 1 ∧ iv = .int .i64 i ∧ Hid (Same (fun b => b < w4.heap.size ∧ ¬ Used D L.length i b) w4 wr) ∧ w4.heap.size ≤ wr.heap.size ∧ Hid (Below Wb.heap.size Wb wr)) (fun iv _ => L.length + 1 - (intOf iv).toNat)
    case atStart => exact ⟨0, rfl, Nat.zero_le _, rfl, Same.refl _ _, Nat.le_refl _, B4⟩
    case round =>
      obtain ⟨i, hev, hi, rfl, hS, hsz, hB⟩ := hrel
      obtain ⟨wo, rfl⟩ : ∃ wo : World, wo = wr := ⟨_, rfl⟩
      by_cases hlt : i < L.length
      · obtain ⟨ga, capa, ea, hg1, hg2, _, _, hcl⟩ := own_open OA.out (by omega)
        injection ea with ea _ ec
        subst ea ec
        obtain ⟨a2, b2, c2, m1, m2, m3, hy1⟩ := FA.out i hlt
        have GA : Hid (∀ b, Used D L.length i b → b ≠ ga) := fun b ⟨j, _, h2, _, h4⟩ e => (DA.out j h2 b h4).2.2.2 (by rw [e]; rfl)
        have r2 : wo.cell? ⟨ga, i * 3 + 2, none⟩ = some c2 := (hS.out.cell (p := ⟨ga, i * 3 + 2, none⟩) ⟨hg2, fun h => GA.out _ h rfl⟩).trans ((hcl _ (by omega)).trans m3)
        have hy2 : Elt (D i) wo L[i] a2 b2 c2 := hy1.keep fun b hb => hS.out b ⟨(DA.out i hlt b hb).2.2.1, used_apart AA.out hlt (by omega) hb⟩
        have GE := hid (DA.out i hlt)
        have i1 : (i : Int) < (L.length : Int) := by omega
        obtain ⟨⟨k2, n2, s2⟩, hy0⟩ : ∃ y, y = L[i] := ⟨_, rfl⟩
        rw [← hy0] at hy2
        obtain ⟨A2, cp2, rfl, rfl, rfl, sl1, sl2, _⟩ := hy2.1.box
        have HY := hid hy2
        have R2 := hid r2
        clear hy1 hy2 hy0 m1 m2 m3 hcl
        go_wp2_with fail
        go_loopw [16] (fun kv wr => ∃ k : Nat, k ≤ s2.length ∧ kv = .int .i64 k ∧ Hid (∃ cs, wr.ownsRow 0 24 3 (.slice A2 s2.length cp2) s2.length cs) ∧ Hid (wr.cell? ⟨ga, i * 3 + 2, none⟩ = some (.slice A2 s2.length cp2)) ∧ Hid (Same (fun b => b < w4.heap.size ∧ ¬ Used D L.length (i + 1) b) w4 wr) ∧ w4.heap.size ≤ wr.heap.size ∧ Hid (Below Wb.heap.size Wb wr)) (fun kv _ => s2.length - (intOf kv).toNat)
        case atStart => exact ⟨0, Nat.zero_le _, rfl, HY.out.2.2, R2, fun b h => hS.out b ⟨h.1, fun h2 => h.2 (h2.more (by omega))⟩, hsz, hB⟩
        case round =>
          obtain ⟨k, hk, rfl, hO, hR2, hS2, hsz2, hB2⟩ := hrel
          obtain ⟨wi, rfl⟩ : ∃ wi : World, wi = wr := ⟨_, rfl⟩
          have r3 := hR2.out
          clear r2
          by_cases hkl : k < s2.length
          · obtain ⟨cs, o1⟩ := hO.out
            obtain ⟨g, cap, ee, _, gl, _, _, gc⟩ := own_open o1 (by omega)
            injection ee with ee _ ec
            subst ee ec
            have lcs : cs.length = s2.length * 3 := o1.1
            have gD := HY.out.2.1 g rfl
            have gN := GE.out g gD
            have gne : g ≠ ga := fun e => gN.2.2.2 (by rw [e]; rfl)
            have q0 : wi.cell? ⟨g, k * 3, none⟩ = some cs[k * 3] := by rw [gc _ (by omega)]; exact List.getElem?_eq_getElem _
            have q1 : wi.cell? ⟨g, k * 3 + 1, none⟩ = some cs[k * 3 + 1] := by rw [gc _ (by omega)]; exact List.getElem?_eq_getElem _
            have q2 : wi.cell? ⟨g, k * 3 + 2, none⟩ = some cs[k * 3 + 2] := by rw [gc _ (by omega)]; exact List.getElem?_eq_getElem _
            have f0 := o1.frozenAt (k * 3)
            have f1 := o1.frozenAt (k * 3 + 1)
            have f2 := o1.frozenAt (k * 3 + 2)
            have k1 : (k : Int) < (s2.length : Int) := by omega
            have NO := hid (own_put (k := k) rfl rfl rfl o1 (.int .i64 1) (.int .i64 n) (.slice none 0 0))
            have NB : Hid (Below Wb.heap.size Wb (((wi.setCell ⟨g, k * 3, none⟩ (.int .i64 1)).setCell ⟨g, k * 3 + 1, none⟩ (.int .i64 n)).setCell ⟨g, k * 3 + 2, none⟩ (.slice none 0 0))) := ((hB2.out.setCell (p := ⟨g, k * 3, none⟩) gN.2.1 _).setCell (p := ⟨g, k * 3 + 1, none⟩) gN.2.1 _).setCell (p := ⟨g, k * 3 + 2, none⟩) gN.2.1 _
            have NF : ∀ b, b ≠ g → (((wi.setCell ⟨g, k * 3, none⟩ (.int .i64 1)).setCell ⟨g, k * 3 + 1, none⟩ (.int .i64 n)).setCell ⟨g, k * 3 + 2, none⟩ (.slice none 0 0)).heap[b]? = wi.heap[b]? := fun b hb => by
              rw [Below.heap_setCell _ _ _ b (by simpa using hb), Below.heap_setCell _ _ _ b (by simpa using hb), Below.heap_setCell _ _ _ b (by simpa using hb)]
            have NS : Hid (Same (fun b => b < w4.heap.size ∧ ¬ Used D L.length (i + 1) b) w4 (((wi.setCell ⟨g, k * 3, none⟩ (.int .i64 1)).setCell ⟨g, k * 3 + 1, none⟩ (.int .i64 n)).setCell ⟨g, k * 3 + 2, none⟩ (.slice none 0 0))) := fun b h => (NF b (fun e => h.2 ⟨i, by omega, hlt, hev, by rw [e]; exact gD⟩)).trans (hS2.out b h)
            have NR : Hid ((((wi.setCell ⟨g, k * 3, none⟩ (.int .i64 1)).setCell ⟨g, k * 3 + 1, none⟩ (.int .i64 n)).setCell ⟨g, k * 3 + 2, none⟩ (.slice none 0 0)).cell? ⟨ga, i * 3 + 2, none⟩ = some (.slice (some ⟨g, 0, none⟩) s2.length cp2)) := (World.cell?_of_block (w := wi) (NF ga (fun e => gne e.symm))).trans hR2.out
            have NZ : (((wi.setCell ⟨g, k * 3, none⟩ (.int .i64 1)).setCell ⟨g, k * 3 + 1, none⟩ (.int .i64 n)).setCell ⟨g, k * 3 + 2, none⟩ (.slice none 0 0)).heap.size = wi.heap.size := by simp
            clear o1 gc NF
            go_wp2_with fail
            go_roundw
            case rel => exact ⟨k + 1, by omega, by go_num, NO, NR, NS, by rw [NZ]; exact hsz2, NB⟩
            case measure => simp [intOf]; omega
          · obtain rfl : k = s2.length := by omega
            go_wp2_with fail
            go_roundw
            case rel => exact ⟨i + 2, by omega, by omega, by go_num, fun b h => hS2.out b ⟨h.1, fun ⟨j, j1, j2⟩ => h.2 ⟨j, by omega, j2⟩⟩, hsz2, hB2⟩
            case measure => simp [intOf]; omega
      · have B5 := hid hB.out
        have UN : Hid (∀ j, j < L.length → j % 2 = 1 → ∀ b, D j b → ¬ Used D L.length i b) := fun j hj ho b hb => used_apart AA.out hj (by omega) hb
        have UO : Hid (∀ b, w1.heap.size ≤ b → ¬ Used D L.length i b) := fun b hb ⟨j, _, h2, _, h4⟩ => by have := (DA.out j h2 b h4).1; omega
        have UA : Hid (∀ b, Used D L.length i b → (Value.slice Aa L.length ca).ownBlock ≠ some b) := fun b ⟨j, _, h2, _, h4⟩ => (DA.out j h2 b h4).2.2.2
        clear AA
        go_wp2_with fail
        go_loopw [17] (fun iv wr => ∃ k : Nat, k % 2 = 1 ∧ k ≤ L.length + 2 ∧ iv = .int .i64 k ∧ Hid (Below wo.heap.size wo wr)) (fun iv _ => L.length + 2 - (intOf iv).toNat)
        case atStart => exact ⟨1, rfl, by omega, rfl, Below.refl _ _⟩
        case round =>
          obtain ⟨k, hod, hk, rfl, hBr⟩ := hrel
          obtain ⟨wi, rfl⟩ : ∃ wi : World, wi = wr := ⟨_, rfl⟩
          have B6 := hid (B5.out.trans (hBr.out.mono B5.out.size))
          have lwi := hBr.out.size
          by_cases hkl : k < L.length
          · obtain ⟨ga, capa, ea, hg1, hg2, _, _, hcl⟩ := own_open OA.out (by omega)
            injection ea with ea _ ec
            subst ea ec
            obtain ⟨a2, b2, c2, m1, m2, m3, hy1⟩ := FA.out k hkl
            have gn : ¬ Used D L.length i ga := fun h => UA.out ga h rfl
            have RD : ∀ j u, j < L.length * 3 → csa[j]? = some u → wi.cell? ⟨ga, j, none⟩ = some u := fun j u hj hu => (hBr.out.cell (p := ⟨ga, j, none⟩) (by show ga < _; omega)).trans ((hS.out.cell (p := ⟨ga, j, none⟩) ⟨hg2, gn⟩).trans ((hcl j hj).trans hu))
            have r0 := RD _ _ (by omega) m1
            have r1' := RD _ _ (by omega) m2
            have r2' := RD _ _ (by omega) m3
            have hya := ExIn.more (F' := fun b => b < wi.heap.size) (fun b hb => by have := (DA.out k hkl b hb).2.2.1; omega) _ (ExIn.keep (w := w4) (w' := wi) (fun b hb => (hBr.out.block b (by have := (DA.out k hkl b hb).2.2.1; omega)).trans (hS.out b ⟨(DA.out k hkl b hb).2.2.1, UN.out k hkl hod b hb⟩)) _ hy1.1)
            obtain ⟨gb, capb, eb, hh1, hh2, _, _, hcl2⟩ := own_open OB.out (by omega)
            injection eb with eb _ ec
            subst eb ec
            obtain ⟨a3, b3, c3, m4, m5, m6, hy3⟩ := FB.out k hkl
            have RE : ∀ j u, j < L.length * 3 → csb[j]? = some u → wi.cell? ⟨gb, j, none⟩ = some u := fun j u hj hu => (hBr.out.cell (p := ⟨gb, j, none⟩) (by show gb < _; omega)).trans ((hS.out.cell (p := ⟨gb, j, none⟩) ⟨hh2, UO.out gb hh1⟩).trans ((hcl2 j hj).trans hu))
            have q0 := RE _ _ (by omega) m4
            have q1 := RE _ _ (by omega) m5
            have q2 := RE _ _ (by omega) m6
            have hyb := ExIn.more (F' := fun b => b < wi.heap.size) (fun b hb => by have := (DB.out k hkl b hb).2.2.1; omega) _ (ExIn.keep (w := w4) (w' := wi) (fun b hb => (hBr.out.block b (by have := (DB.out k hkl b hb).2.2.1; omega)).trans (hS.out b ⟨(DB.out k hkl b hb).2.2.1, UO.out b (DB.out k hkl b hb).2.1⟩)) _ hy3.1)
            have k1 : (k : Int) < (L.length : Int) := by omega
            obtain ⟨⟨k2, n2, s2⟩, hy0⟩ : ∃ y, y = L[k] := ⟨_, rfl⟩
            rw [← hy0] at hya hyb
            obtain ⟨A2, cp2, rfl, rfl, rfl, _, _, _⟩ := hya.box
            obtain ⟨A3, cp3, rfl, rfl, rfl, _, _, _⟩ := hyb.box
            have HA := hid hya
            have HB := hid hyb
            clear hy1 hy3 hya hyb hy0 m1 m2 m3 m4 m5 m6 hcl hcl2 RD RE gn
            go_upto_region 17 with fail
            go_cut [18] (fun cv wx => cv = .bool true ∧ Hid (Below wi.heap.size wi wx))
            case first => as_aux_lemma =>
              go_region_law (go_simp; go_at_call 6; refine (same_any (.mk k2 n2 s2) (.mk k2 n2 s2) (fun b => b < wi.heap.size) _ _ _ _ _ _ wi.drew (fun g hg => by simpa using hg) (ExIn.keep (w := wi) (w' := wi.drew) (fun _ _ => rfl) _ HA.out) (ExIn.keep (w := wi) (w' := wi.drew) (fun _ _ => rfl) _ HB.out)).mono ?_; rintro e w9 ⟨rfl, hb9⟩; have B9 : Hid (Below wi.heap.size wi w9) := (Below.refl _ wi).drew.trans hb9; rw [eqB_self])
              all_goals
                go_wp2_with fail
                go_meet
                exact ⟨rfl, B9⟩
            case rest =>
            obtain ⟨rfl, B9⟩ := hcut
            obtain ⟨w9, rfl⟩ : ∃ w9 : World, w9 = wc := ⟨_, rfl⟩
            have B10 := hid (hBr.out.trans (B9.out.mono lwi))
            clear r0 r1' r2' q0 q1 q2
            go_wp2_with fail
            go_roundw
            case rel => exact ⟨k + 2, by omega, by omega, by go_num, B10⟩
            case measure => simp [intOf]; omega
          · obtain ⟨x0, x1, x2, z0, z1, z2⟩ := cells6 B6.out CB.out
            go_wp2_with fail
            refine (eval_atE (.mk xk xn xs) (.mk vk vn vs) _ _ _ _ _ _ Wb wi LB.out B6.out XB.out VB.out).mono ?_
            rintro e w7 ⟨rfl, hb7⟩
            rw [← HR.out]
            have B7 := hid (B6.out.trans (hb7.mono B6.out.size))
            clear hb7 x0 x1 x2 z0 z1 z2
            go_wp2_with fail
            refine (stold_any r2 r2 _ (GB.out.below B7.out)).mono ?_
            rintro e w8 ⟨rfl, hb8⟩
            have B8 := hid (B7.out.trans (hb8.mono B7.out.size))
            have e1 : decide (r2 = r2) = true := by simp
            have e2 : (r1 == r1) = true := by simp
            rw [e1]
            clear hb8
            go_wp2_with fail
            go_ret
            exact ⟨rfl, BW.out.trans (B8.out.mono BW.out.size)⟩
  · have E0 : Hid (errV (chkE (.mk xk xn xs)) = .iface 40 (.int .i64 (chkE (.mk xk xn xs)))) := by show _ = _; rw [errV_no hc]
    have M0 : Hid (mutsR (.mk xk xn xs) = []) := by show _ = _; unfold mutsR; rw [if_neg hc]
    have R0 : Hid (∃ R, R = evalR (.mk xk xn xs) (.mk vk vn vs)) := ⟨_, rfl⟩
    obtain ⟨⟨r1, r2⟩, hR⟩ := R0.out
    have HR := hid hR
    clear hc R0 hR
    go_enter Tryd.func3, Tryd.ntmps3
    go_wp2_with fail
    rw [← hWb]
    refine (allFR_any (.mk xk xn xs) (fun b => b < Wb.heap.size) _ _ _ Wb (fun b h => h) XB.out LB.out).mono ?_
    rintro e w1 ⟨va, rfl, hEa, hb1⟩
    rw [E0.out]
    rw [M0.out] at hEa
    obtain ⟨Aa, ca, rfl⟩ := hEa.slice
    rw [List.length_nil]
    have B1 := hid hb1
    clear hb1 hEa
    obtain ⟨x0, x1, x2, _⟩ := cells6 B1.out CB.out
    go_wp2_with fail
    refine (allFR_any (.mk xk xn xs) (fun b => b < Wb.heap.size) _ _ _ w1 (fun b h => by have := B1.out.size; omega) (ExIn.keep (Same.of_below B1.out fun b h => h) _ XB.out) (LB.out.below B1.out)).mono ?_
    rintro e w2 ⟨vb, rfl, hEb, hb2⟩
    rw [E0.out]
    rw [M0.out] at hEb
    obtain ⟨Ab, cb, rfl⟩ := hEb.slice
    rw [List.length_nil]
    have B2 := hid (B1.out.trans (hb2.mono B1.out.size))
    clear x0 x1 x2 hb2 hEb
    go_wp2_with fail
    refine (allFR_any (.mk 1 0 []) (fun b => b < Wb.heap.size) _ _ _ w2 (fun b h => by have := B2.out.size; omega) (ex_leaf (by decide) (by decide)) (LB.out.below B2.out)).mono ?_
    rintro e w3 ⟨vf, rfl, hEf, hb3⟩
    rw [show errV (chkE (.mk 1 0 [])) = .nilIface from by rw [lit_two.2]; rfl]
    obtain ⟨Af, cf, rfl⟩ := hEf.slice
    rw [lit_two.1]
    have B3 := hid (B2.out.trans (hb3.mono B2.out.size))
    clear hb3 hEf
    generalize chkE (.mk xk xn xs) = ec at *
    have d1 : ((2 : Int) != 2) = false := by decide
    go_upto_region 4 with fail
    go_quiet (fail)
    have ND := hid (below_drewN (Below.refl w3.heap.size w3) nq)
    generalize w3.drewN nq = wn at *
    have BN := hid (B3.out.trans (ND.out.mono B3.out.size))
    clear B3 ND
    obtain ⟨x0, x1, x2, z0, z1, z2⟩ := cells6 BN.out CB.out
    go_wp2_with fail
    refine (eval_atE (.mk xk xn xs) (.mk vk vn vs) _ _ _ _ _ _ Wb wn LB.out BN.out XB.out VB.out).mono ?_
    rintro e w4 ⟨rfl, hb4⟩
    rw [← HR.out]
    have B4 := hid (BN.out.trans (hb4.mono BN.out.size))
    clear hb4 x0 x1 x2 z0 z1 z2
    obtain ⟨x0, x1, x2, z0, z1, z2⟩ := cells6 B4.out CB.out
    go_wp2_with fail
    refine wp_loop_rounds 1 ?_
    rw [rounds_succ]
    go_wp2_with fail
    refine wp_loop_rounds 1 ?_
    rw [rounds_succ]
    go_wp2_with fail
    refine (eval_atE (.mk xk xn xs) (.mk vk vn vs) _ _ _ _ _ _ Wb w4 LB.out B4.out XB.out VB.out).mono ?_
    rintro e w7 ⟨rfl, hb7⟩
    rw [← HR.out]
    have B7 := hid (B4.out.trans (hb7.mono B4.out.size))
    clear hb7 x0 x1 x2 z0 z1 z2
    go_wp2_with fail
    refine (stold_any r2 r2 _ (GB.out.below B7.out)).mono ?_
    rintro e w8 ⟨rfl, hb8⟩
    have B8 := hid (B7.out.trans (hb8.mono B7.out.size))
    have e1 : decide (r2 = r2) = true := by simp
    have e2 : (r1 == r1) = true := by simp
    rw [e1]
    clear hb8
    go_wp2_with fail
    go_ret
    exact ⟨rfl, BW.out.trans (B8.out.mono BW.out.size)⟩
end Go.Proofs.YtanpmmpdolaiiaaDoor
