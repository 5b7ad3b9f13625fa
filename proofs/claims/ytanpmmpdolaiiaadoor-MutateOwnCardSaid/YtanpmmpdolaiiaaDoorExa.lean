/- What mutate.all and All return of an expression: those that are otherwise in one part. Conditions: the package's lists; of all: at most 100 parts, and right. -/
import Derived.Test.YtanpmmpdolaiiaaDoorExd
namespace Go.Proofs.YtanpmmpdolaiiaaDoor
open Go.RowKit Go.Deep
theorem ex_set {G : Nat → Prop} {B g cap i o0 o1 o2 : Nat} {l : List Ex} {t : Ex} {a b c : Value} {k n : Int} {w : World} (e0 : o0 = i * 3) (e1 : o1 = i * 3 + 1) (e2 : o2 = i * 3 + 2) (hG : ∀ x, B ≤ x → x < w.heap.size → G x) (h : EInv B (.slice (some ⟨g, 0, none⟩) l.length cap) l w) (hi : i < l.length)
    (ht : ExIn (fun x => G x ∧ x ≠ g) w t a b c) (hk : (Lit.int .i64 k).wf = true) (hn : (Lit.int .i64 n).wf = true) :
    ExIn G (((w.setCell ⟨g, o0, none⟩ a).setCell ⟨g, o1, none⟩ b).setCell ⟨g, o2, none⟩ c) (.mk k n (l.set i t)) (.int .i64 k) (.int .i64 n) (.slice (some ⟨g, 0, none⟩) l.length cap) := by
  subst e0 e1 e2
  obtain ⟨cs, h1, h2⟩ := h.row
  have l1 := h2.1
  obtain ⟨g', cap', eg, hg1, hg2, hc1, hc2, _⟩ := own_open h1 (by omega)
  injection eg with eg _ ec
  injection eg with eg
  injection eg with eg _ _
  subst eg ec
  have S : Same (fun x => G x ∧ x ≠ g) w (((w.setCell ⟨g, i * 3, none⟩ a).setCell ⟨g, i * 3 + 1, none⟩ b).setCell ⟨g, i * 3 + 2, none⟩ c) := fun x hx => by
    rw [Below.heap_setCell _ _ _ x (by simpa using hx.2), Below.heap_setCell _ _ _ x (by simpa using hx.2), Below.heap_setCell _ _ _ x (by simpa using hx.2)]
  have hg : (Value.slice (some ⟨g, 0, none⟩) l.length cap).ownBlock = some g := rfl
  have O := (((h1.stored (i * 3) a).1.stored (i * 3 + 1) b).1.stored (i * 3 + 2) c).1
  have C : ExCells G (((w.setCell ⟨g, i * 3, none⟩ a).setCell ⟨g, i * 3 + 1, none⟩ b).setCell ⟨g, i * 3 + 2, none⟩ c) (((cs.set (i * 3) a).set (i * 3 + 1) b).set (i * 3 + 2) c) (l.set i t) := by
    refine ⟨by simp [l1], fun j hj => ?_⟩
    rw [List.length_set] at hj
    by_cases hji : j = i
    · subst hji
      refine ⟨a, b, c, ?_, ?_, ?_, ?_⟩
      · rw [List.getElem?_set_ne (by omega), List.getElem?_set_ne (by omega), List.getElem?_set_self (by omega)]
      · rw [List.getElem?_set_ne (by omega), List.getElem?_set_self (by simp; omega)]
      · rw [List.getElem?_set_self (by simp; omega)]
      · rw [List.getElem_set_self]
        exact ExIn.more (fun x hx => hx.1) _ (ExIn.keep S _ ht)
    · obtain ⟨a', b', c', k1, k2, k3, k4⟩ := h2.2 j hj
      refine ⟨a', b', c', ?_, ?_, ?_, ?_⟩
      · rw [List.getElem?_set_ne (by omega), List.getElem?_set_ne (by omega), List.getElem?_set_ne (by omega)]; exact k1
      · rw [List.getElem?_set_ne (by omega), List.getElem?_set_ne (by omega), List.getElem?_set_ne (by omega)]; exact k2
      · rw [List.getElem?_set_ne (by omega), List.getElem?_set_ne (by omega), List.getElem?_set_ne (by omega)]; exact k3
      · rw [List.getElem_set_ne (fun e => hji e.symm)]
        have k5 := ExIn.more (F' := fun x => G x ∧ x ≠ g) (fun x hx => ⟨hG x hx.1 hx.2.1, fun e => hx.2.2 (by rw [e]; rfl)⟩) _ k4
        exact ExIn.more (fun x hx => hx.1) _ (ExIn.keep S _ k5)
  rw [ExIn]
  refine ⟨rfl, rfl, hk, hn, _, cap, by rw [List.length_set], by rw [List.length_set]; exact ⟨hc1, hc2⟩, fun _ => ⟨g, 0, rfl, hG g hg1 hg2, ?_⟩⟩
  refine C.exs (base := B) (e := 24) (cap := cap) ?_
  rw [List.length_set]
  exact O
def outI (k n : Int) (s : List Ex) (i : Nat) : List Ex := chg (.mk k n s) ++ (List.range i).flatMap fun i => ((Exs.muts s).getD i []).map fun t => .mk k n (s.set i t)
def outJ (k n : Int) (s : List Ex) (i : Nat) (ts : List Ex) (j : Nat) : List Ex := outI k n s i ++ (ts.take j).map fun t => .mk k n (s.set i t)
theorem outI_zero (k n : Int) (s : List Ex) : outI k n s 0 = chg (.mk k n s) := by simp [outI]
theorem outI_all (k n : Int) (s : List Ex) : outI k n s s.length = (Ex.mk k n s).muts := by rw [Ex.muts]; rfl
theorem outI_succ {k n : Int} {s : List Ex} {i : Nat} (h : i < s.length) : outI k n s (i + 1) = outJ k n s i s[i].muts s[i].muts.length := by
  unfold outJ outI
  have e := muts_getD h
  rw [List.getD_eq_getElem?_getD] at e
  rw [List.range_succ, List.flatMap_append, List.take_length]
  simp [e]
theorem outJ_zero (k n : Int) (s : List Ex) (i : Nat) (ts : List Ex) : outJ k n s i ts 0 = outI k n s i := by simp [outJ]
theorem outJ_succ {k n : Int} {s : List Ex} {i : Nat} {ts : List Ex} {j : Nat} (h : j < ts.length) : outJ k n s i ts (j + 1) = outJ k n s i ts j ++ [.mk k n (s.set i ts[j])] := by
  unfold outJ
  rw [List.take_succ_eq_append_getElem h, List.map_append, List.append_assoc]; rfl
theorem sum_take_le : ∀ (l : List Nat) (i : Nat), (l.take i).sum ≤ l.sum
  | [], _ => by simp
  | a :: r, 0 => by simp
  | a :: r, i + 1 => by have := sum_take_le r i; simp; omega
theorem outI_len {k n : Int} {s : List Ex} (hs : (Ex.mk k n s).size ≤ 100) {i : Nat} (h : i ≤ s.length) : (outI k n s i).length ≤ 600 := by
  have h1 := muts_le (.mk k n s)
  have h2 := outI_all k n s
  have h3 : (outI k n s i).length ≤ (outI k n s s.length).length := by
    unfold outI
    rw [List.length_append, List.length_append, flat_len, flat_len]
    have e : (List.range i) = (List.range s.length).take i := by rw [List.take_range, Nat.min_eq_left h]
    rw [e, List.map_take]
    have := sum_take_le ((List.range s.length).map fun i => (((Exs.muts s).getD i []).map fun t => Ex.mk k n (s.set i t)).length) i
    omega
  rw [h2] at h3
  omega
theorem outJ_len {k n : Int} {s : List Ex} (hs : (Ex.mk k n s).size ≤ 100) {i j : Nat} (h : i < s.length) : (outJ k n s i s[i].muts j).length ≤ 600 := by
  have h1 := outI_len hs (i := i + 1) h
  rw [outI_succ h] at h1
  have h2 : (outJ k n s i s[i].muts j).length ≤ (outJ k n s i s[i].muts s[i].muts.length).length := by
    unfold outJ; simp; omega
  omega
def AllPost (x : Ex) (w : World) (e : Ending) (w' : World) : Prop := ∃ v, e = .returned v ∧ EInv w.heap.size v x.muts w' ∧ Below w.heap.size w w'
def AllOk (x : Ex) : Prop := ∀ (F : Nat → Prop) (a b c : Value) (w : World), (∀ g, F g → g < w.heap.size) → ExIn F w x a b c → LaidE w → x.size ≤ 100 → x.err = 0 →
  Calls Tryd.prog 9 #[.agg #[a, b, c]] w (AllPost x w)
/-- the row out does not lie among these blocks -/
def Off (v : Value) (b1 b2 : Nat) : Prop := ∀ g, v.ownBlock = some g → g < b1 ∨ b2 ≤ g
set_option maxRecDepth 100000 in
set_option maxHeartbeats 4000000 in
theorem all_step (k n : Int) (s : List Ex) (ih : ∀ y ∈ s, AllOk y) : AllOk (.mk k n s) := by
  intro F a b c w hF hx hL hsz he
  have HF := hid hF
  have IH := hid ih
  have HX := hid hx
  have HL := hid hL
  have HSZ := hid hsz
  have HE := hid he
  obtain ⟨A, cp, rfl, rfl, rfl, l1, l2, hs⟩ := hx.box
  have WF := hid hx.wf
  have HS := hid hs
  have SZ : Hid (∀ y ∈ s, y.size ≤ 100) := fun y hy => by have := Exs.size_mem hy; rw [Ex.size] at hsz; omega
  have ER := hid (Ex.err_parts he).2
  obtain ⟨i0, hi0, hz0, hz1, hz2⟩ := info_parts infoExpr
  have B0 : Hid (Below w.heap.size w (w.alloc (.cells #[.int .i64 k, .int .i64 n, .slice A s.length cp] 24))) := (Below.refl _ _).alloc (Nat.le_refl _) _
  have X0 := hid (Has.new w (.cells #[.int .i64 k, .int .i64 n, .slice A s.length cp] 24))
  clear hF ih hs hsz he hL
  go_enter Tryd.func9, Tryd.ntmps9
  go_wp2_with fail
  refine (changed_any (.mk k n s) F _ _ _ _ (fun g hg => by have := HF.out g hg; simp; omega) (ExIn.keep (Same.of_below B0.out HF.out) _ HX.out) (HL.out.below B0.out) HSZ.out HE.out).mono ?_
  rintro e w1 ⟨v1, rfl, hE1, hb1⟩
  have E1 := hid (hE1.base (B' := w.heap.size + 1) (by simp))
  have B1 := hid (B0.out.trans (hb1.mono (by simp)))
  have X1 := hid (Has.below X0.out hb1 (by simp))
  have x2 := Has.cell X1.out 2
  simp at x2
  clear hE1 hb1 X0 B0
  go_wp2_with fail
  clear x2
  go_loopw [3, 14] (fun ov iv wr => ∃ (i : Nat) (v : Value), i ≤ s.length ∧ ov = v ∧ iv = .int .i64 i ∧ Hid (EInv (w.heap.size + 1) v (outI k n s i) wr) ∧ Hid (wr.heap[w.heap.size]? = some (.cells #[.int .i64 k, .int .i64 n, .slice A s.length cp] 24 (0, 0))) ∧ Hid (Below w.heap.size w wr)) (fun _ iv _ => s.length - (intOf iv).toNat)
  case atStart => exact ⟨0, _, Nat.zero_le _, rfl, rfl, by rw [outI_zero]; exact E1, X1, B1⟩
  case round =>
    obtain ⟨i, v, hi, rfl, rfl, hE, hX, hB⟩ := hrel
    obtain ⟨wo, rfl⟩ : ∃ wo : World, wo = wr := ⟨_, rfl⟩
    have lB := hB.out.size
    have lX := Has.lt hX.out
    clear E1 B1 X1
    by_cases hlt : i < s.length
    · obtain ⟨bl, off, rfl, hFb, hex⟩ := HS.out (by omega)
      have lb := HF.out bl hFb
      obtain ⟨a1, b1, c1, q1, q2, q3, hy⟩ := (ExsIn.keep (Same.of_below hB.out HF.out) s hFb hex).at_ hlt
      have HY := hid hy
      have PI := hid (IH.out s[i] (List.getElem_mem hlt))
      have i1 : (i : Int) < (s.length : Int) := by omega
      have SY := hid (SZ.out s[i] (List.getElem_mem hlt))
      have EY := hid (ER.out s[i] (List.getElem_mem hlt))
      have OI := hid (outI_succ (k := k) (n := n) hlt)
      have OL : Hid (∀ j, (outJ k n s i s[i].muts j).length ≤ 600) := fun j => outJ_len HSZ.out hlt
      have ML := muts_le s[i]
      obtain ⟨⟨k1, n1, s1⟩, hy0⟩ : ∃ y, y = s[i] := ⟨_, rfl⟩
      rw [← hy0] at HY PI SY EY OI OL ML
      have SYo := SY.out
      obtain ⟨A1, cp1, rfl, rfl, rfl, _, _, _⟩ := HY.out.box
      obtain ⟨ts, hts⟩ : ∃ ts, ts = (Ex.mk k1 n1 s1).muts := ⟨_, rfl⟩
      rw [← hts] at OI OL ML
      have HTS := hid hts
      have tl : ts.length ≤ 600 := by omega
      clear hex hy hy0 hts
      go_wp2_with fail
      refine (PI.out F _ _ _ _ (fun g hg => by have := HF.out g hg; simp; omega) (ExIn.keep (fun b hb => Below.heap_alloc _ _ _ (by have := HF.out b hb; omega)) _ HY.out) ((HL.out.below hB.out).below ((Below.refl _ _).alloc (Nat.le_refl _) _)) SY.out EY.out).mono ?_
      rintro e w2 ⟨tv, rfl, hE2, hb2⟩
      rw [← HTS.out] at hE2
      have s2 := hb2.size
      simp only [World.size_alloc] at hE2 hb2 s2
      have BO : Hid (Below wo.heap.size wo w2) := ((Below.refl _ _).alloc (Nat.le_refl _) _).trans (hb2.mono (by simp))
      have B2 := hid (hB.out.trans (BO.out.mono lB))
      have X2 := hid (Has.below hX.out BO.out lX)
      have E3 := hid (hE.out.below BO.out)
      have OFF : Hid (Off u3 (wo.heap.size + 1) w2.heap.size) := fun g hg => by obtain ⟨cs, h1, _⟩ := hE.out.row; have := own_lt h1 g hg; omega
      obtain ⟨tcs, t1, t2⟩ := hE2.row
      obtain ⟨At, ct, rfl, tc1, tc2⟩ := own_slice t1
      unfold maxLen at tc2
      have TO := hid t1
      have TC : Hid (ExCells (fun b => wo.heap.size + 1 ≤ b ∧ b < w2.heap.size) w2 tcs ts) := t2.more fun b h => ⟨h.1, h.2.1⟩
      clear hb2 hE2 t1 t2 q1 q2 q3
      go_wp2_with fail
      go_loopw [3, 22] (fun ov jv wr => ∃ (j : Nat) (v : Value), j ≤ ts.length ∧ ov = v ∧ jv = .int .i64 j ∧ Hid (EInv (w.heap.size + 1) v (outJ k n s i ts j) wr) ∧ Hid (Off v (wo.heap.size + 1) w2.heap.size) ∧ Hid (Same (fun b => wo.heap.size + 1 ≤ b ∧ b < w2.heap.size) w2 wr) ∧ w2.heap.size ≤ wr.heap.size ∧ Hid (wr.heap[w.heap.size]? = some (.cells #[.int .i64 k, .int .i64 n, .slice (some ⟨bl, off, none⟩) s.length cp] 24 (0, 0))) ∧ Hid (Below w.heap.size w wr)) (fun _ jv _ => ts.length - (intOf jv).toNat)
      case atStart => exact ⟨0, _, Nat.zero_le _, rfl, rfl, by rw [outJ_zero]; exact E3, OFF, Same.refl _ _, Nat.le_refl _, X2, B2⟩
      case round =>
        obtain ⟨j, v, hj, rfl, rfl, hEi, hOi, hSi, lwi, hXi, hBi⟩ := hrel
        obtain ⟨wi, rfl⟩ : ∃ wi : World, wi = wr := ⟨_, rfl⟩
        have lBi := hBi.out.size
        have lXi := Has.lt hXi.out
        clear E3 OFF X2 B2
        by_cases hjl : j < ts.length
        · obtain ⟨gt, capt, ea, hg1, hg2, _, _, _⟩ := own_open TO.out (by omega)
          injection ea with ea _ ec
          subst ea ec
          have TX := TC.out.exs TO.out
          obtain ⟨a2, b2, c2, r1, r2, r3, hy2⟩ := (ExsIn.keep hSi.out ts ⟨hg1, hg2⟩ TX).at_ hjl
          have HT := hid hy2
          simp only [Nat.zero_add] at r1 r2 r3
          have j1 : (j : Int) < (ts.length : Int) := by omega
          have OS := hid (outJ_succ (k := k) (n := n) (s := s) (i := i) hjl)
          have OLj := OL.out j
          obtain ⟨⟨k2, n2, s2'⟩, hy0⟩ : ∃ y, y = ts[j] := ⟨_, rfl⟩
          rw [← hy0] at HT OS
          obtain ⟨A2, cp2, rfl, rfl, rfl, _, _, _⟩ := HT.out.box
          have x0 := Has.cell hXi.out 0
          have x1 := Has.cell hXi.out 1
          have x2 := Has.cell hXi.out 2
          simp at x0 x1 x2
          have BT : Hid (Below wi.heap.size wi (wi.alloc (.cells #[.int .i64 k2, .int .i64 n2, .slice A2 s2'.length cp2] 24))) := (Below.refl _ _).alloc (Nat.le_refl _) _
          clear hy2 hy0 TX
          go_wp2_with fail
          refine (copied_any (.mk k n s) F _ _ _ _ (fun g hg => by have := HF.out g hg; simp; omega) (ExIn.keep ((Same.of_below hBi.out HF.out).trans (fun b hb => Below.heap_alloc _ _ _ (by have := HF.out b hb; omega))) _ HX.out) HSZ.out).mono ?_
          rintro e w3 ⟨v3, he, hE3, hb3⟩
          simp only [Ex.k, Ex.n, Ex.s] at he hE3
          subst he
          have s3 := hb3.size
          simp only [World.size_alloc] at hE3 hb3 s3
          obtain ⟨cs3, u1, u2⟩ := hE3.row
          obtain ⟨g3, cap3, e3, ug1, ug2, ucap, _, ucell⟩ := own_open u1 (by omega)
          subst e3
          have E3 := hid hE3
          have lcs := u2.1
          have BT3 : Hid (Below wi.heap.size wi w3) := BT.out.trans (hb3.mono (by simp))
          have y0 : w3.cell? ⟨wi.heap.size, 0, none⟩ = some (.int .i64 k2) := (hb3.cell (p := ⟨wi.heap.size, 0, none⟩) (by simp)).trans (by simp)
          have y1 : w3.cell? ⟨wi.heap.size, 1, none⟩ = some (.int .i64 n2) := (hb3.cell (p := ⟨wi.heap.size, 1, none⟩) (by simp)).trans (by simp)
          have y2 : w3.cell? ⟨wi.heap.size, 2, none⟩ = some (.slice A2 s2'.length cp2) := (hb3.cell (p := ⟨wi.heap.size, 2, none⟩) (by simp)).trans (by simp)
          have ly : wi.heap.size < w3.heap.size := by omega
          obtain ⟨ta, tb, tc, tz0, tz1, tz2, _⟩ := u2.2 i hlt
          have z0 : w3.cell? ⟨g3, i * 3, none⟩ = some ta := (ucell _ (by omega)).trans tz0
          have z1 : w3.cell? ⟨g3, i * 3 + 1, none⟩ = some tb := (ucell _ (by omega)).trans tz1
          have z2 : w3.cell? ⟨g3, i * 3 + 2, none⟩ = some tc := (ucell _ (by omega)).trans tz2
          have f0 := u1.frozenAt (i * 3)
          have f1 := u1.frozenAt (i * 3 + 1)
          have f2 := u1.frozenAt (i * 3 + 2)
          have i3 : (i : Int) < (s.length : Int) := by omega
          have HTF : Hid (ExIn (fun x => wo.heap.size + 1 ≤ x ∧ x < w2.heap.size) w3 (.mk k2 n2 s2') (.int .i64 k2) (.int .i64 n2) (.slice A2 s2'.length cp2)) := ExIn.keep (fun b hb => BT3.out.block b (by have := hb.2; omega)) _ HT.out
          have ES := hid (ex_set (i := i) (o0 := i * 3) (o1 := i * 3 + 1) (o2 := i * 3 + 2) (G := fun x => (wo.heap.size + 1 ≤ x ∧ x < w2.heap.size) ∨ (wi.heap.size + 1 ≤ x ∧ x < w3.heap.size)) rfl rfl rfl (fun x h1 h2 => .inr ⟨h1, h2⟩) hE3 hlt (ExIn.more (fun x hx => ⟨.inl hx, by have := hx.2; omega⟩) _ HTF.out) WF.out.1 WF.out.2)
          have B4 : Hid (Below wi.heap.size wi (((w3.setCell ⟨g3, i * 3, none⟩ (.int .i64 k2)).setCell ⟨g3, i * 3 + 1, none⟩ (.int .i64 n2)).setCell ⟨g3, i * 3 + 2, none⟩ (.slice A2 s2'.length cp2))) := ((BT3.out.setCell (by simp; omega) _).setCell (by simp; omega) _).setCell (by simp; omega) _
          have z4 : (((w3.setCell ⟨g3, i * 3, none⟩ (.int .i64 k2)).setCell ⟨g3, i * 3 + 1, none⟩ (.int .i64 n2)).setCell ⟨g3, i * 3 + 2, none⟩ (.slice A2 s2'.length cp2)).heap.size = w3.heap.size := by simp
          have Z4 := hid z4
          clear z4
          clear hb3 hE3 u1 u2 ucell r1 r2 r3 x0 x1 x2
          go_upto_region 10 with fail
          generalize ((w3.setCell ⟨g3, i * 3, none⟩ (.int .i64 k2)).setCell ⟨g3, i * 3 + 1, none⟩ (.int .i64 n2)).setCell ⟨g3, i * 3 + 2, none⟩ (.slice A2 s2'.length cp2) = w4 at *
          rw [← Z4.out]
          have lw4 : wi.heap.size + 1 ≤ w4.heap.size := by have := Z4.out; omega
          have ez1 : w4.heap.size ≤ w3.heap.size := by have := Z4.out; omega
          have ez2 : w3.heap.size ≤ w4.heap.size := by have := Z4.out; omega
          clear Z4 y0 y1 y2 z0 z1 z2 f0 f1 f2
          have Ei4 := hid (hEi.out.below B4.out)
          have X4 := hid (Has.below hXi.out B4.out lXi)
          have SM4 := hid (hSi.out.trans (fun b hb => B4.out.block b (by have := hb.2; omega)))
          have B5 := hid (hBi.out.trans (B4.out.mono lBi))
          obtain ⟨cs, o1, o2⟩ := Ei4.out.row
          have OWi : Hid (∀ g, u3.ownBlock = some g → g < wi.heap.size) := fun g hg => by obtain ⟨cs', h1, _⟩ := hEi.out.row; exact own_lt h1 g hg
          have OW := hid o1
          have OC := hid o2
          have BA : Hid (Below w4.heap.size w4 ((w4.alloc (.cells #[.int .i64 k, .int .i64 n, .slice (some ⟨g3, 0, none⟩) s.length cap3] 24)).alloc (.cells #[.int .i64 k, .int .i64 n, .slice (some ⟨g3, 0, none⟩) s.length cap3] 24))) := ((Below.refl _ _).alloc (Nat.le_refl _) _).alloc (by simp) _
          have NX : Hid (ExIn (fun b => w.heap.size + 1 ≤ b ∧ b < ((w4.alloc (.cells #[.int .i64 k, .int .i64 n, .slice (some ⟨g3, 0, none⟩) s.length cap3] 24)).alloc (.cells #[.int .i64 k, .int .i64 n, .slice (some ⟨g3, 0, none⟩) s.length cap3] 24)).heap.size ∧ u3.ownBlock ≠ some b) ((w4.alloc (.cells #[.int .i64 k, .int .i64 n, .slice (some ⟨g3, 0, none⟩) s.length cap3] 24)).alloc (.cells #[.int .i64 k, .int .i64 n, .slice (some ⟨g3, 0, none⟩) s.length cap3] 24)) (.mk k n (s.set i (.mk k2 n2 s2'))) (.int .i64 k) (.int .i64 n) (.slice (some ⟨g3, 0, none⟩) s.length cap3)) := by
            refine ExIn.more (fun b h => ?_) _ (ExIn.keep (fun b h => BA.out.block b (by rcases h with h | h <;> omega)) _ ES.out)
            refine ⟨by rcases h with h | h <;> omega, by simp; rcases h with h | h <;> omega, fun e => ?_⟩
            have h1 := hOi.out b e
            have h2 := OWi.out b e
            rcases h with h | h <;> omega
          clear o1 o2
          go_wp2_with (at_builtin; refine wpList_app _ rfl _ _ 22 rfl (w.heap.size + 1) 24 i0 (.agg #[.int .i64 0, .int .i64 0, .slice none 0 0]) 3 40 Tryd.underlying22 hi0 hz0 hz1 hz2 rfl (by decide) u3 _ cs rfl (own_below OW.out BA.out) _ _ 1 [.int .i64 k, .int .i64 n, .slice (some ⟨g3, 0, none⟩) s.length cap3] rfl (cells_three _ _ _ _ (w4.heap.size + 1) (fun b => b = w4.heap.size + 1) (by simp) (by simp) (by simp) rfl) (by intro u hu; simp at hu; rcases hu with rfl | rfl | rfl <;> rfl) (by unfold maxLen; omega) (by omega) (by simp; omega) ?_; intro v5 w5 hown5 hgrow5 hat5; have s5 := hgrow5.size; have EB := hid (einv_snoc (x := .mk k n (s.set i (.mk k2 n2 s2'))) (by simp; omega) (own_below OW.out BA.out) ((OC.out.keep (Same.of_below BA.out fun b h => h.2.1)).more fun b h => ⟨h.1, by have := h.2.1; simp; omega, h.2.2⟩) NX.out hown5 hgrow5 hat5); have X5 := hid (Has.grown (Has.below X4.out BA.out (by omega)) hgrow5 (fun e => by have := own_ge OW.out _ e.symm; omega)); have SM5 : Hid (Same (fun b => wo.heap.size + 1 ≤ b ∧ b < w2.heap.size) w2 w5) := SM4.out.trans (fun b hb => (hgrow5.block b (by have := hb.2; simp; omega) (fun e => by have := hOi.out b e.symm; have := hb.1; have := hb.2; omega)).trans (BA.out.block b (by have := hb.2; omega))); have OF5 : Hid (Off v5 (wo.heap.size + 1) w2.heap.size) := (fun g hg => by rcases hat5 with h | h; (exact hOi.out g (by rw [← h]; exact hg)); (rw [h] at hg; injection hg with hg; simp at hg; omega)); clear hown5 hgrow5 hat5)
          go_roundw
          case rel => exact ⟨j + 1, v5, by omega, rfl, by go_num, by rw [OS.out]; exact EB.out.1, OF5, SM5, by simp at s5; omega, X5, (B5.out.trans (BA.out.mono (by omega))).trans (EB.out.2.mono (by omega))⟩
          case measure => simp [intOf]; omega
        · obtain rfl : j = ts.length := by omega
          go_wp2_with fail
          go_roundw
          case rel => exact ⟨i + 1, _, by omega, rfl, by go_num, by rw [OI.out]; exact hEi, hXi, hBi⟩
          case measure => simp [intOf]; omega
    · obtain rfl : i = s.length := by omega
      go_wp2_with fail
      go_ret
      exact ⟨_, rfl, by rw [← outI_all]; exact hE.out.base (by omega), hB.out⟩
theorem all_any : ∀ x, AllOk x := Ex.ind all_step
end Go.Proofs.YtanpmmpdolaiiaaDoor
