/- What slices.DeleteFunc does to a row of fours of the call's own. Condition: the function value's contract. -/
import Derived.Test.YtkiljnggphlomaaDoorQix
import Derived.Test.YtkiljnggphlomaaDoorCrw
namespace Go.Proofs.YtkiljnggphlomaaDoor
open Go.RowKit Go.Deep
theorem qcells_set (m : List Four) (i : Nat) (x y z t : Int) : ((((qcells m).set (i * 4) (.int .i64 x)).set (i * 4 + 1) (.int .i64 y)).set (i * 4 + 2) (.int .i64 z)).set (i * 4 + 3) (.int .i64 t) = qcells (m.set i (x, y, z, t)) := by
  induction m generalizing i with
  | nil => rfl
  | cons e m ih =>
    cases i with
    | zero => rfl
    | succ i =>
      have := ih i
      rw [show (i + 1) * 4 = i * 4 + 1 + 1 + 1 + 1 by omega]
      simp only [qcells, qc, List.flatMap_cons, List.set_cons_succ, List.cons_append, List.nil_append] at this ⊢
      rw [this]
theorem qcells_take (m : List Four) (i : Nat) : (qcells m).take (i * 4) = qcells (m.take i) := by
  induction m generalizing i with
  | nil => simp [qcells]
  | cons e m ih =>
    cases i with
    | zero => simp [qcells]
    | succ i =>
      rw [show (i + 1) * 4 = i * 4 + 1 + 1 + 1 + 1 by omega]
      have := ih i
      simp only [qcells, qc, List.flatMap_cons, List.cons_append, List.nil_append, List.take_succ_cons] at this ⊢
      rw [this]
def keepQ (P : Four → Bool) (l : List Four) : List Four := l.filter fun e => !P e
theorem keepQ_yes {P : Four → Bool} {l : List Four} {j : Nat} (hj : j < l.length) (h : P (qAt l j) = false) : keepQ P (l.take (j + 1)) = keepQ P (l.take j) ++ [qAt l j] := by
  unfold keepQ; rw [take_qAt hj, List.filter_append]; simp [h]
theorem keepQ_no {P : Four → Bool} {l : List Four} {j : Nat} (hj : j < l.length) (h : P (qAt l j) = true) : keepQ P (l.take (j + 1)) = keepQ P (l.take j) := by
  unfold keepQ; rw [take_qAt hj, List.filter_append]; simp [h]
theorem keepQ_all {P : Four → Bool} {l : List Four} {j : Nat} (hj : j ≤ l.length) (h : ∀ k, k < j → P (qAt l k) = false) : keepQ P (l.take j) = l.take j := by
  unfold keepQ
  rw [List.filter_eq_self]
  intro e he
  obtain ⟨k, hk, rfl⟩ := List.getElem_of_mem he
  rw [List.length_take] at hk
  have := h k (by omega)
  unfold qAt at this
  rw [List.getD_eq_getElem?_getD, List.getElem?_eq_getElem (by omega)] at this
  rw [List.getElem_take]
  simpa using this
theorem qIx_first {P : Four → Bool} {l : List Four} : (qIx P l = -1 ∧ ∀ k, k < l.length → P (qAt l k) = false) ∨ ∃ i : Nat, qIx P l = i ∧ i < l.length ∧ (∀ k, k < i → P (qAt l k) = false) ∧ P (qAt l i) = true := by
  have e : ∀ k (hk : k < l.length), qAt l k = l[k] := fun k hk => by unfold qAt; rw [List.getD_eq_getElem?_getD, List.getElem?_eq_getElem hk]; rfl
  cases h : l.findIdx? P with
  | none =>
    refine .inl ⟨by unfold qIx; rw [h], fun k hk => ?_⟩
    rw [List.findIdx?_eq_none_iff] at h
    rw [e k hk]; exact h _ (List.getElem_mem _)
  | some i =>
    obtain ⟨h1, h2, h3⟩ := List.findIdx?_eq_some_iff_getElem.1 h
    exact .inr ⟨i, by unfold qIx; rw [h], h1, fun k hk => by rw [e k (by omega)]; simpa using h3 k hk, by rw [e i h1]; exact h2⟩
theorem zeroQuad (w : World) : (zeroValue 118).run Tryd.prog w = .ok (.agg #[.int .i64 0, .int .i64 0, .int .i64 0, .int .i64 0]) w := by kernel_rfl
theorem qset_take_succ (m : List Four) (i : Nat) (e : Four) (hi : i < m.length) : (m.set i e).take (i + 1) = m.take i ++ [e] := by
  rw [List.take_succ_eq_append_getElem (by simpa using hi), List.take_set_of_le (Nat.le_refl _)]; simp
theorem qAt_drop {m l : List Four} {j : Nat} (hj : j < l.length) (hl : m.length = l.length) (h : m.drop j = l.drop j) : qAt m j = qAt l j := by
  unfold qAt
  rw [List.getD_eq_getElem?_getD, List.getD_eq_getElem?_getD]
  have h2 := congrArg (fun x => x[0]?) h
  simp only [List.getElem?_drop, Nat.add_zero] at h2
  rw [h2]
def QDelPost (base : Nat) (m : List Four) (row : Option Nat) (w : World) (e : Ending) (w' : World) : Prop :=
  ∃ r, e = .returned r ∧ w'.ownsRow base 118 4 r m.length (qcells m) ∧ w.grownBy w' row ∧ (r.ownBlock = row)
set_option maxRecDepth 100000 in
set_option maxHeartbeats 2000000 in
theorem qdel_any (P : Four → Bool) (S : Four → Prop) (fid : FuncId) (caps : Array Value) (l : List Four) (base : Nat) (v : Value) (w : World) (hv : w.ownsRow base 118 4 v l.length (qcells l)) (hw : ∀ e ∈ l, S e) (hl : l.length ≤ 1000000000) {B0 : Nat} (hB0 : B0 ≤ w.heap.size) (hB1 : B0 ≤ base) (hf : AskQ fid caps P S B0 w) (hcf : ∀ (args : Array Value) (w : World), Sem.run Tryd.prog (callFunc fid args) w = .ok (.enter fid args) w) :
    Calls Tryd.prog 73 #[v, .func (Fn.func fid) #[] caps] w (QDelPost base (keepQ P l) v.ownBlock w) := by
  have HA := hid hf
  have HC := hid hcf
  have HW := hid hw
  have I0 := hid ((quads_of_own hv).more (F' := fun b => b < w.heap.size) fun b h => h.2)
  have O0 := hid hv
  have hB := hid hB0
  have hBb := hid hB1
  obtain ⟨A, c, rfl, hc1, hc2⟩ := own_sl hv
  unfold maxLen at hc2
  clear hv hf hw hB0 hB1
  rcases qIx_first (P := P) (l := l) with ⟨hix, hno⟩ | ⟨i, hix, hi, hno, hyes⟩
  · have K : keepQ P l = l := by have := keepQ_all (P := P) (Nat.le_refl l.length) hno; rwa [List.take_length] at this
    rw [K]
    clear K hno
    clear hcf
    go_enter Tryd.func73, Tryd.ntmps73
    go_wp2_with fail
    refine (qix_any P S fid caps l _ _ w (fun b h => h) I0.out HW.out hB.out HA.out HC.out).mono ?_
    rintro e w2 ⟨rfl, hb2⟩
    have O2 := hid (own_below O0.out hb2)
    have G2 : Hid (w.grownBy w2 (Value.ownBlock (.slice A l.length c))) := ⟨hb2.os, hb2.tape, hb2.output, hb2.size, fun k hk _ => hb2.block k hk⟩
    rw [hix]
    clear hb2 hix
    go_wp2_with fail
    go_ret
    exact ⟨_, rfl, O2.out, G2.out, rfl⟩
  · obtain ⟨g, cap, e1, hgb, hgl, hc3, hc4, _⟩ := own_open O0.out (by omega)
    injection e1 with e1 _ e2
    subst e1 e2
    have ST : Hid (l.take i = keepQ P (l.take (i + 1))) := by
      show _ = _
      rw [keepQ_no hi hyes, keepQ_all (by omega) hno]
    clear hno hyes
    go_enter Tryd.func73, Tryd.ntmps73
    go_wp2_with fail
    refine (qix_any P S fid caps l _ _ w (fun b h => h) I0.out HW.out hB.out HA.out HC.out).mono ?_
    rintro e w2 ⟨rfl, hb2⟩
    have O2 := hid (own_below O0.out hb2)
    have G2 : Hid (w.grownBy w2 (some g)) := ⟨hb2.os, hb2.tape, hb2.output, hb2.size, fun k hk _ => hb2.block k hk⟩
    have d1 : ((i : Int) == -1) = false := by simp
    rw [hix]
    clear hb2 hix
    go_wp2_with fail
    go_loopw [5, 6] (fun iv jv wr => ∃ (i j : Nat) (m : List Four), iv = .int .i64 i ∧ jv = .int .i64 j ∧ i < j ∧ j ≤ l.length ∧ Hid (m.length = l.length ∧ m.take i = keepQ P (l.take j) ∧ m.drop j = l.drop j) ∧ Hid (wr.ownsRow base 118 4 (.slice (some ⟨g, 0, none⟩) l.length c) l.length (qcells m)) ∧ Hid (w.grownBy wr (some g))) (fun _ jv _ => l.length - (intOf jv).toNat)
    case atStart => exact ⟨i, i + 1, l, rfl, rfl, by omega, by omega, ⟨rfl, ST.out, rfl⟩, O2, G2⟩
    case round =>
      obtain ⟨i, j, m, rfl, rfl, hij, hj, hM, hO, hG⟩ := hrel
      have sG := hG.out.size
      clear O2 G2 ST
      by_cases hlt : j < l.length
      · have i1 : (j : Int) < (l.length : Int) := by omega
        have CM := qcells_at m j (by rw [hM.out.1]; exact hlt)
        have EJ := qAt_drop hlt hM.out.1 hM.out.2.2
        rw [EJ] at CM
        have c1 := (hO.out.cellAt (j * 4) (by omega)).trans CM.1
        have c2 := (hO.out.cellAt (j * 4 + 1) (by omega)).trans CM.2.1
        have c3 := (hO.out.cellAt (j * 4 + 2) (by omega)).trans CM.2.2.1
        have c4 := (hO.out.cellAt (j * 4 + 3) (by omega)).trans CM.2.2.2
        have WE := hid (HW.out _ (qAt_mem hlt))
        have hgw : g < wr.heap.size := by omega
        generalize hx : qAt l j = ee at c1 c2 c3 c4 WE
        obtain ⟨x, y, z, t⟩ := ee
        have HX := hid hx
        clear hx CM EJ
        obtain ⟨wo, hwo⟩ : ∃ wo, wo = wr := ⟨_, rfl⟩
        subst hwo
        go_wp2_with fail
        have BA : Hid (Below B0 w (wo.alloc (.cells #[.int .i64 x, .int .i64 y, .int .i64 z, .int .i64 t] 118))) := ((Below.refl B0 w).grown hG.out hB.out (fun k hk => by cases hk; have := hBb.out; omega)).alloc (Nat.le_trans hB.out sG) _
        refine (HA.out _ (x, y, z, t) WE.out BA.out).mono ?_
        rintro e w3 ⟨rfl, hb3⟩
        have s3 := hb3.size
        have O3 := hid (own_below (hO.out.alloc _) hb3)
        have X3 := Has.below (Has.new wo (.cells #[.int .i64 x, .int .i64 y, .int .i64 z, .int .i64 t] 118)) hb3 (by simp)
        have x0 := (Has.cell X3 0).trans rfl
        have x1 := (Has.cell X3 1).trans rfl
        have x2 := (Has.cell X3 2).trans rfl
        have x3 := (Has.cell X3 3).trans rfl
        have G3 : Hid (w.grownBy w3 (some g)) := (hG.out.trans (World.grownBy_alloc wo _ (some g))).trans ⟨hb3.os, hb3.tape, hb3.output, hb3.size, fun k hk _ => hb3.block k hk⟩
        simp only [World.size_alloc] at s3
        have hg3 : g < w3.heap.size := by omega
        have hne : g ≠ wo.heap.size := by omega
        clear hb3 X3 BA
        by_cases hp : P (x, y, z, t) = true
        · rw [hp]
          have K := hid (keepQ_no (P := P) hlt (by rw [HX.out]; exact hp))
          clear hp x0 x1 x2 x3
          go_wp2_with fail
          go_roundw
          case rel => exact ⟨i, j + 1, m, rfl, by go_num, by omega, by omega, ⟨hM.out.1, by rw [K.out]; exact hM.out.2.1, by
            have := congrArg (List.drop 1) hM.out.2.2
            simpa [List.drop_drop] using this⟩, O3, G3⟩
          case measure => simp [intOf]; omega
        · have hp' : P (x, y, z, t) = false := by simpa using hp
          rw [hp']
          have K := hid (keepQ_yes (P := P) hlt (by rw [HX.out]; exact hp'))
          have il : (i : Int) < (l.length : Int) := by omega
          have S1 := (O3.out.stored (i * 4) (.int .i64 x))
          have S2 := (S1.1.stored (i * 4 + 1) (.int .i64 y))
          have S3 := (S2.1.stored (i * 4 + 2) (.int .i64 z))
          have S4 := (S3.1.stored (i * 4 + 3) (.int .i64 t))
          have O4 := hid S4.1
          have G4 := hid ((((G3.out.trans S1.2).trans S2.2).trans S3.2).trans S4.2)
          have y0 := (O3.out.cellAt (i * 4) (by omega)).trans (qcells_at m i (by rw [hM.out.1]; omega)).1
          have y1 := (O3.out.cellAt (i * 4 + 1) (by omega)).trans (qcells_at m i (by rw [hM.out.1]; omega)).2.1
          have y2 := (O3.out.cellAt (i * 4 + 2) (by omega)).trans (qcells_at m i (by rw [hM.out.1]; omega)).2.2.1
          have y3 := (O3.out.cellAt (i * 4 + 3) (by omega)).trans (qcells_at m i (by rw [hM.out.1]; omega)).2.2.2
          generalize qAt m i = em at y0 y1 y2 y3
          obtain ⟨p, q, r, s⟩ := em
          have f0 := O3.out.frozenAt (i * 4)
          have f1 := O3.out.frozenAt (i * 4 + 1)
          have f2 := O3.out.frozenAt (i * 4 + 2)
          have f3 := O3.out.frozenAt (i * 4 + 3)
          clear hp hp' S1 S2 S3 S4
          go_wp2_with fail
          go_roundw
          case rel => exact ⟨i + 1, j + 1, m.set i (x, y, z, t), by go_num, by go_num, by omega, by omega, ⟨by simpa using hM.out.1, by rw [K.out, qset_take_succ _ _ _ (by rw [hM.out.1]; omega), hM.out.2.1, HX.out], by
            have := congrArg (List.drop 1) hM.out.2.2
            rw [List.drop_set_of_lt (by omega)]
            simpa [List.drop_drop] using this⟩, by
              show World.ownsRow _ _ _ _ _ _ _
              rw [← qcells_set]; exact O4.out, G4⟩
          case measure => simp [intOf]; omega
      · obtain rfl : j = l.length := by omega
        obtain ⟨g', cap', cur, e1, hh, h1, h2, h3, h4⟩ : ∃ g' cap' cur, Value.slice (some ⟨g, 0, none⟩) l.length c = .slice (some ⟨g', 0, none⟩) l.length cap' ∧ wr.heap[g']? = some (.cells cur 118 (0, 0)) ∧ l.length ≤ cap' ∧ cap' ≤ maxLen ∧ cur.size = cap' * 4 ∧ cur.toList.take (l.length * 4) = qcells m := by
          rcases hO.out.2 with ⟨h, h0⟩ | ⟨g', cap', cur, e, hb, hh, h1, h2, h3, h4⟩
          · cases h
          · exact ⟨g', cap', cur, e, hh, h1, h2, h3, h4⟩
        injection e1 with e1 _ e2
        injection e1 with e1
        injection e1 with e1
        subst e1 e2
        obtain ⟨zs, hz, hcl⟩ : ∃ zs : List Value, zs.length = (l.length - i) * 4 ∧ ∀ ty, (Builtin.clear_ #[41] ty #[.slice (some ⟨g, i * 4, none⟩) (l.length - i) (c - i)]).run Tryd.prog wr = .ok (.tuple #[]) (wr.setRow g (cur.toList.take (i * 4) ++ zs ++ cur.toList.drop (i * 4 + (l.length - i) * 4)).toArray) := by
          obtain ⟨zs, hz, h⟩ := run_clear_row (P := Tryd.prog) wr 41 118 0 (.agg #[.int .i64 0, .int .i64 0, .int .i64 0, .int .i64 0]) 4 Tryd.underlying41 zeroQuad rfl (by simp [Value.cells, Value.oneCell']) g (i * 4) (l.length - i) (c - i) (by omega) (by omega) cur hh (by omega)
          exact ⟨zs, hz, fun ty => h⟩
        have W9 := heap_setRow (cs := (cur.toList.take (i * 4) ++ zs ++ cur.toList.drop (i * 4 + (l.length - i) * 4)).toArray) hh
        have G9 := hid (hG.out.trans (grown_setRow wr g (cur.toList.take (i * 4) ++ zs ++ cur.toList.drop (i * 4 + (l.length - i) * 4)).toArray))
        generalize hw9 : wr.setRow g (cur.toList.take (i * 4) ++ zs ++ cur.toList.drop (i * 4 + (l.length - i) * 4)).toArray = w9 at W9 G9 hcl
        have KK : Hid (keepQ P l = m.take i) := by have := hM.out.2.1; rw [List.take_length] at this; exact this.symm
        have LK : Hid ((keepQ P l).length = i) := by show _ = _; rw [KK.out, List.length_take, hM.out.1]; omega
        have O9 : Hid (w9.ownsRow base 118 4 (.slice (some ⟨g, 0, none⟩) (keepQ P l).length c) (keepQ P l).length (qcells (keepQ P l))) := by
          show World.ownsRow _ _ _ _ _ _ _
          rw [LK.out]
          refine ⟨by rw [qcells_len, LK.out], .inr ⟨g, c, _, rfl, hgb, W9, by omega, h2, ?_, ?_⟩⟩
          · simp [hz, h3]; omega
          · rw [KK.out, ← qcells_take, ← h4]
            show List.take (i * 4) (cur.toList.take (i * 4) ++ zs ++ cur.toList.drop (i * 4 + (l.length - i) * 4)) = _
            rw [List.append_assoc, List.take_append_of_le_length (by simp [h3]; omega), List.take_take, List.take_take]
            congr 1; omega
        have ic : (i : Int) ≤ (l.length : Int) := by omega
        have ic2 : (i : Int) ≤ (c : Int) := by omega
        have u4 : (c = i) = False := by simp; omega
        have j1 : decide ((l.length : Int) < (l.length : Int)) = false := by simp
        clear hz W9 hh hw9 h3 h4
        go_wp2_with fail
        go_ret
        exact ⟨_, rfl, by have := O9.out; rw [show Value.slice (some ⟨g, 0, none⟩) (keepQ P l).length c = Value.slice (some ⟨g, 0, none⟩) i c by rw [LK.out]] at this; exact this, G9.out, rfl⟩
end Go.Proofs.YtkiljnggphlomaaDoor
