/- What slices.DeleteFunc does to a row of edges of the call's own. Condition: the function value's contract. -/
import Derived.Test.YtkiljnggphlomaaDoorEix
import Derived.Laws.CopyRow
import Derived.Lib.SliceRun
namespace Go.Proofs.YtkiljnggphlomaaDoor
open Go.RowKit Go.Deep
/-- clear of a slice of elements of any size, in a block that is known whole -/
theorem run_clear_row {P : Program} (w : World) (t e ty : TypeId) (z : Value) (size : Nat) (ht : P.underlying t = some (.slice e)) (hv : ∀ w, (zeroValue e).run P w = .ok z w) (hz : z.cells.size = size) (h1 : ∀ u ∈ z.cells.toList, u.oneCell' = true) (g o n c : Nat) (hn : 0 < n) (hs : 0 < size)
    (cur : Array Value) (hg : w.heap[g]? = some (.cells cur e (0, 0))) (hfit : o + n * size ≤ cur.size) :
    ∃ zs : List Value, zs.length = n * size ∧ (Builtin.clear_ #[t] ty #[.slice (some ⟨g, o, none⟩) n c]).run P w = .ok (.tuple #[]) (w.setRow g (cur.toList.take o ++ zs ++ cur.toList.drop (o + n * size)).toArray) := by
  have hl : (Builtin.zeroCells z.cells n).toList.length = n * size := by simp [Builtin.zeroCells, hz]
  have h2 : ∀ u ∈ (Builtin.zeroCells z.cells n).toList, u.oneCell' = true := by
    intro u hu
    simp only [Builtin.zeroCells, Array.toList_map, List.mem_map] at hu
    obtain ⟨i, _, rfl⟩ := hu
    have hi : i % z.cells.size < z.cells.size := Nat.mod_lt _ (by omega)
    rw [getElem!_pos z.cells _ hi]
    exact h1 _ (by simp)
  have hst := run_storeCells_at (P := P) g o e (Builtin.zeroCells z.cells n).toList 0 cur w hg (by rw [hl]; omega) h2
  simp only [Nat.add_zero, hl] at hst
  refine ⟨_, hl, ?_⟩
  obtain ⟨m, rfl⟩ : ∃ m, n = m + 1 := ⟨n - 1, by omega⟩
  simp [Builtin.clear_, run_underlying ht, hv, hst]
theorem heap_setRow {w : World} {g : Nat} {cur cs : Array Value} {t : TypeId} (h : w.heap[g]? = some (.cells cur t (0, 0))) : (w.setRow g cs).heap[g]? = some (.cells cs t (0, 0)) := by
  simp [World.setRow, Array.getElem?_modify, h]
theorem grown_setRow (w : World) (g : Nat) (cs : Array Value) : w.grownBy (w.setRow g cs) (some g) :=
  ⟨rfl, rfl, rfl, by simp [World.setRow], fun k _ hk => by
    have : g ≠ k := fun e => hk (by rw [e])
    simp [World.setRow, Array.getElem?_modify, this]⟩
theorem ecells_set (m : EdgeL) (i : Nat) (x y : Int) : ((ecells m).set (i * 2) (.int .i64 x)).set (i * 2 + 1) (.int .i64 y) = ecells (m.set i (x, y)) := by
  induction m generalizing i with
  | nil => rfl
  | cons e m ih =>
    cases i with
    | zero => rfl
    | succ i =>
      have := ih i
      rw [show (i + 1) * 2 = i * 2 + 1 + 1 by omega]
      simp only [ecells, List.flatMap_cons, List.set_cons_succ, List.cons_append, List.nil_append] at this ⊢
      rw [this]
theorem ecells_take (m : EdgeL) (i : Nat) : (ecells m).take (i * 2) = ecells (m.take i) := by
  induction m generalizing i with
  | nil => simp [ecells]
  | cons e m ih =>
    cases i with
    | zero => simp [ecells]
    | succ i =>
      rw [show (i + 1) * 2 = i * 2 + 1 + 1 by omega]
      have := ih i
      simp only [ecells, List.flatMap_cons, List.cons_append, List.nil_append, List.take_succ_cons] at this ⊢
      rw [this]
def keepE (P : Int × Int → Bool) (l : EdgeL) : EdgeL := l.filter fun e => !P e
theorem keepE_yes {P : Int × Int → Bool} {l : EdgeL} {j : Nat} (hj : j < l.length) (h : P (eAt l j) = false) : keepE P (l.take (j + 1)) = keepE P (l.take j) ++ [eAt l j] := by
  unfold keepE; rw [take_eAt hj, List.filter_append]; simp [h]
theorem keepE_no {P : Int × Int → Bool} {l : EdgeL} {j : Nat} (hj : j < l.length) (h : P (eAt l j) = true) : keepE P (l.take (j + 1)) = keepE P (l.take j) := by
  unfold keepE; rw [take_eAt hj, List.filter_append]; simp [h]
theorem keepE_all {P : Int × Int → Bool} {l : EdgeL} {j : Nat} (hj : j ≤ l.length) (h : ∀ k, k < j → P (eAt l k) = false) : keepE P (l.take j) = l.take j := by
  unfold keepE
  rw [List.filter_eq_self]
  intro e he
  obtain ⟨k, hk, rfl⟩ := List.getElem_of_mem he
  rw [List.length_take] at hk
  have := h k (by omega)
  unfold eAt at this
  rw [List.getD_eq_getElem?_getD, List.getElem?_eq_getElem (by omega)] at this
  rw [List.getElem_take]
  simpa using this
theorem eIx_first {P : Int × Int → Bool} {l : EdgeL} : (eIx P l = -1 ∧ ∀ k, k < l.length → P (eAt l k) = false) ∨ ∃ i : Nat, eIx P l = i ∧ i < l.length ∧ (∀ k, k < i → P (eAt l k) = false) ∧ P (eAt l i) = true := by
  have e : ∀ k (hk : k < l.length), eAt l k = l[k] := fun k hk => by unfold eAt; rw [List.getD_eq_getElem?_getD, List.getElem?_eq_getElem hk]; rfl
  cases h : l.findIdx? P with
  | none =>
    refine .inl ⟨by unfold eIx; rw [h], fun k hk => ?_⟩
    rw [List.findIdx?_eq_none_iff] at h
    rw [e k hk]; exact h _ (List.getElem_mem _)
  | some i =>
    obtain ⟨h1, h2, h3⟩ := List.findIdx?_eq_some_iff_getElem.1 h
    exact .inr ⟨i, by unfold eIx; rw [h], h1, fun k hk => by rw [e k (by omega)]; simpa using h3 k hk, by rw [e i h1]; exact h2⟩
theorem zeroEdge (w : World) : (zeroValue 32).run Tryd.prog w = .ok (.agg #[.int .i64 0, .int .i64 0]) w := by kernel_rfl
theorem set_take_succ (m : EdgeL) (i : Nat) (e : Int × Int) (hi : i < m.length) : (m.set i e).take (i + 1) = m.take i ++ [e] := by
  rw [List.take_succ_eq_append_getElem (by simpa using hi), List.take_set_of_le (Nat.le_refl _)]; simp
theorem eAt_drop {m l : EdgeL} {j : Nat} (hj : j < l.length) (hl : m.length = l.length) (h : m.drop j = l.drop j) : eAt m j = eAt l j := by
  unfold eAt
  rw [List.getD_eq_getElem?_getD, List.getD_eq_getElem?_getD]
  have h2 := congrArg (fun x => x[0]?) h
  simp only [List.getElem?_drop, Nat.add_zero] at h2
  rw [h2]
def DelPost (base : Nat) (m : EdgeL) (row : Option Nat) (w : World) (e : Ending) (w' : World) : Prop :=
  ∃ r, e = .returned r ∧ w'.ownsRow base 32 2 r m.length (ecells m) ∧ w.grownBy w' row ∧ (r.ownBlock = row)
set_option maxRecDepth 100000 in
set_option maxHeartbeats 2000000 in
theorem edel_any (P : Int × Int → Bool) (fid : FuncId) (caps : Array Value) (l : EdgeL) (base : Nat) (v : Value) (w : World) (hv : w.ownsRow base 32 2 v l.length (ecells l)) (hw : ∀ e ∈ l, wf64 e.1 ∧ wf64 e.2) (hl : l.length ≤ 1000000000) {B0 : Nat} (hB0 : B0 ≤ w.heap.size) (hB1 : B0 ≤ base) (hf : AskE fid caps P B0 w) (hcf : ∀ (args : Array Value) (w : World), Sem.run Tryd.prog (callFunc fid args) w = .ok (.enter fid args) w) :
    Calls Tryd.prog 39 #[v, .func (Fn.func fid) #[] caps] w (DelPost base (keepE P l) v.ownBlock w) := by
  have HA := hid hf
  have HC := hid hcf
  have HW := hid hw
  have I0 := hid ((edges_of_own hv hw).more (F' := fun b => b < w.heap.size) fun b h => h.2)
  have O0 := hid hv
  have hB := hid hB0
  have hBb := hid hB1
  obtain ⟨A, c, rfl, hc1, hc2⟩ := own_sl hv
  unfold maxLen at hc2
  clear hv hf hw hB0 hB1
  rcases eIx_first (P := P) (l := l) with ⟨hix, hno⟩ | ⟨i, hix, hi, hno, hyes⟩
  · have K : keepE P l = l := by have := keepE_all (P := P) (Nat.le_refl l.length) hno; rwa [List.take_length] at this
    rw [K]
    clear K hno
    clear hcf
    go_enter Tryd.func39, Tryd.ntmps39
    go_wp2_with fail
    refine (eix_any P fid caps l _ _ w (fun b h => h) I0.out hB.out HA.out HC.out).mono ?_
    rintro e w2 ⟨rfl, hb2⟩
    have O2 := hid (own_below O0.out hb2)
    have G2 : Hid (w.grownBy w2 (Value.ownBlock (.slice A l.length c))) := ⟨hb2.os, hb2.tape, hb2.output, hb2.size, fun k hk _ => hb2.block k hk⟩
    rw [hix]
    clear hb2 hix
    go_wp2_with fail
    go_ret
    exact ⟨_, rfl, O2.out, G2.out, rfl⟩
  · obtain ⟨g, cap, e1, hgb, hgl, hc3, hc4, _⟩ := own_open O0.out (by omega)
    injection e1 with e1 _ e2
    subst e1 e2
    have ST : Hid (l.take i = keepE P (l.take (i + 1))) := by
      show _ = _
      rw [keepE_no hi hyes, keepE_all (by omega) hno]
    clear hno hyes
    go_enter Tryd.func39, Tryd.ntmps39
    go_wp2_with fail
    refine (eix_any P fid caps l _ _ w (fun b h => h) I0.out hB.out HA.out HC.out).mono ?_
    rintro e w2 ⟨rfl, hb2⟩
    have O2 := hid (own_below O0.out hb2)
    have G2 : Hid (w.grownBy w2 (some g)) := ⟨hb2.os, hb2.tape, hb2.output, hb2.size, fun k hk _ => hb2.block k hk⟩
    have d1 : ((i : Int) == -1) = false := by simp
    rw [hix]
    clear hb2 hix
    go_wp2_with fail
    go_loopw [5, 6] (fun iv jv wr => ∃ (i j : Nat) (m : EdgeL), iv = .int .i64 i ∧ jv = .int .i64 j ∧ i < j ∧ j ≤ l.length ∧ Hid (m.length = l.length ∧ m.take i = keepE P (l.take j) ∧ m.drop j = l.drop j) ∧ Hid (wr.ownsRow base 32 2 (.slice (some ⟨g, 0, none⟩) l.length c) l.length (ecells m)) ∧ Hid (w.grownBy wr (some g))) (fun _ jv _ => l.length - (intOf jv).toNat)
    case atStart => exact ⟨i, i + 1, l, rfl, rfl, by omega, by omega, ⟨rfl, ST.out, rfl⟩, O2, G2⟩
    case round =>
      obtain ⟨i, j, m, rfl, rfl, hij, hj, hM, hO, hG⟩ := hrel
      have sG := hG.out.size
      clear O2 G2 ST
      by_cases hlt : j < l.length
      · have i1 : (j : Int) < (l.length : Int) := by omega
        have CM := ecells_at m j (by rw [hM.out.1]; exact hlt)
        have EJ := eAt_drop hlt hM.out.1 hM.out.2.2
        rw [EJ] at CM
        have c1 := (hO.out.cellAt (j * 2) (by omega)).trans CM.1
        have c2 := (hO.out.cellAt (j * 2 + 1) (by omega)).trans CM.2
        have WE := hid (HW.out _ (eAt_mem hlt))
        have hgw : g < wr.heap.size := by omega
        generalize hx : eAt l j = ee at c1 c2 WE
        obtain ⟨x, y⟩ := ee
        have HX := hid hx
        clear hx CM EJ
        obtain ⟨wo, hwo⟩ : ∃ wo, wo = wr := ⟨_, rfl⟩
        subst hwo
        go_wp2_with fail
        have BA : Hid (Below B0 w (wo.alloc (.cells #[.int .i64 x, .int .i64 y] 32))) := ((Below.refl B0 w).grown hG.out hB.out (fun k hk => by cases hk; have := hBb.out; omega)).alloc (Nat.le_trans hB.out sG) _
        refine (HA.out _ x y WE.out BA.out).mono ?_
        rintro e w3 ⟨rfl, hb3⟩
        have s3 := hb3.size
        have O3 := hid (own_below (hO.out.alloc _) hb3)
        have X3 := Has.below (Has.new wo (.cells #[.int .i64 x, .int .i64 y] 32)) hb3 (by simp)
        have x0 := (Has.cell X3 0).trans rfl
        have x1 := (Has.cell X3 1).trans rfl
        have G3 : Hid (w.grownBy w3 (some g)) := (hG.out.trans (World.grownBy_alloc wo _ (some g))).trans ⟨hb3.os, hb3.tape, hb3.output, hb3.size, fun k hk _ => hb3.block k hk⟩
        simp only [World.size_alloc] at s3
        have hg3 : g < w3.heap.size := by omega
        have hne : g ≠ wo.heap.size := by omega
        clear hb3 X3 BA
        by_cases hp : P (x, y) = true
        · rw [hp]
          have K := hid (keepE_no (P := P) hlt (by rw [HX.out]; exact hp))
          clear hp x0 x1
          go_wp2_with fail
          go_roundw
          case rel => exact ⟨i, j + 1, m, rfl, by go_num, by omega, by omega, ⟨hM.out.1, by rw [K.out]; exact hM.out.2.1, by
            have := congrArg (List.drop 1) hM.out.2.2
            simpa [List.drop_drop] using this⟩, O3, G3⟩
          case measure => simp [intOf]; omega
        · have hp' : P (x, y) = false := by simpa using hp
          rw [hp']
          have K := hid (keepE_yes (P := P) hlt (by rw [HX.out]; exact hp'))
          have il : (i : Int) < (l.length : Int) := by omega
          have S1 := (O3.out.stored (i * 2) (.int .i64 x))
          have S2 := (S1.1.stored (i * 2 + 1) (.int .i64 y))
          have O4 := hid S2.1
          have G4 := hid ((G3.out.trans S1.2).trans S2.2)
          have y0 := (O3.out.cellAt (i * 2) (by omega)).trans (ecells_at m i (by rw [hM.out.1]; omega)).1
          have y1 := (O3.out.cellAt (i * 2 + 1) (by omega)).trans (ecells_at m i (by rw [hM.out.1]; omega)).2
          generalize eAt m i = em at y0 y1
          obtain ⟨p, q⟩ := em
          have f0 := O3.out.frozenAt (i * 2)
          have f1 := O3.out.frozenAt (i * 2 + 1)
          clear hp hp' S1 S2
          go_wp2_with fail
          go_roundw
          case rel => exact ⟨i + 1, j + 1, m.set i (x, y), by go_num, by go_num, by omega, by omega, ⟨by simpa using hM.out.1, by rw [K.out, set_take_succ _ _ _ (by rw [hM.out.1]; omega), hM.out.2.1, HX.out], by
            have := congrArg (List.drop 1) hM.out.2.2
            rw [List.drop_set_of_lt (by omega)]
            simpa [List.drop_drop] using this⟩, by
              show World.ownsRow _ _ _ _ _ _ _
              rw [← ecells_set]; exact O4.out, G4⟩
          case measure => simp [intOf]; omega
      · obtain rfl : j = l.length := by omega
        obtain ⟨g', cap', cur, e1, hh, h1, h2, h3, h4⟩ : ∃ g' cap' cur, Value.slice (some ⟨g, 0, none⟩) l.length c = .slice (some ⟨g', 0, none⟩) l.length cap' ∧ wr.heap[g']? = some (.cells cur 32 (0, 0)) ∧ l.length ≤ cap' ∧ cap' ≤ maxLen ∧ cur.size = cap' * 2 ∧ cur.toList.take (l.length * 2) = ecells m := by
          rcases hO.out.2 with ⟨h, h0⟩ | ⟨g', cap', cur, e, hb, hh, h1, h2, h3, h4⟩
          · cases h
          · exact ⟨g', cap', cur, e, hh, h1, h2, h3, h4⟩
        injection e1 with e1 _ e2
        injection e1 with e1
        injection e1 with e1
        subst e1 e2
        obtain ⟨zs, hz, hcl⟩ : ∃ zs : List Value, zs.length = (l.length - i) * 2 ∧ ∀ ty, (Builtin.clear_ #[22] ty #[.slice (some ⟨g, i * 2, none⟩) (l.length - i) (c - i)]).run Tryd.prog wr = .ok (.tuple #[]) (wr.setRow g (cur.toList.take (i * 2) ++ zs ++ cur.toList.drop (i * 2 + (l.length - i) * 2)).toArray) := by
          obtain ⟨zs, hz, h⟩ := run_clear_row (P := Tryd.prog) wr 22 32 0 (.agg #[.int .i64 0, .int .i64 0]) 2 Tryd.underlying22 zeroEdge rfl (by simp [Value.cells, Value.oneCell']) g (i * 2) (l.length - i) (c - i) (by omega) (by omega) cur hh (by omega)
          exact ⟨zs, hz, fun ty => h⟩
        have W9 := heap_setRow (cs := (cur.toList.take (i * 2) ++ zs ++ cur.toList.drop (i * 2 + (l.length - i) * 2)).toArray) hh
        have G9 := hid (hG.out.trans (grown_setRow wr g (cur.toList.take (i * 2) ++ zs ++ cur.toList.drop (i * 2 + (l.length - i) * 2)).toArray))
        generalize hw9 : wr.setRow g (cur.toList.take (i * 2) ++ zs ++ cur.toList.drop (i * 2 + (l.length - i) * 2)).toArray = w9 at W9 G9 hcl
        have KK : Hid (keepE P l = m.take i) := by have := hM.out.2.1; rw [List.take_length] at this; exact this.symm
        have LK : Hid ((keepE P l).length = i) := by show _ = _; rw [KK.out, List.length_take, hM.out.1]; omega
        have O9 : Hid (w9.ownsRow base 32 2 (.slice (some ⟨g, 0, none⟩) (keepE P l).length c) (keepE P l).length (ecells (keepE P l))) := by
          show World.ownsRow _ _ _ _ _ _ _
          rw [LK.out]
          refine ⟨by rw [ecells_len, LK.out], .inr ⟨g, c, _, rfl, hgb, W9, by omega, h2, ?_, ?_⟩⟩
          · simp [hz, h3]; omega
          · rw [KK.out, ← ecells_take, ← h4]
            show List.take (i * 2) (cur.toList.take (i * 2) ++ zs ++ cur.toList.drop (i * 2 + (l.length - i) * 2)) = _
            rw [List.append_assoc, List.take_append_of_le_length (by simp [h3]; omega), List.take_take, List.take_take]
            congr 1; omega
        have ic : (i : Int) ≤ (l.length : Int) := by omega
        have ic2 : (i : Int) ≤ (c : Int) := by omega
        have u4 : (c = i) = False := by simp; omega
        have j1 : decide ((l.length : Int) < (l.length : Int)) = false := by simp
        clear hz W9 hh hw9 h3 h4
        go_wp2_with fail
        go_ret
        exact ⟨_, rfl, by have := O9.out; rw [show Value.slice (some ⟨g, 0, none⟩) (keepE P l).length c = Value.slice (some ⟨g, 0, none⟩) i c by rw [LK.out]] at this; exact this, G9.out, rfl⟩
end Go.Proofs.YtkiljnggphlomaaDoor
