/- slices.IndexFunc, ContainsFunc and DeleteFunc at uint32, for a function value that answers and writes nothing that was there. Condition: that function's contract. -/
import Derived.Test.YtfkklhmamhcbhaaDoorUsr
import Derived.Laws.CopyRow
namespace Go.Proofs.YtfkklhmamhcbhaaDoor
open Go.RowKit Go.Deep
def uwf (z : Int) : Prop := (Lit.int .u32 z).wf = true
def uIx (P : Int → Bool) (l : List Int) : Int := match l.findIdx? P with | some i => (i : Int) | none => -1
theorem at_mem {l : List Int} {k : Nat} (hk : k < l.length) : at0 l k = l[k] := by unfold at0; rw [List.getD_eq_getElem?_getD, List.getElem?_eq_getElem hk]; rfl
theorem uIx_none {P : Int → Bool} {l : List Int} (h : ∀ k, k < l.length → P (at0 l k) = false) : uIx P l = -1 := by
  unfold uIx
  rw [List.findIdx?_eq_none_iff.2]
  intro x hx
  obtain ⟨k, hk, rfl⟩ := List.getElem_of_mem hx
  have := h k hk
  rwa [at_mem hk] at this
theorem uIx_hit {P : Int → Bool} {l : List Int} {j : Nat} (hj : j < l.length) (h : ∀ k, k < j → P (at0 l k) = false) (hp : P (at0 l j) = true) : uIx P l = j := by
  unfold uIx
  rw [(List.findIdx?_eq_some_iff_getElem (i := j)).2 ⟨hj, by rw [← at_mem hj]; exact hp, fun k hk => by rw [← at_mem (by omega)]; rw [h k hk]; simp⟩]
theorem uIx_first {P : Int → Bool} {l : List Int} : (uIx P l = -1 ∧ ∀ k, k < l.length → P (at0 l k) = false) ∨ ∃ i : Nat, uIx P l = i ∧ i < l.length ∧ (∀ k, k < i → P (at0 l k) = false) ∧ P (at0 l i) = true := by
  cases h : l.findIdx? P with
  | none =>
    refine .inl ⟨by unfold uIx; rw [h], fun k hk => ?_⟩
    rw [List.findIdx?_eq_none_iff] at h
    rw [at_mem hk]; exact h _ (List.getElem_mem _)
  | some i =>
    obtain ⟨h1, h2, h3⟩ := List.findIdx?_eq_some_iff_getElem.1 h
    exact .inr ⟨i, by unfold uIx; rw [h], h1, fun k hk => by rw [at_mem (by omega)]; simpa using h3 k hk, by rw [at_mem h1]; exact h2⟩
theorem uIx_any {P : Int → Bool} {l : List Int} : decide (0 ≤ uIx P l) = l.any P := by
  rcases uIx_first (P := P) (l := l) with ⟨h, hn⟩ | ⟨i, h, hi, _, hp⟩
  · rw [h]
    have : l.any P = false := by
      rw [List.any_eq_false]
      intro x hx
      obtain ⟨k, hk, rfl⟩ := List.getElem_of_mem hx
      have := hn k hk
      rw [at_mem hk] at this
      simp [this]
    rw [this]; rfl
  · rw [h]
    have : l.any P = true := by
      rw [List.any_eq_true]
      exact ⟨l[i], List.getElem_mem _, by rw [← at_mem hi]; exact hp⟩
    rw [this]; simp
/-- it answers, in every world in which nothing that was there has turned but for one block, and writes nothing that is there -/
def AskU (fid : FuncId) (caps : Array Value) (P : Int → Bool) (row : Option Nat) (w0 : World) : Prop :=
  ∀ (w : World) (a : Int), uwf a → w0.grownBy w row → Calls Tryd.prog fid (#[.int .u32 a] ++ caps) w fun e w' => e = .returned (.bool (P a)) ∧ Below w.heap.size w w'
theorem gr_below {w w' : World} (h : Below w.heap.size w w') (row : Option Nat) : w.grownBy w' row := ⟨h.os, h.tape, h.output, h.size, fun k hk _ => h.block k hk⟩
set_option maxRecDepth 100000 in
set_option maxHeartbeats 1000000 in
theorem uix_any (P : Int → Bool) (fid : FuncId) (caps : Array Value) (l : List Int) (F : Nat → Prop) (v : Value) (w : World) (hF : ∀ b, F b → b < w.heap.size) (hv : IntsIn .u32 F w v l) {row : Option Nat} (hf : AskU fid caps P row w) (hcf : ∀ (args : Array Value) (w : World), Sem.run Tryd.prog (callFunc fid args) w = .ok (.enter fid args) w) :
    Calls Tryd.prog 33 #[v, .func (Fn.func fid) #[] caps] w fun e w' => e = .returned (.int .i64 (uIx P l)) ∧ Below w.heap.size w w' := by
  have HF := hid hF
  have HA := hid hf
  obtain ⟨A, c, rfl, ⟨h1, h2⟩, hwf, h3⟩ := hv
  have H3 := hid h3
  have WF := hid hwf
  unfold maxLen at h2
  clear hF hf h3 hwf
  go_enter Tryd.func33, Tryd.ntmps33
  go_wp2_with fail
  go_loopw [5, 8] (fun _ iv wr => ∃ j : Nat, j ≤ l.length ∧ iv = .int .i64 j ∧ Hid (∀ k, k < j → P (at0 l k) = false) ∧ Hid (Below w.heap.size w wr)) (fun _ iv _ => l.length - (intOf iv).toNat)
  case atStart => exact ⟨0, Nat.zero_le _, rfl, fun k hk => by omega, Below.refl _ _⟩
  case round =>
    obtain ⟨j, hj, rfl, hold, hB⟩ := hrel
    have sB := hB.out.size
    by_cases hlt : j < l.length
    · obtain ⟨b, o, rfl, hb, hc⟩ := H3.out (by omega)
      have lb := HF.out b hb
      have c1 := (hB.out.cell (p := ⟨b, o + j, none⟩) lb).trans (hc j hlt)
      have i1 : (j : Int) < (l.length : Int) := by omega
      clear hc
      have WE := hid (WF.out _ (mem_at hlt))
      change _ = some (Value.int .u32 (at0 l j)) at c1
      generalize hx : at0 l j = x at c1 WE
      have HX := hid hx
      clear hx
      obtain ⟨wo, hwo⟩ : ∃ wo, wo = wr := ⟨_, rfl⟩
      subst hwo
      go_wp2_with fail
      refine (HA.out _ x WE.out (gr_below hB.out _)).mono ?_
      rintro e w2 ⟨rfl, hb2⟩
      have B2 := hid (hB.out.trans (hb2.mono sB))
      clear hb2
      by_cases hp : P x = true
      · have E : Hid (uIx P l = j) := uIx_hit hlt hold.out (by rw [HX.out]; exact hp)
        rw [hp]
        clear hp
        go_wp2_with fail
        go_ret
        exact ⟨by rw [E.out]; rfl, B2.out⟩
      · have hp' : P x = false := by simpa using hp
        have N : Hid (∀ k, k < j + 1 → P (at0 l k) = false) := fun k hk => by
          by_cases hkj : k = j
          · subst hkj; rw [HX.out]; exact hp'
          · exact hold.out k (by omega)
        rw [hp']
        clear hp hp'
        go_wp2_with fail
        go_roundw
        case rel => exact ⟨j + 1, by omega, by go_num, N, B2⟩
        case measure => simp [intOf]; omega
    · have E : Hid (uIx P l = -1) := uIx_none fun k hk => hold.out k (by omega)
      go_wp2_with fail
      go_ret
      exact ⟨by rw [E.out]; rfl, hB.out⟩
set_option maxRecDepth 100000 in
set_option maxHeartbeats 400000 in
theorem ucontains_any (P : Int → Bool) (fid : FuncId) (caps : Array Value) (l : List Int) (F : Nat → Prop) (v : Value) (w : World) (hF : ∀ b, F b → b < w.heap.size) (hv : IntsIn .u32 F w v l) {row : Option Nat} (hf : AskU fid caps P row w) (hcf : ∀ (args : Array Value) (w : World), Sem.run Tryd.prog (callFunc fid args) w = .ok (.enter fid args) w) :
    Calls Tryd.prog 26 #[v, .func (Fn.func fid) #[] caps] w fun e w' => e = .returned (.bool (l.any P)) ∧ Below w.heap.size w w' := by
  have HF := hid hF
  have HA := hid hf
  have H := hid hv
  have HC := hid hcf
  obtain ⟨A, c, rfl, _, _, _⟩ := hv
  clear hF hf hcf
  go_enter Tryd.func26, Tryd.ntmps26
  go_wp2_with fail
  refine (uix_any P fid caps l F _ w HF.out H.out HA.out HC.out).mono ?_
  rintro e w2 ⟨rfl, hb2⟩
  have B2 := hid hb2
  clear hb2
  have E := hid (uIx_any (P := P) (l := l))
  generalize uIx P l = q at E
  go_wp2_with fail
  go_ret
  exact ⟨by rw [← E.out]; rfl, B2.out⟩
/-- clear of a slice of elements of any size, in a block that is known whole -/
theorem run_clear_row {P : Program} (w : World) (t e ty : TypeId) (z : Value) (size : Nat) (ht : P.underlying t = some (.slice e)) (hv : ∀ w, (zeroValue e).run P w = .ok z w) (hz : z.cells.size = size) (h1 : ∀ u ∈ z.cells.toList, u.oneCell' = true) (g o n c : Nat) (hn : 0 < n) (hs : 0 < size)
    (cur : Array Value) (hg : w.heap[g]? = some (.cells cur e (0, 0))) (hfit : o + n * size ≤ cur.size) :
    ∃ zs : List Value, zs.length = n * size ∧ (Builtin.clear_ #[t] ty #[.slice (some ⟨g, o, none⟩) n c]).run P w = .ok (.tuple #[]) (w.setRow g (cur.toList.take o ++ zs ++ cur.toList.drop (o + n * size)).toArray) := by
  have hl : (Builtin.zeroCells z.cells n).toList.length = n * size := by simp [Builtin.zeroCells, hz]
  have h2 : ∀ u ∈ (Builtin.zeroCells z.cells n).toList, u.oneCell' = true := by
    intro u hu
    simp only [Builtin.zeroCells, Array.toList_map, List.mem_map] at hu
    obtain ⟨i, _, rfl⟩ := hu
    have hi : i % z.cells.size < z.cells.size := Nat.mod_lt _ (by omega)
    rw [getElem!_pos z.cells _ hi]
    exact h1 _ (by simp)
  have hst := run_storeCells_at (P := P) g o e (Builtin.zeroCells z.cells n).toList 0 cur w hg (by rw [hl]; omega) h2
  simp only [Nat.add_zero, hl] at hst
  refine ⟨_, hl, ?_⟩
  obtain ⟨m, rfl⟩ : ∃ m, n = m + 1 := ⟨n - 1, by omega⟩
  simp [Builtin.clear_, run_underlying ht, hv, hst]
theorem heap_setRow {w : World} {g : Nat} {cur cs : Array Value} {t : TypeId} (h : w.heap[g]? = some (.cells cur t (0, 0))) : (w.setRow g cs).heap[g]? = some (.cells cs t (0, 0)) := by
  simp [World.setRow, Array.getElem?_modify, h]
theorem grown_setRow (w : World) (g : Nat) (cs : Array Value) : w.grownBy (w.setRow g cs) (some g) :=
  ⟨rfl, rfl, rfl, by simp [World.setRow], fun k _ hk => by
    have : g ≠ k := fun e => hk (by rw [e])
    simp [World.setRow, Array.getElem?_modify, this]⟩
def keepU (P : Int → Bool) (l : List Int) : List Int := l.filter fun e => !P e
theorem take_at {l : List Int} {j : Nat} (hj : j < l.length) : l.take (j + 1) = l.take j ++ [at0 l j] := by
  rw [at_mem hj]; exact List.take_succ_eq_append_getElem hj
theorem keepU_yes {P : Int → Bool} {l : List Int} {j : Nat} (hj : j < l.length) (h : P (at0 l j) = false) : keepU P (l.take (j + 1)) = keepU P (l.take j) ++ [at0 l j] := by
  unfold keepU; rw [take_at hj, List.filter_append]; simp [h]
theorem keepU_no {P : Int → Bool} {l : List Int} {j : Nat} (hj : j < l.length) (h : P (at0 l j) = true) : keepU P (l.take (j + 1)) = keepU P (l.take j) := by
  unfold keepU; rw [take_at hj, List.filter_append]; simp [h]
theorem keepU_all {P : Int → Bool} {l : List Int} {j : Nat} (hj : j ≤ l.length) (h : ∀ k, k < j → P (at0 l k) = false) : keepU P (l.take j) = l.take j := by
  unfold keepU
  rw [List.filter_eq_self]
  intro e he
  obtain ⟨k, hk, rfl⟩ := List.getElem_of_mem he
  rw [List.length_take] at hk
  have := h k (by omega)
  rw [at_mem (by omega)] at this
  rw [List.getElem_take]
  simpa using this
theorem zeroU32 (w : World) : (zeroValue 30).run Tryd.prog w = .ok (.int .u32 0) w := by kernel_rfl
theorem set_take_succ (m : List Int) (i : Nat) (e : Int) (hi : i < m.length) : (m.set i e).take (i + 1) = m.take i ++ [e] := by
  rw [List.take_succ_eq_append_getElem (by simpa using hi), List.take_set_of_le (Nat.le_refl _)]; simp
theorem at_drop {m l : List Int} {j : Nat} (h : m.drop j = l.drop j) : at0 m j = at0 l j := by
  unfold at0
  rw [List.getD_eq_getElem?_getD, List.getD_eq_getElem?_getD]
  have h2 := congrArg (fun x => x[0]?) h
  simp only [List.getElem?_drop, Nat.add_zero] at h2
  rw [h2]
theorem ucell_at {m : List Int} {i : Nat} (hi : i < m.length) : (m.map (Value.int .u32))[i]? = some (.int .u32 (at0 m i)) := by
  rw [List.getElem?_map, List.getElem?_eq_getElem hi, at_mem hi]; rfl
def UDelPost (base : Nat) (m : List Int) (row : Option Nat) (w : World) (e : Ending) (w' : World) : Prop :=
  ∃ r, e = .returned r ∧ w'.ownsRow base 30 1 r m.length (m.map (Value.int .u32)) ∧ w.grownBy w' row ∧ r.ownBlock = row
set_option maxRecDepth 100000 in
set_option maxHeartbeats 2000000 in
theorem udel_any (P : Int → Bool) (fid : FuncId) (caps : Array Value) (l : List Int) (base : Nat) (v : Value) (w : World) (hv : w.ownsRow base 30 1 v l.length (l.map (Value.int .u32))) (hw : ∀ e ∈ l, uwf e) (hl : l.length ≤ 1000000000) (hf : AskU fid caps P v.ownBlock w) (hcf : ∀ (args : Array Value) (w : World), Sem.run Tryd.prog (callFunc fid args) w = .ok (.enter fid args) w) :
    Calls Tryd.prog 24 #[v, .func (Fn.func fid) #[] caps] w (UDelPost base (keepU P l) v.ownBlock w) := by
  have HA := hid hf
  have HC := hid hcf
  have HW := hid hw
  have I0 := hid ((ints_of_own hv hw).more (F' := fun b => b < w.heap.size) fun b h => h.2)
  have O0 := hid hv
  obtain ⟨A, c, rfl, hc1, hc2⟩ := own_sl hv
  unfold maxLen at hc2
  clear hv hf hw
  rcases uIx_first (P := P) (l := l) with ⟨hix, hno⟩ | ⟨i, hix, hi, hno, hyes⟩
  · have K : keepU P l = l := by have := keepU_all (P := P) (Nat.le_refl l.length) hno; rwa [List.take_length] at this
    rw [K]
    clear K hno
    clear hcf
    go_enter Tryd.func24, Tryd.ntmps24
    go_wp2_with fail
    refine (uix_any P fid caps l _ _ w (fun b h => h) I0.out HA.out HC.out).mono ?_
    rintro e w2 ⟨rfl, hb2⟩
    have O2 := hid (own_below O0.out hb2)
    have G2 : Hid (w.grownBy w2 (Value.ownBlock (.slice A l.length c))) := ⟨hb2.os, hb2.tape, hb2.output, hb2.size, fun k hk _ => hb2.block k hk⟩
    rw [hix]
    clear hb2 hix
    go_wp2_with fail
    go_ret
    exact ⟨_, rfl, O2.out, G2.out, rfl⟩
  · obtain ⟨g, cap, e1, hgb, hgl, hc3, hc4, _⟩ := own_open O0.out (by omega)
    injection e1 with e1 _ e2
    subst e1 e2
    have ST : Hid (l.take i = keepU P (l.take (i + 1))) := by
      show _ = _
      rw [keepU_no hi hyes, keepU_all (by omega) hno]
    clear hno hyes
    go_enter Tryd.func24, Tryd.ntmps24
    go_wp2_with fail
    refine (uix_any P fid caps l _ _ w (fun b h => h) I0.out HA.out HC.out).mono ?_
    rintro e w2 ⟨rfl, hb2⟩
    have O2 := hid (own_below O0.out hb2)
    have G2 : Hid (w.grownBy w2 (some g)) := ⟨hb2.os, hb2.tape, hb2.output, hb2.size, fun k hk _ => hb2.block k hk⟩
    have d1 : ((i : Int) == -1) = false := by simp
    rw [hix]
    clear hb2 hix
    go_wp2_with fail
    go_loopw [5, 6] (fun iv jv wr => ∃ (i j : Nat) (m : List Int), iv = .int .i64 i ∧ jv = .int .i64 j ∧ i < j ∧ j ≤ l.length ∧ Hid (m.length = l.length ∧ m.take i = keepU P (l.take j) ∧ m.drop j = l.drop j) ∧ Hid (wr.ownsRow base 30 1 (.slice (some ⟨g, 0, none⟩) l.length c) l.length (m.map (Value.int .u32))) ∧ Hid (w.grownBy wr (some g))) (fun _ jv _ => l.length - (intOf jv).toNat)
    case atStart => exact ⟨i, i + 1, l, rfl, rfl, by omega, by omega, ⟨rfl, ST.out, rfl⟩, O2, G2⟩
    case round =>
      obtain ⟨i, j, m, rfl, rfl, hij, hj, hM, hO, hG⟩ := hrel
      have sG := hG.out.size
      clear O2 G2 ST
      by_cases hlt : j < l.length
      · have i1 : (j : Int) < (l.length : Int) := by omega
        have CM := ucell_at (m := m) (i := j) (by rw [hM.out.1]; exact hlt)
        have EJ := at_drop hM.out.2.2
        rw [EJ] at CM
        have c1 := (hO.out.cellAt j (by omega)).trans CM
        have WE := hid (HW.out _ (mem_at hlt))
        have hgw : g < wr.heap.size := by omega
        generalize hx : at0 l j = x at c1 WE
        have HX := hid hx
        clear hx CM EJ
        obtain ⟨wo, hwo⟩ : ∃ wo, wo = wr := ⟨_, rfl⟩
        subst hwo
        go_wp2_with fail
        refine (HA.out _ x WE.out hG.out).mono ?_
        rintro e w3 ⟨rfl, hb3⟩
        have s3 := hb3.size
        have O3 := hid (own_below hO.out hb3)
        have G3 : Hid (w.grownBy w3 (some g)) := hG.out.trans ⟨hb3.os, hb3.tape, hb3.output, hb3.size, fun k hk _ => hb3.block k hk⟩
        have hg3 : g < w3.heap.size := by omega
        clear hb3 c1
        by_cases hp : P x = true
        · rw [hp]
          have K := hid (keepU_no (P := P) hlt (by rw [HX.out]; exact hp))
          clear hp
          go_wp2_with fail
          go_roundw
          case rel => exact ⟨i, j + 1, m, rfl, by go_num, by omega, by omega, ⟨hM.out.1, by rw [K.out]; exact hM.out.2.1, by
            have := congrArg (List.drop 1) hM.out.2.2
            simpa [List.drop_drop] using this⟩, O3, G3⟩
          case measure => simp [intOf]; omega
        · have hp' : P x = false := by simpa using hp
          rw [hp']
          have K := hid (keepU_yes (P := P) hlt (by rw [HX.out]; exact hp'))
          have il : (i : Int) < (l.length : Int) := by omega
          have S1 := (O3.out.stored i (.int .u32 x))
          have O4 := hid S1.1
          have G4 := hid (G3.out.trans S1.2)
          have y0 := (O3.out.cellAt i (by omega)).trans (ucell_at (m := m) (i := i) (by rw [hM.out.1]; omega))
          generalize at0 m i = em at y0
          have f0 := O3.out.frozenAt i
          clear hp hp' S1
          go_wp2_with fail
          go_roundw
          case rel => exact ⟨i + 1, j + 1, m.set i x, by go_num, by go_num, by omega, by omega, ⟨by simpa using hM.out.1, by rw [K.out, set_take_succ _ _ _ (by rw [hM.out.1]; omega), hM.out.2.1, HX.out], by
            have := congrArg (List.drop 1) hM.out.2.2
            rw [List.drop_set_of_lt (by omega)]
            simpa [List.drop_drop] using this⟩, by
              show World.ownsRow _ _ _ _ _ _ _
              rw [List.map_set]; exact O4.out, G4⟩
          case measure => simp [intOf]; omega
      · obtain rfl : j = l.length := by omega
        obtain ⟨g', cap', cur, e1, hh, h1, h2, h3, h4⟩ : ∃ g' cap' cur, Value.slice (some ⟨g, 0, none⟩) l.length c = .slice (some ⟨g', 0, none⟩) l.length cap' ∧ wr.heap[g']? = some (.cells cur 30 (0, 0)) ∧ l.length ≤ cap' ∧ cap' ≤ maxLen ∧ cur.size = cap' * 1 ∧ cur.toList.take (l.length * 1) = m.map (Value.int .u32) := by
          rcases hO.out.2 with ⟨h, h0⟩ | ⟨g', cap', cur, e, hb, hh, h1, h2, h3, h4⟩
          · cases h
          · exact ⟨g', cap', cur, e, hh, h1, h2, h3, h4⟩
        injection e1 with e1 _ e2
        injection e1 with e1
        injection e1 with e1
        subst e1 e2
        rw [Nat.mul_one] at h3 h4
        obtain ⟨zs, hz, hcl⟩ : ∃ zs : List Value, zs.length = (l.length - i) * 1 ∧ ∀ ty, (Builtin.clear_ #[22] ty #[.slice (some ⟨g, i, none⟩) (l.length - i) (c - i)]).run Tryd.prog wr = .ok (.tuple #[]) (wr.setRow g (cur.toList.take i ++ zs ++ cur.toList.drop (i + (l.length - i) * 1)).toArray) := by
          obtain ⟨zs, hz, h⟩ := run_clear_row (P := Tryd.prog) wr 22 30 0 (.int .u32 0) 1 Tryd.underlying22 zeroU32 rfl (by simp [Value.cells, Value.oneCell']) g i (l.length - i) (c - i) (by omega) (by omega) cur hh (by omega)
          exact ⟨zs, hz, fun ty => h⟩
        have W9 := heap_setRow (cs := (cur.toList.take i ++ zs ++ cur.toList.drop (i + (l.length - i) * 1)).toArray) hh
        have G9 := hid (hG.out.trans (grown_setRow wr g (cur.toList.take i ++ zs ++ cur.toList.drop (i + (l.length - i) * 1)).toArray))
        generalize hw9 : wr.setRow g (cur.toList.take i ++ zs ++ cur.toList.drop (i + (l.length - i) * 1)).toArray = w9 at W9 G9 hcl
        have KK : Hid (keepU P l = m.take i) := by have := hM.out.2.1; rw [List.take_length] at this; exact this.symm
        have LK : Hid ((keepU P l).length = i) := by show _ = _; rw [KK.out, List.length_take, hM.out.1]; omega
        have O9 : Hid (w9.ownsRow base 30 1 (.slice (some ⟨g, 0, none⟩) (keepU P l).length c) (keepU P l).length ((keepU P l).map (Value.int .u32))) := by
          show World.ownsRow _ _ _ _ _ _ _
          rw [LK.out]
          refine ⟨by rw [List.length_map, LK.out, Nat.mul_one], .inr ⟨g, c, _, rfl, hgb, W9, by omega, h2, ?_, ?_⟩⟩
          · simp [hz, h3]; omega
          · rw [KK.out, List.map_take, ← h4, Nat.mul_one]
            show List.take i (cur.toList.take i ++ zs ++ cur.toList.drop (i + (l.length - i) * 1)) = _
            rw [List.append_assoc, List.take_append_of_le_length (by simp [h3]; omega), List.take_take, List.take_take]
            congr 1; omega
        have ic : (i : Int) ≤ (l.length : Int) := by omega
        have ic2 : (i : Int) ≤ (c : Int) := by omega
        have u4 : (c = i) = False := by simp; omega
        have j1 : decide ((l.length : Int) < (l.length : Int)) = false := by simp
        clear hz W9 hh hw9 h3 h4
        go_wp2_with fail
        go_ret
        exact ⟨_, rfl, by have := O9.out; rw [show Value.slice (some ⟨g, 0, none⟩) (keepU P l).length c = Value.slice (some ⟨g, 0, none⟩) i c by rw [LK.out]] at this; exact this, G9.out, rfl⟩
end Go.Proofs.YtfkklhmamhcbhaaDoor
