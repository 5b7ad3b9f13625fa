/- gram.Short, walked: the word in a row of the call's own. No conditions. -/
import Derived.Test.YtbnannlpebggjaaDoorGrt
import Derived.Test.YtbnannlpebggjaaDoorGrx
import Derived.Test.YtbnannlpebggjaaDoorFam
import Derived.Test.YtbnannlpebggjaaDoorZix
import Derived.Deep.OwnRows
import Derived.RegionTactic
import Derived.ChangeAlike
import Derived.BigRegion
namespace Go.Proofs.YtbnannlpebggjaaDoor
open Go.RowKit Go.Deep
theorem Fam.store {B G i : Nat} {w w1 : World} {us : List Value} {ll : List (List Int)} {u' : Value} {x' : List Int} (h : Fam B w G us ll) (hb : Below w.heap.size w w1) (hi : i < ll.length)
    (hown : w1.ownsRow B 3 1 u' x'.length (x'.map (Value.int .i64))) (hnew : ∀ b, u'.ownBlock = some b → w.heap.size ≤ b) : Fam B (w1.setCell ⟨G, i, none⟩ u') G (us.set i u') (ll.set i x') := by
  have h1 := h.below hb
  have nG : u'.ownBlock ≠ some G := fun e => by have := hnew G e; have := h.lt; omega
  have far : ∀ (j : Nat) v, us[j]? = some v → ∀ b, v.ownBlock = some b → u'.ownBlock ≠ some b := fun j v hv b hb2 e => by
    have := hnew b e; have := h.ult (List.mem_of_getElem? hv) hb2; omega
  refine ⟨?_, by simp [h.len], fun j v x hv hx => ?_, fun v hv => ?_, fun j k v v2 hjk hv hv2 b hb2 => ?_⟩
  · rw [Has.set h1.row i u']; simp
  · rw [List.getElem?_set] at hv hx
    by_cases e : i = j
    · subst e
      rw [if_pos rfl, if_pos (by rw [h.len]; exact hi)] at hv
      rw [if_pos rfl, if_pos hi] at hx
      injection hv with hv
      injection hx with hx
      subst hv hx
      exact own_keep hown fun k hk => Below.heap_setCell w1 ⟨G, i, none⟩ u' k (fun e => nG (by rw [hk, e]))
    · rw [if_neg e] at hv hx
      exact own_keep (h1.own j v x hv hx) fun k hk => Below.heap_setCell w1 ⟨G, i, none⟩ u' k (fun e2 => h.ne v (List.mem_of_getElem? hv) (by rw [hk, e2]))
  · rcases List.mem_or_eq_of_mem_set hv with h3 | rfl
    · exact h.ne v h3
    · exact nG
  · rw [List.getElem?_set] at hv hv2
    by_cases e : i = j
    · subst e
      rw [if_pos rfl, if_pos (by rw [h.len]; exact hi)] at hv
      injection hv with hv
      subst hv
      rw [if_neg hjk] at hv2
      intro e2
      exact far k v2 hv2 b e2 hb2
    · rw [if_neg e] at hv
      by_cases e2 : i = k
      · subst e2
        rw [if_pos rfl, if_pos (by rw [h.len]; exact hi)] at hv2
        injection hv2 with hv2
        subst hv2
        exact far j v hv b hb2
      · rw [if_neg e2] at hv2
        exact h.ap j k v v2 hjk hv hv2 b hb2
/-- the state in memory -/
structure ShR (W : World) (n : Nat) (st : Sh) (w : World) : Prop where
  fam : ∃ us, Fam (W.heap.size + 3) w W.heap.size us st.1
  some_ : w.heap[W.heap.size + 1]? = some (.cells (st.2.map Value.bool).toArray 4 (0, 0))
  box : w.heap[W.heap.size + 2]? = some (.cells #[.slice (some ⟨W.heap.size + 1, 0, none⟩) n n] 43 (0, 0))
  bel : Below W.heap.size W w
section
variable {W w w1 : World} {n : Nat} {st : Sh}
theorem ShR.lt (h : ShR W n st w) : W.heap.size + 2 < w.heap.size := Has.lt h.box
theorem ShR.below (h : ShR W n st w) (hb : Below w.heap.size w w1) : ShR W n st w1 := by
  obtain ⟨us, hf⟩ := h.fam
  exact ⟨⟨us, hf.below hb⟩, Has.below h.some_ hb (Has.lt h.some_), Has.below h.box hb (Has.lt h.box), h.bel.trans (hb.mono h.bel.size)⟩
theorem ShR.someAt (h : ShR W n st w) {k : Nat} (hk : k < st.2.length) : w.cell? ⟨W.heap.size + 1, k, none⟩ = some (.bool (sAt st.2 k)) := by
  rw [Has.cell h.some_]; unfold sAt; simp [List.getD_eq_getElem?_getD, List.getElem?_eq_getElem hk]
theorem ShR.bestAt (h : ShR W n st w) {k : Nat} (hk : k < st.1.length) : ∃ u, w.cell? ⟨W.heap.size, k, none⟩ = some u ∧ w.ownsRow (W.heap.size + 3) 3 1 u (rowAt st.1 k).length ((rowAt st.1 k).map (Value.int .i64)) := by
  obtain ⟨us, hf⟩ := h.fam
  obtain ⟨u, _, h1, h2⟩ := hf.at_ hk
  exact ⟨u, h1, h2⟩
/-- a word is put -/
theorem ShR.put (h : ShR W n st w) {k : Nat} (hk : k < st.1.length) {v : Value} {x : List Int} (hb : Below w.heap.size w w1) (hown : w1.ownsRow w.heap.size 3 1 v x.length (x.map (Value.int .i64))) : ShR W n (st.1.set k x, st.2.set k true) ((w1.setCell ⟨W.heap.size, k, none⟩ v).setCell ⟨W.heap.size + 1, k, none⟩ (.bool true)) := by
  obtain ⟨us, hf⟩ := h.fam
  have hl := h.lt
  have f1 := hf.store (i := k) hb hk (own_lo hown (by omega)) (own_ge hown)
  have s1 : (w1.setCell ⟨W.heap.size, k, none⟩ v).heap[W.heap.size + 1]? = some (.cells (st.2.map Value.bool).toArray 4 (0, 0)) := (Below.heap_setCell _ _ _ _ (by simp)).trans (Has.below h.some_ hb (Has.lt h.some_))
  have s2 : (w1.setCell ⟨W.heap.size, k, none⟩ v).heap[W.heap.size + 2]? = some (.cells #[.slice (some ⟨W.heap.size + 1, 0, none⟩) n n] 43 (0, 0)) := (Below.heap_setCell _ _ _ _ (by simp)).trans (Has.below h.box hb (Has.lt h.box))
  refine ⟨⟨us.set k v, f1.keep (Below.heap_setCell _ _ _ _ (by simp)) fun u hu b e => Below.heap_setCell _ _ _ _ (fun e2 => ?_)⟩, ?_, (Below.heap_setCell _ _ _ _ (by simp)).trans s2, ((h.bel.trans (hb.mono h.bel.size)).setCell (by simp) v).setCell (by simp) (.bool true)⟩
  · obtain ⟨j, hj, rfl⟩ := List.getElem_of_mem hu
    have hl2 : j < (st.1.set k x).length := by rw [← f1.len]; exact hj
    have := own_ge (f1.own j _ _ (List.getElem?_eq_getElem hj) (List.getElem?_eq_getElem hl2)) b e
    simp at e2; omega
  · rw [Has.set s1]; simp
end
def readB (w : World) (G n : Nat) : List (List Int) := (List.range n).map fun k => match w.cell? ⟨G, k, none⟩ with
  | some r => intsAt w r
  | none => []
def readS (w : World) (G n : Nat) : List Bool := (List.range n).map fun k => match w.cell? ⟨G, k, none⟩ with
  | some (.bool b) => b
  | _ => false
/-- what is left, through the memory -/
def muAt (G n : Nat) (w : World) : Nat := muS (readB w G n) (readS w (G + 1) n)
theorem muAt_eq {W w : World} {n : Nat} {st : Sh} (h : ShR W n st w) (ho : ShOk n st) : muAt W.heap.size n w = muS st.1 st.2 := by
  have e1 : readB w W.heap.size n = st.1 := by
    apply List.ext_getElem
    · simp [readB, ho.b]
    · intro i h1 h2
      obtain ⟨u, h3, h4⟩ := h.bestAt h2
      have h5 := intsAt_eq (ints_of_own h4 fun z hz => WalkArith.wf_i64 (by have := ho.let_ i (by rw [← ho.b]; exact h2) z hz; omega))
      have e : rowAt st.1 i = st.1[i] := rAt_get h2
      simp only [readB, List.getElem_map, List.getElem_range, h3]
      rw [h5, e]
  have e2 : readS w (W.heap.size + 1) n = st.2 := by
    apply List.ext_getElem
    · simp [readS, ho.s]
    · intro i h1 h2
      have h3 := h.someAt h2
      have e : sAt st.2 i = st.2[i] := by unfold sAt; rw [List.getD_eq_getElem?_getD, List.getElem?_eq_getElem h2]; rfl
      simp only [readS, List.getElem_map, List.getElem_range, h3]
      exact e
  unfold muAt
  rw [e1, e2]
def bestRow (n : Nat) : Array Value := (List.replicate n (Value.slice none 0 0)).toArray
def someRow (n : Nat) : Array Value := ((List.replicate n false).map Value.bool).toArray
theorem made_best (n : Nat) : madeCells #[Value.slice none 0 0] n = bestRow n := by
  apply Array.ext
  · simp [madeCells, bestRow]
  · intro i h1 h2; simp [madeCells, bestRow, Nat.mod_one]
theorem made_some (n : Nat) : madeCells #[Value.bool false] n = someRow n := by
  apply Array.ext
  · simp [madeCells, someRow]
  · intro i h1 h2; simp [madeCells, someRow, Nat.mod_one]
theorem infoBoolG : (Tryd.prog.info? 4).map (fun i => (i.zero, i.size, i.bytes)) = some (some (.bool false), 1, 1) := by kernel_rfl
theorem sh_start (W : World) (n : Nat) : ShR W n (sh0 n) (((W.alloc (.cells (bestRow n) 29)).alloc (.cells (someRow n) 4)).alloc (.cells #[.slice (some ⟨W.heap.size + 1, 0, none⟩) n n] 43)) :=
  ⟨⟨_, ((fam_new W n).alloc _).alloc _⟩, Has.alloc (Has.newAt _ _ (by simp)) _, Has.newAt _ _ (by simp), (((Below.refl _ _).alloc (Nat.le_refl _) _).alloc (by simp) _).alloc (by simp; omega) _⟩
set_option maxHeartbeats 1000000 in
/-- Short's closure: is it a name without a word? -/
theorem lack_asks (W : World) (n : Nat) (st : Sh) (zs : List Int) (w : World) (h : ShR W n st w) (hs : st.2.length = n) (hz : ∀ z ∈ zs, -(n : Int) ≤ z ∧ z ≤ 2) (hn : n ≤ 5) :
    AskZ 16 #[.pointer (some ⟨W.heap.size + 2, 0, none⟩)] (lackB st.2) zs w.heap.size w := by
  intro w1 z hz1 hb
  have h1 := h.below hb
  have HZ := hid (hz z hz1)
  have b0 := Has.cell h1.box 0
  simp at b0
  clear h hz
  by_cases h0 : z < 0
  · obtain ⟨a, ha⟩ : ∃ a : Nat, -1 - z = (a : Int) := ⟨(-1 - z).toNat, by omega⟩
    have an : a < n := by have := HZ.out; omega
    have E : Hid (lackB st.2 z = !sAt st.2 a) := by show _ = _; unfold lackB; rw [ha]; simp [h0]
    have c1 := h1.someAt (k := a) (by omega)
    have e5 : wrap64 (-1 - z) = (a : Int) := by have := HZ.out; unfold wrap64; omega
    have i5 : (a : Int) < (n : Int) := by omega
    have h2 : decide (z < 0) = true := by simpa using h0
    generalize sAt st.2 a = sb at c1 E
    clear ha
    go_enter Tryd.func16, Tryd.ntmps16
    go_wp2_with fail
    go_ret
    exact ⟨by rw [E.out]; rfl, Below.refl _ _⟩
  · have E : Hid (lackB st.2 z = false) := by show _ = _; unfold lackB; simp [h0]
    have h2 : decide (z < 0) = false := by simpa using h0
    go_enter Tryd.func16, Tryd.ntmps16
    go_wp2_with fail
    go_ret
    exact ⟨by rw [E.out]; rfl, Below.refl _ _⟩
def ShortPost (g : Gr) (i : Int) (w : World) (e : Ending) (w' : World) : Prop := ∃ v, e = .returned (.tuple #[v, errV (shortE g i)]) ∧ w'.ownsRow w.heap.size 3 1 v (shortF g i).length ((shortF g i).map (Value.int .i64)) ∧ Below w.heap.size w w'
theorem sumR_snoc (best : List (List Int)) (r : List Int) {m : Nat} (h : m < r.length) : sumR best (r.take (m + 1)) = sumR best (r.take m) ++ pieceW best (at0 r m) := by
  have e : r.take (m + 1) = r.take m ++ [at0 r m] := by
    rw [List.take_succ_eq_append_getElem h]
    unfold at0
    rw [List.getD_eq_getElem?_getD, List.getElem?_eq_getElem h]; rfl
  unfold sumR
  rw [e, List.flatMap_append]
  simp
theorem sumR_le (best : List (List Int)) (r : List Int) (m : Nat) : (sumR best (r.take m)).length ≤ (sumR best r).length := by
  have e : sumR best r = sumR best (r.take m) ++ sumR best (r.drop m) := by
    unfold sumR
    rw [← List.flatMap_append, List.take_append_drop]
  rw [e, List.length_append]; omega
set_option maxRecDepth 100000 in
set_option maxHeartbeats 8000000 in
theorem short_any (g : Gr) (i : Int) (F : Nat → Prop) (v : Value) (w : World) (hF : ∀ b, F b → b < w.heap.size) (hv : GramIn F w v g) :
    Calls Tryd.prog 6 #[v, .int .i64 i] w (ShortPost g i w) := by
  have HF := hid hF
  have CK := hid (grcheck_any g F v w hv)
  obtain ⟨A, c, rfl, h1, h3⟩ := hv
  have H3 := hid h3
  unfold maxLen at h1
  clear hF h3
  have FIN : Hid (∀ m : Int, shortE g i = m → m ≠ 0 → ∀ w', Below w.heap.size w w' → ShortPost g i w (.returned (.tuple #[.slice none 0 0, errV m])) w') := fun m h1 h2 w' h3 => by
    have e : shortF g i = [] := by unfold shortF; rw [if_neg (by rw [h1]; exact h2)]
    exact ⟨.slice none 0 0, by rw [h1], by rw [e]; exact World.ownsRow_nil _ _ _ _, h3⟩
  obtain ⟨i0, hi0, hz0, hz1, hz2⟩ := info_parts infoInt
  go_enter Tryd.func6, Tryd.ntmps6
  go_wp2_with fail
  refine CK.out.mono ?_
  rintro e w0 ⟨rfl, e0⟩
  rw [e0]
  clear e0 w0
  by_cases hg : gramE g = 0
  case neg =>
    have E : shortE g i = gramE g := by unfold shortE; rw [if_pos hg]
    have FF := hid (FIN.out _ E hg _ (Below.refl _ _))
    rw [errV_no hg] at FF ⊢
    clear E hg
    go_wp2_with fail
    go_ret2
    exact FF.out
  have OK := hid (gram_ok hg)
  have HG0 := hid hg
  rw [hg, errV_0]
  by_cases hn : i < 0 ∨ (g.length : Int) ≤ i
  case pos =>
    have E : shortE g i = 1 := by unfold shortE; rw [if_neg (by simp [hg]), if_pos hn]
    have FF := hid (FIN.out _ E (by decide) _ (Below.refl _ _))
    rw [errV_no (by decide)] at FF
    by_cases hneg : i < 0
    · clear E hg hn
      go_wp2_with fail
      go_ret2
      exact FF.out
    · have h4 : (g.length : Int) ≤ i := by omega
      clear E hg hn
      go_wp2_with fail
      go_ret2
      exact FF.out
  obtain ⟨ii, rfl⟩ : ∃ ii : Nat, i = (ii : Int) := ⟨i.toNat, by omega⟩
  have NI := hid hn
  have h3 : ¬ (ii : Int) < 0 := by omega
  have h4 : ¬ (g.length : Int) ≤ (ii : Int) := by omega
  have h5 : (ii : Int) < (g.length : Int) := by omega
  have d1 : decide (g.length ≤ ii) = false := by simp; omega
  have d2 : decide ((g.length : Int) ≤ (ii : Int)) = false := by simp; omega
  have d3 : decide ((ii : Int) < 0) = false := by simp
  have lo := OK.out.lo
  have g5 := OK.out.hi
  have hmk := run_make_row' (P := Tryd.prog) 23 29 (.slice none 0 0) 24 Tryd.underlying23 infoRowW rfl .i64 .i64 g.length (by omega) (by omega)
  simp only [made_best] at hmk
  replace hmk : ∀ w : World, Sem.run Tryd.prog (Instr.makeSlice 23 (.int .i64 g.length) (.int .i64 g.length)) w = .ok (.slice (some ⟨w.heap.size, 0, none⟩) g.length g.length) (w.alloc (.cells (bestRow g.length) 29)) := hmk
  have hmb := run_make_row' (P := Tryd.prog) 43 4 (.bool false) 1 Tryd.underlying43 infoBoolG rfl .i64 .i64 g.length (by omega) (by omega)
  simp only [made_some] at hmb
  replace hmb : ∀ w : World, Sem.run Tryd.prog (Instr.makeSlice 43 (.int .i64 g.length) (.int .i64 g.length)) w = .ok (.slice (some ⟨w.heap.size, 0, none⟩) g.length g.length) (w.alloc (.cells (someRow g.length) 4)) := hmb
  have R0 := hid (sh_start w g.length)
  have V0 := hid (shInv_start g)
  clear hg hn
  go_wp2_with fail
  go_loopw [9] (fun cv wr => ∃ (st : Sh) (ch : Bool), cv = .bool ch ∧ Hid (ShR w g.length st wr) ∧ Hid (ShInv g (shFin g) st ch)) (fun cv wr => liveM cv (1 + muAt w.heap.size g.length wr))
  case atStart => exact ⟨_, true, rfl, R0, V0⟩
  case round =>
    clear R0 V0 hmk hmb
    obtain ⟨st, ch, rfl, hR, hV⟩ := hrel
    have OS := hid hV.out.1
    cases ch with
    | false =>
      have EF : Hid (shFin g = st) := by have h := hV.out.2; rw [if_neg (by decide)] at h; exact h
      have isl : ii < st.2.length := by rw [OS.out.s]; omega
      have ibl : ii < st.1.length := by rw [OS.out.b]; omega
      have b0 := Has.cell hR.out.box 0
      simp at b0
      have c1 := hR.out.someAt isl
      have B := hid hR.out.bel
      have E1 : Hid (shortE g (ii : Int) = if sAt st.2 ii = false then 2 else if 1000 < (rowAt st.1 ii).length then 4 else 0) := by
        show _ = _
        unfold shortE
        rw [if_neg (by simp [HG0.out]), if_neg NI.out, EF.out, Int.toNat_natCast]
      have E2 : Hid (shortE g (ii : Int) = 0 → shortF g (ii : Int) = rowAt st.1 ii) := fun h => by unfold shortF; rw [if_pos h, EF.out, Int.toNat_natCast]
      cases hs : sAt st.2 ii with
      | false =>
        have FF := hid (FIN.out 2 (by rw [E1.out, if_pos hs]) (by decide) _ B.out)
        rw [errV_no (by decide)] at FF
        rw [hs] at c1
        clear hs hR hV isl ibl
        go_wp2_with fail
        go_ret2
        exact FF.out
      | true =>
        obtain ⟨u, c2, ho⟩ := hR.out.bestAt ibl
        obtain ⟨Au, cu, rfl, hu1, hu2⟩ := own_sl ho
        rw [hs] at c1
        by_cases h1000 : 1000 < (rowAt st.1 ii).length
        · have FF := hid (FIN.out 4 (by rw [E1.out, if_neg (by rw [hs]; decide), if_pos h1000]) (by decide) _ B.out)
          rw [errV_no (by decide)] at FF
          have h6 : 1000 < ((rowAt st.1 ii).length : Int) := by omega
          clear hs hR hV isl ibl ho h1000
          go_wp2_with fail
          go_ret2
          exact FF.out
        · have E3 : Hid (shortE g (ii : Int) = 0) := by show _ = _; rw [E1.out, if_neg (by rw [hs]; decide), if_neg h1000]
          have h6 : ¬ 1000 < ((rowAt st.1 ii).length : Int) := by omega
          have O2 : Hid (wr.ownsRow w.heap.size 3 1 (.slice Au (rowAt st.1 ii).length cu) (shortF g (ii : Int)).length ((shortF g (ii : Int)).map (Value.int .i64))) := by
            show World.ownsRow _ _ _ _ _ _ _
            rw [E2.out E3.out]; exact own_lo ho (by omega)
          clear hs hR hV isl ibl ho h1000
          go_wp2_with fail
          go_ret2
          exact ⟨_, by rw [E3.out]; rfl, O2.out, B.out⟩
    | true =>
      obtain ⟨hS1, hS2⟩ := shInv_step OK.out hV.out
      have S1 := hid hS1
      have S2 := hid hS2
      have M0 : Hid (muAt w.heap.size g.length wr = muS st.1 st.2) := muAt_eq hR.out OS.out
      have R1 := hid hR.out
      obtain ⟨st0, hst0⟩ : ∃ st0 : Sh × Bool, st0 = (st, false) := ⟨_, rfl⟩
      have HST := hid hst0
      rw [← hst0] at S1 S2
      have LE := hid (fun m hm => shG_le (st := st0) OK.out (by rw [HST.out]; exact OS.out) m hm)
      clear hS1 hS2 hR hV hst0 FIN OS
      go_wp2_with fail
      go_loopw [9, 40] (fun cv ai wr => ∃ a : Nat, a ≤ g.length ∧ ai = .int .i64 a ∧ cv = .bool (shG g st0 a).2 ∧ Hid (ShR w g.length (shG g st0 a).1 wr)) (fun _ ai _ => g.length - (intOf ai).toNat)
      case atStart => exact ⟨0, Nat.zero_le _, rfl, by rw [HST.out]; rfl, by rw [HST.out]; exact R1⟩
      case round =>
        clear R1
        obtain ⟨a, ha, rfl, rfl, hR⟩ := hrel
        by_cases hat : a < g.length
        · obtain ⟨b, o, rfl, hb, hc⟩ := H3.out (by omega)
          obtain ⟨r, c1, hr⟩ := hc a hat
          have c1 := (hR.out.bel.cell (p := ⟨b, o + a, none⟩) (HF.out b hb)).trans c1
          have GRU := hid (gram_rule OK.out hat)
          have LA := hid (LE.out a (by omega))
          obtain ⟨l, hl⟩ : ∃ l, l = gAt g a := ⟨_, rfl⟩
          rw [← hl] at hr GRU
          have HL := hid hl
          obtain ⟨A2, cp2, rfl, l1, hr3⟩ := hr
          have R3 := hid hr3
          unfold maxLen at l1
          have i1 : (a : Int) < (g.length : Int) := by omega
          obtain ⟨st1, hst1⟩ : ∃ st1, st1 = shG g st0 a := ⟨_, rfl⟩
          rw [← hst1] at hR LA
          have HS1 := hid hst1
          rw [← hst1]
          have R1 := hid hR.out
          have LR := hid (fun m hm => shR_le (st := st1) (k := a) (rules := l) LA.out.1 g5 hat GRU.out m hm)
          clear hc hl hr3 hst1 hb hR
          go_wp2_with fail
          go_loopw [9, 47] (fun cv ki wr => ∃ k : Nat, k ≤ l.length ∧ ki = .int .i64 k ∧ cv = .bool (shR l a st1 k).2 ∧ Hid (ShR w g.length (shR l a st1 k).1 wr)) (fun _ ki _ => l.length - (intOf ki).toNat)
          case atStart => exact ⟨0, Nat.zero_le _, rfl, rfl, R1⟩
          case round =>
            clear R1 c1
            obtain ⟨k, hk, rfl, rfl, hR⟩ := hrel
            by_cases hkt : k < l.length
            · obtain ⟨b2, o2, rfl, hb2, hc2⟩ := R3.out (by omega)
              obtain ⟨r2, c2, hr2⟩ := hc2 k hkt
              have c2 := (hR.out.bel.cell (p := ⟨b2, o2 + k, none⟩) (HF.out b2 hb2)).trans c2
              have RO := hid (GRU.out k hkt)
              have LK := hid (LR.out k (by omega))
              obtain ⟨s, hs⟩ : ∃ s, s = rowAt l k := ⟨_, rfl⟩
              rw [← hs] at hr2 RO
              have HS := hid hs
              have s4 := RO.out.len
              have RI := hid ((hr2.keep (Same.of_below hR.out.bel HF.out)).more (F' := fun b => b < w.heap.size) HF.out)
              obtain ⟨A4, cp4, rfl, s1, _, _⟩ := hr2
              unfold maxLen at s1
              have i2 : (k : Int) < (l.length : Int) := by omega
              obtain ⟨st2, hst2⟩ : ∃ st2, st2 = shR l a st1 k := ⟨_, rfl⟩
              rw [← hst2] at hR LK
              have NX : Hid (shR l a st1 (k + 1) = shStep st2 a s) := by show _ = _; rw [shR, ← hst2, ← hs]
              rw [← hst2]
              have R1 := hid hR.out
              have sR := hR.out.bel.size
              have OS := hid LK.out.1
              clear hc2 hs hst2 hb2 hR
              go_wp2_with fail
              refine (zcf_any (lackB st2.1.2) 16 #[.pointer (some ⟨w.heap.size + 2, 0, none⟩)] s (fun b => b < w.heap.size) _ wr (fun b h => by omega) RI.out (Nat.le_refl _) (lack_asks w g.length st2.1 s wr R1.out OS.out.s RO.out.sym g5) (fun _ _ => by kernel_rfl)).mono ?_
              rintro e w2 ⟨rfl, hb⟩
              have R2 := hid (R1.out.below hb)
              have RI2 := hid (RI.out.keep (Same.of_below (B := w.heap.size) (hb.mono sR) fun b h => h))
              clear hb R1 RI
              cases hlk : s.any (lackB st2.1.2) with
              | true =>
                have E : Hid (shR l a st1 (k + 1) = st2) := by show _ = _; rw [NX.out]; unfold shStep; rw [if_pos hlk]
                clear hlk
                go_wp2_with fail
                go_roundw
                case rel => exact ⟨k + 1, by omega, by go_num, by rw [E.out], by rw [E.out]; exact R2⟩
                case measure => simp [intOf]; omega
              | false =>
                have NX2 : Hid (shR l a st1 (k + 1) = if betterB st2.1 a s then ((st2.1.1.set a (sumR st2.1.1 s), st2.1.2.set a true), true) else st2) := by show _ = _; rw [NX.out]; unfold shStep; rw [if_neg (by rw [hlk]; decide)]
                have SS := hid (sum_small OS.out g5 RO.out)
                have SL := hid (sum_let OS.out RO.out.sym)
                obtain ⟨wb, hwb⟩ : ∃ wb, wb = w2 := ⟨_, rfl⟩
                subst hwb
                clear hlk NX
                have sW := R2.out.bel.size
                have RI3 := RI2.out
                obtain ⟨_, _, eI, _, _, hIc⟩ := RI3
                injection eI with eI1 _ eI3
                subst eI1 eI3
                have RC := hid hIc
                have W0 : Hid (∀ m, (sumR st2.1.1 (s.take m)).length ≤ 4096) := fun m => Nat.le_trans (sumR_le _ _ _) SS.out
                clear hIc
                go_wp2_with fail
                go_loopw [14, 56] (fun wv mi wr => ∃ m : Nat, m ≤ s.length ∧ mi = .int .i64 m ∧ Hid (wr.ownsRow wb.heap.size 3 1 wv (sumR st2.1.1 (s.take m)).length ((sumR st2.1.1 (s.take m)).map (Value.int .i64))) ∧ Hid (Below wb.heap.size wb wr)) (fun _ mi _ => s.length - (intOf mi).toNat)
                case atStart => exact ⟨0, Nat.zero_le _, rfl, World.ownsRow_nil _ _ _ _, Below.refl _ _⟩
                case round =>
                  obtain ⟨m, hm, rfl, hO, hB⟩ := hrel
                  by_cases hmt : m < s.length
                  · obtain ⟨b6, o6, rfl, hb6, hc6⟩ := RC.out (by omega)
                    have c6 := (hB.out.cell (p := ⟨b6, o6 + m, none⟩) (Nat.lt_of_lt_of_le hb6 sW)).trans (hc6 m hmt)
                    have EX : s.getD m 0 = at0 s m := rfl
                    rw [EX] at c6
                    have i3 : (m : Int) < (s.length : Int) := by omega
                    have XS := hid (RO.out.sym _ (mem_at hmt))
                    have SN := hid (sumR_snoc st2.1.1 s hmt)
                    have w0 := W0.out m
                    have w1 := W0.out (m + 1)
                    obtain ⟨x, hx⟩ : ∃ x, x = at0 s m := ⟨_, rfl⟩
                    rw [← hx] at c6 XS SN
                    obtain ⟨cu, hcu⟩ : ∃ cu, cu = sumR st2.1.1 (s.take m) := ⟨_, rfl⟩
                    rw [← hcu] at hO SN w0
                    have O1 := hid hO.out
                    have B1 := hid hB.out
                    have R3 := hid (R2.out.below hB.out)
                    have sB := hB.out.size
                    clear hc6 hb6 EX hx hcu hO hB
                    by_cases hx0 : x < 0
                    · obtain ⟨a2, ha2⟩ : ∃ a2 : Nat, -1 - x = (a2 : Int) := ⟨(-1 - x).toNat, by omega⟩
                      have an : a2 < g.length := by have := XS.out; omega
                      have EP : Hid (pieceW st2.1.1 x = rowAt st2.1.1 a2) := by show _ = _; unfold pieceW; rw [if_pos hx0, ha2]; simp
                      obtain ⟨u, c7, ho7⟩ := R3.out.bestAt (k := a2) (by rw [OS.out.b]; exact an)
                      have e5 : wrap64 (-1 - x) = (a2 : Int) := by have := XS.out; unfold wrap64; omega
                      have i5 : (a2 : Int) < (g.length : Int) := by omega
                      have C7 := hid (IntsIn.cells (ints_of_own ho7 fun z hz => WalkArith.wf_i64 (by have := OS.out.let_ a2 an z hz; omega)))
                      have p0 := OS.out.small g5 an
                      obtain ⟨Au, cu2, rfl, hu1, hu2⟩ := own_sl ho7
                      obtain ⟨pw, hpw⟩ : ∃ pw, pw = rowAt st2.1.1 a2 := ⟨_, rfl⟩
                      rw [← hpw] at EP c7 C7 p0 hu1
                      unfold maxLen at hu2
                      clear ha2 ho7 hpw
                      go_wp2_with (at_builtin; refine wpList_app _ rfl (.tmp 62) (.tmp 67) 29 rfl wb.heap.size 3 i0 (.int .i64 0) 1 8 Tryd.underlying29 hi0 hz0 hz1 hz2 rfl (by decide) _ _ _ rfl O1.out _ _ pw.length _ rfl C7.out (ints_one .i64 pw) (by unfold maxLen; omega) (by omega) (by omega) ?_; intro v5 w5 hown hgrow hat; have R5 : Hid (w5.ownsRow wb.heap.size 3 1 v5 (sumR st2.1.1 (s.take (m + 1))).length ((sumR st2.1.1 (s.take (m + 1))).map (Value.int .i64))) := (by rw [SN.out, EP.out, List.length_append, List.map_append]; exact hown); have B5 : Hid (Below wb.heap.size wb w5) := (B1.out.grown hgrow sB (own_ge O1.out)); clear hown hgrow hat)
                      go_roundw
                      case rel => exact ⟨m + 1, by omega, by go_num, R5, B5⟩
                      case measure => simp [intOf]; omega
                    · have EP : Hid (pieceW st2.1.1 x = [x]) := by show _ = _; unfold pieceW; rw [if_neg hx0]
                      have O3 := hid (O1.out.alloc (.cells #[.int .i64 x] 3))
                      have C3 := hid (cells_1 wr (.int .i64 x) 3 rfl)
                      go_wp2_with (at_builtin; refine wpList_app _ rfl (.tmp 69) (.tmp 71) 29 rfl wb.heap.size 3 i0 (.int .i64 0) 1 8 Tryd.underlying29 hi0 hz0 hz1 hz2 rfl (by decide) _ _ _ rfl O3.out _ _ 1 _ rfl C3.out (by intro u hu; simp at hu; subst hu; rfl) (by unfold maxLen; omega) (by omega) (by simp; omega) ?_; intro v5 w5 hown hgrow hat; have R5 : Hid (w5.ownsRow wb.heap.size 3 1 v5 (sumR st2.1.1 (s.take (m + 1))).length ((sumR st2.1.1 (s.take (m + 1))).map (Value.int .i64))) := (by rw [SN.out, EP.out, List.length_append, List.map_append]; exact hown); have B5 : Hid (Below wb.heap.size wb w5) := ((B1.out.alloc sB _).grown hgrow (by simp; omega) (own_ge O3.out)); clear hown hgrow hat)
                      go_roundw
                      case rel => exact ⟨m + 1, by omega, by go_num, R5, B5⟩
                      case measure => simp [intOf]; omega
                  · obtain rfl : m = s.length := by omega
                    rw [List.take_length] at hO
                    obtain ⟨Av, cv, rfl, hv1, hv2⟩ := own_sl hO.out
                    have R3 := hid (R2.out.below hB.out)
                    have b0 := Has.cell R3.out.box 0
                    simp at b0
                    have c8 := R3.out.someAt (k := a) (by rw [OS.out.s]; exact hat)
                    have PUT := hid (R2.out.put (k := a) (by rw [OS.out.b]; exact hat) hB.out hO.out)
                    have IW := hid ((ints_of_own hO.out fun z hz => WalkArith.wf_i64 (by have := SL.out z hz; omega)).more (F' := fun _ => True) fun _ _ => trivial)
                    obtain ⟨ww, hww⟩ : ∃ ww, ww = sumR st2.1.1 s := ⟨_, rfl⟩
                    have O9 := hid hO.out
                    have B9 := hid hB.out
                    rw [← hww] at IW PUT hv1 NX2 O9
                    rw [← hww]
                    have HWW := hid hww
                    have f8 := Has.froz R3.out.some_ a
                    have f9 : wr.frozen? ⟨w.heap.size, a, none⟩ = false := (by obtain ⟨us, hf⟩ := R3.out.fam; exact hf.froz a)
                    unfold maxLen at hv2
                    clear hO hB hww
                    obtain ⟨u, c9, ho9⟩ := R3.out.bestAt (k := a) (by rw [OS.out.b]; exact hat)
                    have I9 := hid ((ints_of_own ho9 fun z hz => WalkArith.wf_i64 (by have := OS.out.let_ a hat z hz; omega)).more (F' := fun _ => True) fun _ _ => trivial)
                    obtain ⟨Au, cu2, rfl, hu1, hu2⟩ := own_sl ho9
                    unfold maxLen at hu2
                    clear ho9
                    cases hsb : sAt st2.1.2 a with
                    | false =>
                      have E : Hid (shR l a st1 (k + 1) = ((st2.1.1.set a ww, st2.1.2.set a true), true)) := by
                        show _ = _; rw [NX2.out, if_pos]; unfold betterB; rw [hsb]; rfl
                      rw [hsb] at c8
                      clear hsb NX2
                      go_wp2_with fail
                      go_region
                      all_goals go_wp2_with fail
                      all_goals exact ⟨⟨k + 1, by omega, by go_num, by rw [E.out], by rw [E.out]; exact PUT.out.below (Below.refl _ _).drew⟩, by simp [intOf]; omega⟩
                    | true =>
                      have BT : Hid (betterB st2.1 a s = tlessB ww (rowAt st2.1.1 a)) := by show _ = _; unfold betterB; rw [hsb, HWW.out]; simp
                      rw [hsb] at c8
                      clear hsb
                      go_wp2_with fail
                      refine (tless_is ww (rowAt st2.1.1 a) (fun _ => True) _ _ wr IW.out I9.out).mono ?_
                      rintro e w5 ⟨q, rfl, rfl⟩
                      have c9' : (wr.drewN q).cell? ⟨w.heap.size, a, none⟩ = some (.slice Au (rowAt st2.1.1 a).length cu2) := c9
                      have c8' : (wr.drewN q).cell? ⟨w.heap.size + 1, a, none⟩ = some (.bool true) := c8
                      have b0' : (wr.drewN q).cell? ⟨w.heap.size + 2, 0, none⟩ = _ := b0
                      have f8' : (wr.drewN q).frozen? ⟨w.heap.size + 1, a, none⟩ = false := f8
                      have f9' : (wr.drewN q).frozen? ⟨w.heap.size, a, none⟩ = false := f9
                      have R4 := hid (R3.out.below (below_drewN (Below.refl _ _) q))
                      have PUT2 := hid (R2.out.put (w1 := wr.drewN q) (v := .slice Av ww.length cv) (x := ww) (k := a) (by rw [OS.out.b]; exact hat) (below_drewN B9.out q) (own_below O9.out (below_drewN (Below.refl _ _) q)))
                      generalize wr.drewN q = w6 at *
                      obtain ⟨tb, htb⟩ : ∃ tb, tb = tlessB ww (rowAt st2.1.1 a) := ⟨_, rfl⟩
                      rw [← htb] at BT ⊢
                      clear htb c8 c9 b0 f8 f9
                      cases tb with
                      | false =>
                        have E : Hid (shR l a st1 (k + 1) = st2) := by show _ = _; rw [NX2.out, if_neg (by rw [BT.out]; decide)]
                        clear NX2 BT
                        go_wp2_with fail
                        go_roundw
                        case rel => exact ⟨k + 1, by omega, by go_num, by rw [E.out], by rw [E.out]; exact R4⟩
                        case measure => simp [intOf]; omega
                      | true =>
                        have E : Hid (shR l a st1 (k + 1) = ((st2.1.1.set a ww, st2.1.2.set a true), true)) := by show _ = _; rw [NX2.out, if_pos BT.out]
                        clear NX2 BT
                        go_wp2_with fail
                        go_region
                        all_goals go_wp2_with fail
                        all_goals exact ⟨⟨k + 1, by omega, by go_num, by rw [E.out], by rw [E.out]; exact PUT2.out.below (Below.refl _ _).drew⟩, by simp [intOf]; omega⟩
            · obtain rfl : k = l.length := by omega
              have EQ : shR l a st1 l.length = shG g st0 (a + 1) := by rw [shG, ← HS1.out, ← HL.out]
              rw [EQ] at hR ⊢
              have R2 := hid hR.out
              clear hR EQ
              go_wp2_with fail
              go_roundw
              case rel => exact ⟨a + 1, by omega, by go_num, rfl, R2⟩
              case measure => simp [intOf]; omega
        · obtain rfl : a = g.length := by omega
          have R2 := hid hR.out
          have M1 : Hid (muAt w.heap.size g.length wr = muS (shG g st0 g.length).1.1 (shG g st0 g.length).1.2) := muAt_eq hR.out (LE.out _ (Nat.le_refl _)).1
          obtain ⟨st9, hst9⟩ : ∃ st9, st9 = shG g st0 g.length := ⟨_, rfl⟩
          rw [← hst9] at R2 S1 S2 M1
          rw [← hst9]
          obtain ⟨b9, p9⟩ := st9
          clear hR hst9
          go_wp2_with fail
          go_roundw
          case rel => exact ⟨b9, p9, rfl, R2, S1⟩
          case measure =>
            have m0 := M0.out
            have m1 := M1.out
            have s2 := S2.out
            simp only at m1 s2
            cases p9 with
            | true => have := s2 rfl; simp only [liveM]; omega
            | false => simp only [liveM]; omega
end Go.Proofs.YtbnannlpebggjaaDoor
