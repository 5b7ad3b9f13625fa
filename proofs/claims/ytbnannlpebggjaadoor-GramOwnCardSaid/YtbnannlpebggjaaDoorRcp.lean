/- The statements' own rows: a copy of a list of rows, all in blocks of its own. Condition: 2^47 bytes. -/
import Derived.Test.YtbnannlpebggjaaDoorSpo
import Derived.Test.YtbnannlpebggjaaDoorOwh
import Derived.Test.YtbnannlpebggjaaDoorRap
namespace Go.Proofs.YtbnannlpebggjaaDoor
open Go.RowKit Go.Deep
theorem infoRowC : (Tryd.prog.info? 29).map (fun i => (i.zero, i.size, i.bytes)) = some (some (.slice none 0 0), 1, 24) := by kernel_rfl
/-- cells that hold row slices which read so -/
def RowCellsC (F : Nat → Prop) (w : World) (cs : List Value) (ll : List (List Int)) : Prop := ∀ i, i < ll.length → ∃ r, cs[i]? = some r ∧ IntsIn .i64 F w r (rowAt ll i)
theorem RowCellsC.keep {F : Nat → Prop} {w w' : World} {cs : List Value} {ll : List (List Int)} (h : RowCellsC F w cs ll) (hs : Same F w w') : RowCellsC F w' cs ll := fun i hi => by
  obtain ⟨r, h1, h2⟩ := h i hi
  exact ⟨r, h1, h2.keep hs⟩
theorem RowCellsC.more {F F' : Nat → Prop} {w : World} {cs : List Value} {ll : List (List Int)} (h : RowCellsC F w cs ll) (hF : ∀ b, F b → F' b) : RowCellsC F' w cs ll := fun i hi => by
  obtain ⟨r, h1, h2⟩ := h i hi
  exact ⟨r, h1, h2.more hF⟩
theorem RowCellsC.snoc {F : Nat → Prop} {w : World} {cs : List Value} {ll : List (List Int)} {u : Value} {row : List Int} (h : RowCellsC F w cs ll) (hl : cs.length = ll.length) (hu : IntsIn .i64 F w u row) : RowCellsC F w (cs ++ [u]) (ll ++ [row]) := by
  refine rows_join hl h ?_
  intro i hi
  simp at hi; subst hi
  exact ⟨u, rfl, hu⟩
theorem ints_blockC {w : World} {base n : Nat} {e : TypeId} {v : Value} {zs : List Int} (h : w.ownsRow base e 1 v n (zs.map (Value.int .i64))) (hw : ∀ z ∈ zs, (Lit.int .i64 z).wf = true) : IntsIn .i64 (fun b => v.ownBlock = some b) w v zs := by
  have hl : zs.length = n := by have := h.1; simpa using this
  subst hl
  by_cases hn : 0 < zs.length
  · obtain ⟨g, cap, rfl, hb, hlt, hc1, hc2, hc⟩ := own_open h hn
    refine ⟨_, cap, rfl, by omega, hw, fun _ => ⟨g, 0, rfl, rfl, fun i hi => ?_⟩⟩
    rw [Nat.zero_add, hc i (by omega)]
    simp [List.getD_eq_getElem?_getD, List.getElem?_eq_getElem hi]
  · rcases h.2 with ⟨rfl, h0⟩ | ⟨g, cap, cur, rfl, hb, hh, hc1, hc2, _⟩
    · exact ⟨none, 0, by simp; omega, by unfold maxLen; omega, hw, fun h => absurd h hn⟩
    · exact ⟨_, cap, rfl, by omega, hw, fun h => absurd h hn⟩
structure CInv (B : Nat) (ov : Value) (cs : List Value) (ll : List (List Int)) (w : World) : Prop where
  own : w.ownsRow B 29 1 ov ll.length cs
  at_ : RowCellsC (fun b => B ≤ b ∧ b < w.heap.size ∧ ov.ownBlock ≠ some b) w cs ll
theorem CInv.next {B : Nat} {ov ov' r : Value} {cs : List Value} {ll : List (List Int)} {w w1 w2 : World} {o : Obj} {row : List Int} {n : Nat} (h : CInv B ov cs ll w) (hB : B ≤ w.heap.size) (hb : Below w.heap.size w w1)
    (hr : w1.ownsRow w.heap.size 3 1 r n (row.map (Value.int .i64))) (hw : ∀ z ∈ row, (Lit.int .i64 z).wf = true)
    (hown : w2.ownsRow B 29 1 ov' (ll.length + 1) (cs ++ [r])) (hg : (w1.alloc o).grownBy w2 ov.ownBlock) (hat : ov'.ownBlock = ov.ownBlock ∨ ov'.ownBlock = some (w1.alloc o).heap.size) : CInv B ov' (cs ++ [r]) (ll ++ [row]) w2 := by
  have s1 := hb.size
  have sg := hg.size
  simp only [World.size_alloc] at sg
  have far : ∀ b, b < w1.heap.size → ov.ownBlock ≠ some b → ov'.ownBlock ≠ some b := fun b hb hn e => by
    rcases hat with k | k
    · exact hn (k ▸ e)
    · rw [k, World.size_alloc] at e; injection e with e; omega
  have keep : ∀ b, b < w1.heap.size → ov.ownBlock ≠ some b → w2.heap[b]? = w1.heap[b]? := fun b hb hn => (hg.block b (by simp; omega) (fun e => hn e.symm)).trans (Below.heap_alloc w1 o b hb)
  have ro := own_lt hr
  have rg := own_ge hr
  have rn : ∀ b, r.ownBlock = some b → ov.ownBlock ≠ some b := fun b e e2 => by
    have h1 := own_lt h.own b e2
    have h2 := rg b e
    omega
  refine ⟨by simpa using hown, ?_⟩
  refine RowCellsC.snoc ?_ (by have := h.own.1; simpa using this) ?_
  · refine ((h.at_.keep (Same.of_below hb fun b hb' => hb'.2.1)).keep fun b hb' => keep b (by omega) hb'.2.2).more fun b hb' => ⟨hb'.1, by omega, far b (by omega) hb'.2.2⟩
  · refine ((ints_blockC hr hw).keep fun b e => keep b (ro b e) (rn b e)).more fun b e => ⟨by have := rg b e; omega, by have := ro b e; omega, far b (ro b e) (rn b e)⟩
theorem take_row {ll : List (List Int)} {i : Nat} (h : i < ll.length) : ll.take (i + 1) = ll.take i ++ [rowAt ll i] := by
  rw [List.take_succ_eq_append_getElem h]; unfold rowAt; rw [List.getD_eq_getElem?_getD, List.getElem?_eq_getElem h]; rfl
theorem rowAt_memC {ll : List (List Int)} {i : Nat} (h : i < ll.length) : rowAt ll i ∈ ll := by
  unfold rowAt; rw [List.getD_eq_getElem?_getD, List.getElem?_eq_getElem h]; exact List.getElem_mem _
set_option maxRecDepth 100000 in
set_option maxHeartbeats 1000000 in
theorem rcopy_any (ll : List (List Int)) (F : Nat → Prop) (v : Value) (w : World) (hF : ∀ b, F b → b < w.heap.size) (hv : RowsIn F w v ll) (hz : ll.length * 24 ≤ 140737488355328) (hz2 : ∀ x ∈ ll, x.length * 8 ≤ 140737488355328) :
    Calls Tryd.prog 4 #[v] w fun e w' => ∃ r, e = .returned r ∧ RowsIn (fun b => w.heap.size ≤ b ∧ b < w'.heap.size) w' r ll ∧ Below w.heap.size w w' := by
  have HF := hid hF
  obtain ⟨A, c, rfl, h1, h3⟩ := hv
  have H3 := hid h3
  have HZ := hid hz2
  unfold maxLen at h1
  have h2 : ll.length ≤ 5864062014805 := by omega
  clear h3 hF hz hz2
  obtain ⟨i0, hi, hz0, hz1, hz2⟩ := info_parts infoRowC
  go_enter Tryd.func4, Tryd.ntmps4
  go_wp2_with fail
  go_loopw [3, 4] (fun ov ii wr => ∃ (i : Nat) (cs : List Value), i ≤ ll.length ∧ ii = .int .i64 i ∧ Hid (CInv w.heap.size ov cs (ll.take i) wr) ∧ Hid (Below w.heap.size w wr)) (fun _ ii _ => ll.length - (intOf ii).toNat)
  case atStart => exact ⟨0, [], Nat.zero_le _, rfl, ⟨World.ownsRow_nil _ _ _ _, fun i hi => by simp at hi⟩, Below.refl _ _⟩
  case round =>
    obtain ⟨i, cs, hi1, rfl, hC, hB⟩ := hrel
    have sB := hB.out.size
    by_cases hlt : i < ll.length
    · obtain ⟨b, o, rfl, hb, hcc⟩ := H3.out (by omega)
      obtain ⟨r, hr, hri⟩ := hcc i hlt
      have lb := HF.out b hb
      have c1 := (hB.out.cell (p := ⟨b, o + i, none⟩) lb).trans hr
      have I1 := hid (hri.keep (Same.of_below hB.out HF.out))
      have WF : Hid (∀ z ∈ rowAt ll i, (Lit.int .i64 z).wf = true) := by obtain ⟨_, _, _, _, h, _⟩ := hri; exact h
      have RL := HZ.out _ (rowAt_memC hlt)
      have i1 : (i : Int) < (ll.length : Int) := by omega
      have TK : Hid (ll.take (i + 1) = ll.take i ++ [rowAt ll i]) := take_row hlt
      have LT : Hid ((ll.take i).length = i) := by show _ = _; rw [List.length_take]; omega
      clear hcc hr hri
      go_wp2_with fail
      refine (copy_any (rowAt ll i) F r wr (fun b h => by have := HF.out b h; omega) I1.out RL).mono ?_
      rintro e w1 ⟨r1, rfl, hO1, hb1⟩
      have s1 := hb1.size
      have H1 := hid hb1
      have O1 := hid hO1
      obtain ⟨A5, c5, rfl, _, _⟩ := own_slice1 hO1
      have OW := hid ((own_below hC.out.own hb1).alloc (.cells #[.slice A5 (rowAt ll i).length c5] 29))
      have C1 := hid (cells_1 w1 (.slice A5 (rowAt ll i).length c5) 29 rfl)
      clear hO1 hb1
      rw [LT.out] at OW
      go_wp2_with (at_builtin; go_loud (refine wpList_app _ rfl (.tmp 11) (.tmp 17) 23 rfl w.heap.size 29 i0 (.slice none 0 0) 1 24 Tryd.underlying23 hi hz0 hz1 hz2 rfl (by decide) _ _ _ rfl OW.out _ _ 1 _ rfl C1.out (by intro u hu; simp at hu; subst hu; rfl) (by unfold maxLen; omega) (by omega) (by simp; omega) ?_); intro v4 w4 hown4 hgrow4 hat4; have R4 := hid (hC.out.next sB H1.out O1.out WF.out (by rw [LT.out]; exact hown4) hgrow4 hat4); rw [← TK.out] at R4; have B4 : Hid (Below w.heap.size w w4) := ((hB.out.trans (H1.out.mono sB)).alloc (by omega) _).grown hgrow4 (by simp; omega) (own_ge OW.out); clear hown4 hgrow4 hat4)
      go_roundw
      case rel => exact ⟨i + 1, _, by omega, by go_num, R4, B4⟩
      case measure => simp [intOf]; omega
    · obtain rfl : i = ll.length := by omega
      rw [List.take_length] at hC
      have RF : Hid (RowsIn (fun b => w.heap.size ≤ b ∧ b < wr.heap.size) wr _ ll) := hid (rows_of_own hC.out.own rfl (hC.out.at_.more fun b h => ⟨h.1, h.2.1⟩) fun b h1 h2 => ⟨h1, h2⟩)
      clear hC
      go_wp2_with fail
      go_ret
      exact ⟨_, rfl, RF.out, hB.out⟩
end Go.Proofs.YtbnannlpebggjaaDoor
