/- Copies of grammars in blocks of the call's own; how long words are; the example of the law. No conditions. -/
import Derived.Test.YtbnannlpebggjaaDoorGsh
import Derived.Test.YtbnannlpebggjaaDoorRcp
import Derived.Test.YtbnannlpebggjaaDoorSpi
namespace Go.Proofs.YtbnannlpebggjaaDoor
open Go.RowKit Go.Deep
theorem infoRowsG : (Tryd.prog.info? 23).map (fun i => (i.zero, i.size, i.bytes)) = some (some (.slice none 0 0), 1, 24) := by kernel_rfl
structure GInv (B : Nat) (ov : Value) (cs : List Value) (ll : Gr) (w : World) : Prop where
  own : w.ownsRow B 23 1 ov ll.length cs
  at_ : ∀ i, i < ll.length → ∃ r, cs[i]? = some r ∧ RowsIn (fun b => B ≤ b ∧ b < w.heap.size ∧ ov.ownBlock ≠ some b) w r (gAt ll i)
theorem GInv.next {B : Nat} {ov ov' r : Value} {cs : List Value} {ll : Gr} {w w1 w2 : World} {o : Obj} {row : List (List Int)} (h : GInv B ov cs ll w) (hB : B ≤ w.heap.size) (hb : Below w.heap.size w w1)
    (hr : RowsIn (fun b => w.heap.size ≤ b ∧ b < w1.heap.size) w1 r row)
    (hown : w2.ownsRow B 23 1 ov' (ll.length + 1) (cs ++ [r])) (hg : (w1.alloc o).grownBy w2 ov.ownBlock) (hat : ov'.ownBlock = ov.ownBlock ∨ ov'.ownBlock = some (w1.alloc o).heap.size) : GInv B ov' (cs ++ [r]) (ll ++ [row]) w2 := by
  have s1 := hb.size
  have sg := hg.size
  simp only [World.size_alloc] at sg
  have far : ∀ b, b < w1.heap.size → ov.ownBlock ≠ some b → ov'.ownBlock ≠ some b := fun b hb hn e => by
    rcases hat with k | k
    · exact hn (k ▸ e)
    · rw [k, World.size_alloc] at e; injection e with e; omega
  have keep : ∀ b, b < w1.heap.size → ov.ownBlock ≠ some b → w2.heap[b]? = w1.heap[b]? := fun b hb hn => (hg.block b (by simp; omega) (fun e => hn e.symm)).trans (Below.heap_alloc w1 o b hb)
  have ol : ∀ b, ov.ownBlock = some b → b < w.heap.size := own_lt h.own
  refine ⟨by rw [List.length_append]; exact hown, fun i hi => ?_⟩
  have l1 : cs.length = ll.length := by have := h.own.1; simpa using this
  by_cases hl : i < ll.length
  · obtain ⟨r', h3, h4⟩ := h.at_ i hl
    refine ⟨r', by rw [List.getElem?_append_left (by omega)]; exact h3, ?_⟩
    have e : gAt (ll ++ [row]) i = gAt ll i := by unfold gAt; rw [List.getD_eq_getElem?_getD, List.getD_eq_getElem?_getD, List.getElem?_append_left hl]
    rw [e]
    exact ((h4.keep (Same.of_below hb fun b hb' => hb'.2.1)).keep fun b hb' => keep b (by omega) hb'.2.2).more fun b hb' => ⟨hb'.1, by omega, far b (by omega) hb'.2.2⟩
  · have e : i = ll.length := by rw [List.length_append] at hi; simp at hi; omega
    subst e
    refine ⟨r, by rw [List.getElem?_append_right (by omega), show ll.length - cs.length = 0 by omega]; rfl, ?_⟩
    have e : gAt (ll ++ [row]) ll.length = row := by unfold gAt; rw [List.getD_eq_getElem?_getD, List.getElem?_append_right (Nat.le_refl _), Nat.sub_self]; rfl
    rw [e]
    exact (hr.keep fun b hb' => keep b hb'.2 fun e2 => by have := ol b e2; omega).more fun b hb' => ⟨by omega, by omega, far b hb'.2 fun e2 => by have := ol b e2; omega⟩
theorem GInv.gram {B : Nat} {ov : Value} {cs : List Value} {ll : Gr} {w : World} (h : GInv B ov cs ll w) : GramIn (fun b => B ≤ b ∧ b < w.heap.size) w ov ll := by
  have h1 := h.own
  by_cases hn : 0 < ll.length
  · obtain ⟨g, cap, rfl, hb, hlt, hc1, hc2, hcell⟩ := own_open h1 hn
    refine ⟨_, cap, rfl, by omega, fun _ => ⟨g, 0, rfl, ⟨hb, hlt⟩, fun i hi => ?_⟩⟩
    obtain ⟨r, hr, hi'⟩ := h.at_ i hi
    exact ⟨r, by rw [Nat.zero_add, hcell i (by omega)]; exact hr, hi'.more fun b hb => ⟨hb.1, hb.2.1⟩⟩
  · rcases h1.2 with ⟨rfl, h0⟩ | ⟨g, cap, cur, rfl, hb, hh, hc1, hc2, _⟩
    · exact ⟨none, 0, by rw [h0], by rw [h0]; exact ⟨Nat.le_refl _, by unfold maxLen; omega⟩, fun h => absurd h hn⟩
    · exact ⟨_, cap, rfl, by omega, fun h => absurd h hn⟩
theorem take_gram {ll : Gr} {i : Nat} (h : i < ll.length) : ll.take (i + 1) = ll.take i ++ [gAt ll i] := by
  rw [List.take_succ_eq_append_getElem h, gAt_get h]
theorem gAt_mem {ll : Gr} {i : Nat} (h : i < ll.length) : gAt ll i ∈ ll := by rw [gAt_get h]; exact List.getElem_mem h
theorem shIter_ok {g : Gr} (hg : GramOk g) : ∀ (n : Nat) (st : Sh), ShOk g.length st → ShOk g.length (shIter g n st)
  | 0, st, h => h
  | n + 1, st, h => by
    have h1 := (shG_le (st := (st, false)) hg h g.length (Nat.le_refl _)).1
    rw [shIter]
    split
    · exact shIter_ok hg n _ h1
    · exact h1
theorem short_facts (g : Gr) (i : Int) : (shortF g i).length ≤ 1000 ∧ ∀ z ∈ shortF g i, 0 ≤ z ∧ z ≤ 1000 := by
  unfold shortF
  by_cases h : shortE g i = 0
  · rw [if_pos h]
    unfold shortE at h
    by_cases h1 : gramE g ≠ 0
    · rw [if_pos h1] at h; exact absurd h h1
    rw [if_neg h1] at h
    have hg := gram_ok (g := g) (by omega)
    by_cases h2 : i < 0 ∨ (g.length : Int) ≤ i
    · rw [if_pos h2] at h; cases h
    rw [if_neg h2] at h
    split at h
    · cases h
    · split at h
      · cases h
      · refine ⟨by omega, fun z hz => ?_⟩
        have ok : ShOk g.length (shFin g) := shIter_ok hg _ _ (shOk0 _)
        have := ok.let_ i.toNat (by omega) z hz
        omega
  · rw [if_neg h]; exact ⟨by simp, fun z hz => by cases hz⟩
theorem words_facts (g : Gr) (n : Int) : (wordsF g n).length ≤ 121 ∧ ∀ row ∈ wordsF g n, row.length ≤ 4 ∧ ∀ z ∈ row, 0 ≤ z ∧ z ≤ 1000 := by
  unfold wordsF
  by_cases h : wordsE g n = 0
  · rw [if_pos h]
    unfold wordsE at h
    by_cases h1 : gramE g ≠ 0
    · rw [if_pos h1] at h; exact absurd h h1
    rw [if_neg h1] at h
    by_cases h2 : n < 0 ∨ 4 < n
    · rw [if_pos h2] at h; cases h
    have n5 : n.toNat < 5 := by omega
    have m := mN_le _ n5
    have l := pk_len g (3 * mN n.toNat + 1)
    refine ⟨by rw [List.length_map]; omega, fun row hr => ?_⟩
    obtain ⟨k, hk, rfl⟩ := List.mem_map.1 hr
    obtain ⟨_, w1, w2⟩ := word_len _ n5 k (pk_lt hk)
    exact ⟨w1, fun z hz => by have := w2 z hz; omega⟩
  · rw [if_neg h]; exact ⟨by simp, fun row hr => by cases hr⟩
theorem fact_has : hasB [[[]]] [] = true ∧ hasE [[[]]] [] = 0 := by decide +kernel
theorem wf1000G {zs : List Int} (h : ∀ z ∈ zs, 0 ≤ z ∧ z ≤ 1000) : ∀ z ∈ zs, (Lit.int .i64 z).wf = true := fun z hz => WalkArith.wf_i64 (by have := h z hz; omega)
theorem Wds.rowsIn {B : Nat} {D : Nat → Prop} {v : Value} {w : World} {cs : List Value} {ll : List (List Int)} (h : Wds B D w cs ll) (ho : w.ownsRow B 29 1 v ll.length cs) (ok : ∀ row ∈ ll, row.length ≤ 4 ∧ ∀ z ∈ row, 0 ≤ z ∧ z ≤ 1000) : RowsIn (fun b => B ≤ b ∧ b < w.heap.size) w v ll :=
  rows_of_own ho rfl (fun i hi => by
    have hc : i < cs.length := by rw [h.len]; exact hi
    refine ⟨cs[i], List.getElem?_eq_getElem hc, ?_⟩
    obtain ⟨h1, _⟩ := h.at_ i cs[i] ll[i] (List.getElem?_eq_getElem hc) (List.getElem?_eq_getElem hi)
    have e : rowAt ll i = ll[i] := by unfold rowAt; rw [List.getD_eq_getElem?_getD, List.getElem?_eq_getElem hi]; rfl
    rw [e]
    exact (ints_blockC h1 (wf1000G (ok _ (List.getElem_mem hi)).2)).more fun b hb => ⟨own_ge h1 b hb, own_lt h1 b hb⟩) fun b h1 h2 => ⟨h1, h2⟩
end Go.Proofs.YtbnannlpebggjaaDoor
