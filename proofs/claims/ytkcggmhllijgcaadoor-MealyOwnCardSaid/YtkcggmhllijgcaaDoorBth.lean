/- What a round of mealy.Between knows of the heap: the two machines' boxes, the set of pairs, the queue, the words, all apart. No conditions. -/
import Derived.Test.YtkcggmhllijgcaaDoorBtm
import Derived.Test.YtkcggmhllijgcaaDoorQue
import Derived.Test.YtkcggmhllijgcaaDoorCla
namespace Go.Proofs.YtkcggmhllijgcaaDoor
open Go.RowKit Go.Deep Go.Maps Go.WideMaps
theorem arrK : ArrKey Tryd.prog 77 3 2 := ⟨Tryd.underlying77, by kernel_rfl, by kernel_rfl, by kernel_rfl⟩
theorem sizeK : ∃ m, Tryd.prog.types.size = m + 1 := ⟨Tryd.prog.types.size - 1, by kernel_rfl⟩
theorem lawK : Keyed Tryd.prog 77 := Keyed.of_law arrK.law
theorem infoBoth : (Tryd.prog.info? 81).map (fun i => (i.zero, i.size, i.bytes)) = some (some (.agg #[.int .i64 0, .int .i64 0, .slice none 0 0]), 3, 40) := by kernel_rfl
theorem zeroUnit (w : World) : (zeroValue 78).run Tryd.prog w = .ok (.agg #[]) w := by kernel_rfl
theorem cells_at (w : World) (cs : List Value) (t : TypeId) (g : Nat) (hg : g = w.heap.size) : ∀ (j : Nat) (u : Value), cs[j]? = some u → (w.alloc (.cells cs.toArray t)).cell? (({ block := g, off := 0 } : Addr).add j) = some u := by
  subst hg
  intro j u hj
  have e : ({ block := w.heap.size, off := 0 } : Addr).add j = ⟨w.heap.size, j, none⟩ := by rw [Addr.add_lit, Nat.zero_add]
  rw [e, Has.cell (Has.new w _) j]
  simpa using hj
theorem BInv.small {a b : MachD} {i k h x : Nat} {D : List Nd} (H : BInv a b i k D h x) (ga : Good a) (gb : Good b) (hab : ins a = ins b) (hi : i < a.out.length) (hk : k < b.out.length) : ∀ d ∈ D, d.p ≤ 6 ∧ d.q ≤ 6 := by
  intro d hd
  obtain ⟨k1, k2, k3, _⟩ := H.wrd d hd
  have h1 := goes_lt ga _ _ hi k1
  have h2 := goes_lt gb d.w k hk fun x hx => by have := k1 x hx; exact ⟨this.1, by rw [← hab]; exact this.2⟩
  have := ga.le; have := gb.le
  rw [k2] at h1; rw [k3] at h2
  omega
theorem wf_pair {p : Nat × Nat} (h : p.1 ≤ 6 ∧ p.2 ≤ 6) : (Lit.int .i64 p.1).wf = true ∧ (Lit.int .i64 p.2).wf = true := ⟨wf_small h.1, wf_small h.2⟩
/-- the cells of nodes with their words -/
def cellsOf (L : List (Nd × Value)) : List Value := L.flatMap fun x => [.int .i64 (x.1.p : Nat), .int .i64 (x.1.q : Nat), x.2]
theorem cellsOf_append (L L' : List (Nd × Value)) : cellsOf (L ++ L') = cellsOf L ++ cellsOf L' := by unfold cellsOf; rw [List.flatMap_append]
theorem cellsOf_len (L : List (Nd × Value)) : (cellsOf L).length = L.length * 3 := by
  induction L with
  | nil => rfl
  | cons x L ih => simp only [cellsOf, List.flatMap_cons, List.length_append, List.length_cons, List.length_nil] at *; omega
theorem cellsOf_drop (L : List (Nd × Value)) (h : Nat) (hl : h < L.length) : cellsOf (L.drop h) = [.int .i64 (L[h].1.p : Nat), .int .i64 (L[h].1.q : Nat), L[h].2] ++ cellsOf (L.drop (h + 1)) := by
  rw [List.drop_eq_getElem_cons hl]; rfl
def prs (L : List (Nd × Value)) : List (Nat × Nat) := L.map fun x => (x.1.p, x.1.q)
def QFree (B mb : Nat) (qv : Value) (w : World) (b : Nat) : Prop := B + 2 ≤ b ∧ b < w.heap.size ∧ qv.ownBlock ≠ some b ∧ b ≠ mb
structure BHeap (B : Nat) (ao an bo bn : Value) (mb : Nat) (M : List (Nat × Nat)) (L : List (Nd × Value)) (h : Nat) (qv : Value) (w : World) : Prop where
  boxA : w.heap[B]? = some (.cells #[ao, an] 24 (0, 0))
  boxB : w.heap[B + 1]? = some (.cells #[bo, bn] 24 (0, 0))
  map : SetP Tryd.prog 77 w mb M
  que : OwnQ w (B + 2) 81 3 qv (L.length - h) (cellsOf (L.drop h))
  wrd : ∀ x ∈ L, IntsIn .i64 (QFree B mb qv w) w x.2 x.1.w
  ne : qv.ownBlock ≠ some mb
  lo : B + 2 ≤ mb
theorem SetP.lt {P : Program} {k : TypeId} {w : World} {b : Nat} {M : List (Nat × Nat)} (h : SetP P k w b M) : b < w.heap.size := by
  obtain ⟨n, _, hm⟩ := h; exact hm.lt
theorem SetP.kept {P : Program} {k : TypeId} {w w' : World} {b : Nat} {M : List (Nat × Nat)} {row : Option Nat} (h : SetP P k w b M) (hg : w.grownBy w' row) (hne : some b ≠ row) : SetP P k w' b M := by
  obtain ⟨n, hn, hm⟩ := h; exact ⟨n, hn, hm.kept hg hne⟩
theorem SetP.below {P : Program} {k : TypeId} {w w' : World} {b : Nat} {M : List (Nat × Nat)} (h : SetP P k w b M) (hb : Below w.heap.size w w') : SetP P k w' b M := by
  have hl := h.lt
  obtain ⟨n, hn, es, clock, h1, h2⟩ := h
  exact ⟨n, hn, es, clock, (hb.block b hl).trans h1, h2⟩
theorem SetP.put {P : Program} {k : TypeId} {w : World} {b nm : Nat} {M : List (Nat × Nat)} {q : Nat × Nat} (hn : nm ≤ M.length) (h : w.ownsMap (H := Unit) P k unitElem b (nm + 1) ((setOf (.agg []) (M.map keyP)).put (keyP q) (.agg []))) : SetP P k w b (M ++ [q]) :=
  ⟨nm + 1, by simp; omega, by rw [List.map_append, List.map_cons, List.map_nil, setOf_snoc]; exact h⟩
section
variable {B mb : Nat} {ao an bo bn : Value} {M : List (Nat × Nat)} {L : List (Nd × Value)} {h : Nat} {qv : Value} {w w' : World}
theorem BHeap.below (H : BHeap B ao an bo bn mb M L h qv w) (hb : Below w.heap.size w w') : BHeap B ao an bo bn mb M L h qv w' := by
  have hs := hb.size
  refine ⟨Has.below H.boxA hb (Has.lt H.boxA), Has.below H.boxB hb (Has.lt H.boxB), H.map.below hb, H.que.below hb, fun x hx => ?_, H.ne, H.lo⟩
  refine ((H.wrd x hx).keep (Same.of_below hb fun b k => k.2.1)).more fun b k => ⟨k.1, by have := k.2.1; omega, k.2.2⟩
theorem BHeap.mapped (H : BHeap B ao an bo bn mb M L h qv w) {M' : List (Nat × Nat)} (hg : w.grownBy w' (some mb)) (hm : SetP Tryd.prog 77 w' mb M') : BHeap B ao an bo bn mb M' L h qv w' := by
  have hlo := H.lo
  have hs := hg.size
  refine ⟨Has.grown H.boxA hg (by simp; omega), Has.grown H.boxB hg (by simp; omega), hm, H.que.keep fun k hk => hg.block k (H.que.lt k hk).2 (fun e => H.ne (by injection e with e; rw [hk, e])), fun x hx => ?_, H.ne, H.lo⟩
  exact ((H.wrd x hx).keep fun b k => hg.block b k.2.1 (fun e => k.2.2.2 (by injection e))).more fun b k => ⟨k.1, by have := k.2.1; omega, k.2.2⟩
theorem QFree.push {qv' : Value} {b : Nat} (k : QFree B mb qv w b) (hs : w.heap.size ≤ w'.heap.size) (hat : qv'.ownBlock = qv.ownBlock ∨ qv'.ownBlock = some w.heap.size) : QFree B mb qv' w' b := by
  refine ⟨k.1, by have := k.2.1; omega, fun e => ?_, k.2.2.2⟩
  rcases hat with h | h
  · exact k.2.2.1 (h ▸ e)
  · rw [h] at e; injection e with e; have := k.2.1; omega
theorem BHeap.push (H : BHeap B ao an bo bn mb M L h qv w) (hl : h ≤ L.length) {qv' : Value} {d : Nd} {r : Value} (hown : OwnQ w' (B + 2) 81 3 qv' (L.length - h + 1) (cellsOf (L.drop h) ++ [.int .i64 (d.p : Nat), .int .i64 (d.q : Nat), r])) (hg : w.grownBy w' qv.ownBlock) (hat : qv'.ownBlock = qv.ownBlock ∨ qv'.ownBlock = some w.heap.size) (hw : IntsIn .i64 (QFree B mb qv w) w r d.w) :
    BHeap B ao an bo bn mb M (L ++ [(d, r)]) h qv' w' := by
  have hs := hg.size
  have hq := H.que.lt
  have hml := H.map.lt
  have e1 : cellsOf ((L ++ [(d, r)]).drop h) = cellsOf (L.drop h) ++ [.int .i64 (d.p : Nat), .int .i64 (d.q : Nat), r] := by
    rw [List.drop_append_of_le_length hl, cellsOf_append]; rfl
  have e2 : (L ++ [(d, r)]).length - h = L.length - h + 1 := by simp; omega
  have one : ∀ (u : Value) (z : List Int), IntsIn .i64 (QFree B mb qv w) w u z → IntsIn .i64 (QFree B mb qv' w') w' u z := fun u z hu =>
    (hu.keep fun b k => hg.block b k.2.1 (fun e => k.2.2.1 e.symm)).more fun b k => k.push hs hat
  refine ⟨Has.grown H.boxA hg (fun e => by have := (hq _ e.symm).1; omega), Has.grown H.boxB hg (fun e => by have := (hq _ e.symm).1; omega), H.map.kept hg (fun e => H.ne e.symm), by rw [e1, e2]; exact hown, fun x hx => ?_, fun e => ?_, H.lo⟩
  · rcases List.mem_append.1 hx with hx | hx
    · exact one _ _ (H.wrd x hx)
    · simp at hx; subst hx; exact one _ _ hw
  · rcases hat with k | k
    · exact H.ne (k ▸ e)
    · rw [k] at e; injection e with e; omega
/-- the head is cut off -/
theorem BHeap.pop (H : BHeap B ao an bo bn mb M L h qv w) (hl : h < L.length) : ∃ g off cap, qv = .slice (some ⟨g, off, none⟩) (L.length - h) (cap + 1) ∧ BHeap B ao an bo bn mb M L (h + 1) (.slice (if cap + 1 = 1 then some ⟨g, off, none⟩ else some ⟨g, off + 3, none⟩) (L.length - h - 1) cap) w := by
  obtain ⟨n, hn⟩ : ∃ n, L.length - h = n + 1 := ⟨L.length - h - 1, by omega⟩
  have hq := H.que
  rw [hn] at hq
  obtain ⟨g, off, cap, rfl, _, _, ht⟩ := hq.tail
  have eo : (Value.slice (if cap + 1 = 1 then some ⟨g, off, none⟩ else some ⟨g, off + 3, none⟩) (L.length - h - 1) cap).ownBlock = (Value.slice (some ⟨g, off, none⟩) (n + 1) (cap + 1)).ownBlock := by split <;> rfl
  refine ⟨g, off, cap, by rw [hn], H.boxA, H.boxB, H.map, ?_, fun x hx => (H.wrd x hx).more fun b k => ⟨k.1, k.2.1, by rw [eo]; exact k.2.2.1, k.2.2.2⟩, by rw [eo]; exact H.ne, H.lo⟩
  rw [cellsOf_drop L h hl] at ht
  rw [show L.length - (h + 1) = n by omega, show L.length - h - 1 = n by omega]
  simpa using ht
/-- the head's cells -/
theorem BHeap.head (H : BHeap B ao an bo bn mb M L h qv w) (hl : h < L.length) : ∃ g off cap, qv = .slice (some ⟨g, off, none⟩) (L.length - h) cap ∧ L.length - h ≤ cap ∧ cap ≤ maxLen ∧ g < w.heap.size ∧
    w.cell? ⟨g, off, none⟩ = some (.int .i64 (L[h].1.p : Nat)) ∧ w.cell? ⟨g, off + 1, none⟩ = some (.int .i64 (L[h].1.q : Nat)) ∧ w.cell? ⟨g, off + 2, none⟩ = some L[h].2 := by
  obtain ⟨g, off, cap, rfl, _, hg, h1, h2, hc⟩ := H.que.cell
  rw [cellsOf_drop L h hl] at hc
  refine ⟨g, off, cap, rfl, h1, h2, hg, ?_, ?_, ?_⟩
  · simpa using hc 0 (by omega)
  · simpa using hc 1 (by omega)
  · simpa using hc 2 (by omega)
end
end Go.Proofs.YtkcggmhllijgcaaDoor
