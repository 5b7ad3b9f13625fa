/- The base of this claim, many small texts as one: rows, lists, expressions, generators and values as plain trees and in memory. No conditions but their own. -/
import Derived.WalkKit
import Derived.WalkSpells
import Derived.Below
import Derived.ProofKit
import Derived.Laws.OwnMore
import Derived.Deep.Draws
import Derived.Deep.Matrix
import Derived.Lib.SmallJoins
import Derived.Maps.AppendAt
import Derived.Deep.AppendLies
import Derived.RegionTactic
import Derived.OwnWalk
import Derived.Test.YtopehfmppfibhaaDoorRows
import Derived.WalkLawsBesides
import Derived.Deep.QuietTactic
import Derived.BigQuiet
import Derived.Deep.CutRange
import Derived.Deep.DeepCutAuto
import Derived.LoopTactic
import Derived.Shelf.Small.Wraps
import Derived.Ground.Names2Prog
import Derived.Shelf.Slices.SearchI
import Derived.Shelf.Slices.Delete
import Derived.Shelf.Slices.Cells
import Derived.IntWalk
import Derived.Lib.AppendZeros
import Derived.Lib.SliceRun
namespace Go.Proofs.YtopehfmppfibhaaDoor
open Go.RowKit Go.ChangeShapes
theorem hid {p : Prop} (h : p) : Hid p := h
theorem below_drewN {B : Nat} {a w : World} (h : Below B a w) (n : Nat) : Below B a (w.drewN n) := ⟨h.os, h.tape, h.output, h.size, h.block⟩
theorem bcell {W w1 : World} (hb : Below W.heap.size W w1) : (∀ b o, b < W.heap.size → w1.cell? ⟨b, o, none⟩ = W.cell? ⟨b, o, none⟩) ∧ (∀ b o, b < W.heap.size → w1.frozen? ⟨b, o, none⟩ = W.frozen? ⟨b, o, none⟩) :=
  ⟨fun b o h => hb.cell (p := ⟨b, o, none⟩) h, fun b o h => hb.frozen (p := ⟨b, o, none⟩) h⟩
section
variable {w w' : World} {g : Nat} {t : TypeId} {cs : Array Value} {o : Obj}
theorem Has.cell (h : w.heap[g]? = some (.cells cs t (0, 0))) (i : Nat) : w.cell? ⟨g, i, none⟩ = cs[i]? := cell_of_row w g i cs t (0, 0) h
theorem Has.froz (h : w.heap[g]? = some (.cells cs t (0, 0))) (i : Nat) : w.frozen? ⟨g, i, none⟩ = false := by simp [World.frozen?, h]
theorem Has.lt (h : w.heap[g]? = some o) : g < w.heap.size := by
  rcases Nat.lt_or_ge g w.heap.size with hlt | hge
  · exact hlt
  · rw [Array.getElem?_eq_none hge] at h; cases h
theorem Has.new (w : World) (o : Obj) : (w.alloc o).heap[w.heap.size]? = some o := heap_alloc_new w _
theorem Has.newAt {g : Nat} (w : World) (o : Obj) (h : g = w.heap.size) : (w.alloc o).heap[g]? = some o := by subst h; exact heap_alloc_new w _
theorem Has.alloc (h : w.heap[g]? = some o) (o' : Obj) : (w.alloc o').heap[g]? = some o := (Below.heap_alloc w o' g (Has.lt h)).trans h
theorem Has.set (h : w.heap[g]? = some (.cells cs t (0, 0))) (i : Nat) (u : Value) : (w.setCell ⟨g, i, none⟩ u).heap[g]? = some (.cells (cs.setIfInBounds i u) t (0, 0)) := by
  simp [World.setCell, Array.getElem?_modify, h]
theorem Has.far (h : w.heap[g]? = some o) {p : Addr} (hp : g ≠ p.block) (u : Value) : (w.setCell p u).heap[g]? = some o := (Below.heap_setCell w p u g hp).trans h
theorem Has.below {B : Nat} (h : w.heap[g]? = some o) (hb : Below B w w') (hg : g < B) : w'.heap[g]? = some o := (hb.block g hg).trans h
theorem Has.grown {row : Option Nat} (h : w.heap[g]? = some o) (hg : w.grownBy w' row) (hr : some g ≠ row) : w'.heap[g]? = some o := (hg.block g (Has.lt h) hr).trans h
theorem cell_lt {p : Addr} {v : Value} (h : w.cell? p = some v) : p.block < w.heap.size := by
  rcases Nat.lt_or_ge p.block w.heap.size with hlt | hge
  · exact hlt
  · simp [World.cell?, Array.getElem?_eq_none hge] at h
end
/-- blocks of F hold in w' what they hold in w -/
def Same (F : Nat → Prop) (w w' : World) : Prop := ∀ b, F b → w'.heap[b]? = w.heap[b]?
theorem Same.refl (F : Nat → Prop) (w : World) : Same F w w := fun _ _ => rfl
theorem Same.trans {F : Nat → Prop} {a b c : World} (h : Same F a b) (k : Same F b c) : Same F a c := fun n hn => (k n hn).trans (h n hn)
theorem Same.of_below {F : Nat → Prop} {B : Nat} {w w' : World} (h : Below B w w') (hF : ∀ b, F b → b < B) : Same F w w' := fun b hb => h.block b (hF b hb)
theorem Same.cell {F : Nat → Prop} {w w' : World} (h : Same F w w') {p : Addr} (hp : F p.block) : w'.cell? p = w.cell? p := World.cell?_of_block (w := w) (h p.block hp)
/-- a slice of integers, nil let in, that reads as a list, in blocks of F -/
def IntsIn (k : IntKind) (F : Nat → Prop) (w : World) (v : Value) (zs : List Int) : Prop :=
  ∃ A c, v = .slice A zs.length c ∧ (zs.length ≤ c ∧ c ≤ maxLen) ∧ (∀ z ∈ zs, (Lit.int k z).wf = true) ∧
    (0 < zs.length → ∃ b off, A = some ⟨b, off, none⟩ ∧ F b ∧ ∀ i, i < zs.length → w.cell? ⟨b, off + i, none⟩ = some (.int k (zs.getD i 0)))
section
variable {k : IntKind} {F F' : Nat → Prop} {w w' : World} {v : Value} {zs : List Int}
theorem IntsIn.nil_ : IntsIn k F w (.slice none 0 0) [] := ⟨none, 0, rfl, by simp, by simp, by simp⟩
theorem IntsIn.keep (h : IntsIn k F w v zs) (hs : Same F w w') : IntsIn k F w' v zs := by
  obtain ⟨A, c, rfl, h1, h2, h3⟩ := h
  refine ⟨A, c, rfl, h1, h2, fun hn => ?_⟩
  obtain ⟨b, off, rfl, hF, hc⟩ := h3 hn
  exact ⟨b, off, rfl, hF, fun i hi => (hs.cell (p := ⟨b, off + i, none⟩) hF).trans (hc i hi)⟩
theorem IntsIn.more (h : IntsIn k F w v zs) (hF : ∀ b, F b → F' b) : IntsIn k F' w v zs := by
  obtain ⟨A, c, rfl, h1, h2, h3⟩ := h
  refine ⟨A, c, rfl, h1, h2, fun hn => ?_⟩
  obtain ⟨b, off, rfl, hFb, hc⟩ := h3 hn
  exact ⟨b, off, rfl, hF _ hFb, hc⟩
end
theorem ints_of_trod {P : Program} {H : Type} {enc : TypeId × Value → H} {W : World} {t e : TypeId} {k : IntKind} {A : Option Addr} {n c : Nat} {d : DataW H} {p : List MemPlace} (ht : P.underlying t = some (.slice e)) (he : P.underlying e = some (.int k)) (hc : P.cellsOf e = 1)
    (h : DataW.Trod enc P W 0 (fun _ => true) true t (.slice A n c) d p) : ∃ zs, IntsIn k (fun b => b < W.heap.size) W (.slice A n c) zs := by
  obtain ⟨fuel, hf⟩ := h
  rcases open_ints ht he hc hf with ⟨hcs, _⟩ | ⟨x, l, cp, zs, hcs, _, hl, hm, hz, _, hcell, hwz⟩
  · simp [Value.cells] at hcs
    obtain ⟨rfl, rfl, rfl⟩ := hcs
    exact ⟨[], IntsIn.nil_⟩
  · simp [Value.cells] at hcs
    obtain ⟨rfl, rfl, rfl⟩ := hcs
    simp at hz
    have hlen : (zs.take n).length = n := by rw [List.length_take]; omega
    refine ⟨zs.take n, some x, c, by rw [hlen], by rw [hlen]; omega, fun z hzm => hwz z (List.mem_of_mem_take hzm), fun hn => ?_⟩
    rw [hlen] at hn
    obtain ⟨b, off, spot⟩ := x
    have h0 := hcell 0 (by omega)
    have hspot : spot = none := by simpa [Addr.add] using World.cell?_spot h0
    subst hspot
    refine ⟨b, off, rfl, by simpa [Addr.add] using cell_lt h0, fun i hi => ?_⟩
    rw [hlen] at hi
    have := hcell i (by omega)
    rw [List.getD_eq_getElem?_getD, List.getElem?_take_of_lt hi, ← List.getD_eq_getElem?_getD]
    by_cases hi0 : i = 0
    · subst hi0; simpa [Addr.add] using this
    · simpa [Addr.add, hi0] using this
theorem own_ge {w : World} {base : Nat} {e : TypeId} {size n : Nat} {v : Value} {xs : List Value} (h : w.ownsRow base e size v n xs) : ∀ k, v.ownBlock = some k → base ≤ k := by
  intro k hk
  rcases h.2 with ⟨rfl, _⟩ | ⟨g, cap, cur, rfl, hb, _⟩
  · simp [Value.ownBlock] at hk
  · simp [Value.ownBlock] at hk; omega
theorem own_open {w : World} {base : Nat} {e : TypeId} {size n : Nat} {v : Value} {xs : List Value} (h : w.ownsRow base e size v n xs) (hn : 0 < n) :
    ∃ g cap, v = .slice (some ⟨g, 0, none⟩) n cap ∧ base ≤ g ∧ g < w.heap.size ∧ n ≤ cap ∧ cap ≤ maxLen ∧ ∀ j, j < n * size → w.cell? ⟨g, j, none⟩ = xs[j]? := by
  rcases h.2 with ⟨rfl, h0⟩ | ⟨g, cap, cur, rfl, hb, hh, hc1, hc2, _⟩
  · omega
  · exact ⟨g, cap, rfl, hb, Has.lt hh, hc1, hc2, fun j hj => h.cellAt j hj⟩
theorem own_lt {w : World} {base : Nat} {e : TypeId} {size n : Nat} {v : Value} {xs : List Value} (h : w.ownsRow base e size v n xs) : ∀ k, v.ownBlock = some k → k < w.heap.size := by
  intro k hk
  rcases h.2 with ⟨rfl, h0⟩ | ⟨g, cap, cur, rfl, hb, hh, hc1, hc2, _⟩
  · simp [Value.ownBlock] at hk
  · simp [Value.ownBlock] at hk; subst hk; exact Has.lt hh
theorem own_keep {w w' : World} {base : Nat} {e : TypeId} {size n : Nat} {v : Value} {xs : List Value} (h : w.ownsRow base e size v n xs) (hs : ∀ k, v.ownBlock = some k → w'.heap[k]? = w.heap[k]?) : w'.ownsRow base e size v n xs := by
  refine ⟨h.1, ?_⟩
  rcases h.2 with ⟨rfl, h0⟩ | ⟨g, cap, cur, rfl, hb, hh, hc⟩
  · exact .inl ⟨rfl, h0⟩
  · exact .inr ⟨g, cap, cur, rfl, hb, (hs g rfl).trans hh, hc⟩
theorem own_below {w w' : World} {base : Nat} {e : TypeId} {size n : Nat} {v : Value} {xs : List Value} (h : w.ownsRow base e size v n xs) (hb : Below w.heap.size w w') : w'.ownsRow base e size v n xs :=
  own_keep h fun k hk => hb.block k (own_lt h k hk)
/-- what the call owns, read as a list of integers -/
theorem ints_of_own {k : IntKind} {w : World} {base n : Nat} {e : TypeId} {v : Value} {zs : List Int} (h : w.ownsRow base e 1 v n (zs.map (Value.int k))) (hw : ∀ z ∈ zs, (Lit.int k z).wf = true) : IntsIn k (fun b => base ≤ b ∧ b < w.heap.size) w v zs := by
  have hl : zs.length = n := by have := h.1; simpa using this
  subst hl
  by_cases hn : 0 < zs.length
  · obtain ⟨g, cap, rfl, hb, hlt, hc1, hc2, hc⟩ := own_open h hn
    refine ⟨_, cap, rfl, by omega, hw, fun _ => ⟨g, 0, rfl, ⟨hb, hlt⟩, fun i hi => ?_⟩⟩
    rw [Nat.zero_add, hc i (by omega)]
    simp [List.getD_eq_getElem?_getD, List.getElem?_eq_getElem hi]
  · rcases h.2 with ⟨rfl, h0⟩ | ⟨g, cap, cur, rfl, hb, hh, hc1, hc2, _⟩
    · exact ⟨none, 0, by simp; omega, by unfold maxLen; omega, hw, fun h => absurd h hn⟩
    · exact ⟨_, cap, rfl, by omega, hw, fun h => absurd h hn⟩
theorem one_at (w : World) (x : Value) (t : TypeId) : ∀ (j : Nat) (u : Value), [x][j]? = some u → (w.alloc (.cells #[x] t)).cell? (({ block := w.heap.size, off := 0 } : Addr).add j) = some u := by
  intro j u hj
  match j, hj with
  | 0, hj => simp at hj; subst hj; simp [Addr.add]
theorem one_int (k : IntKind) (x : Int) : ∀ u ∈ [Value.int k x], u.oneCell' = true := by
  intro u hu; simp at hu; subst hu; rfl
end Go.Proofs.YtopehfmppfibhaaDoor
namespace Go.Proofs.YtopehfmppfibhaaDoor
structure MachD where
  out : List (List Int)
  next : List (List Int)
def rowAt (l : List (List Int)) (i : Nat) : List Int := l.getD i []
def at0 (l : List Int) (i : Nat) : Int := l.getD i 0
def entryBad (n : Nat) (j : Int) : Bool := decide (j < 0) || decide ((n : Int) ≤ j)
def rowBad (m : MachD) (i : Nat) : Option Int :=
  if (rowAt m.out 0).length < 1 ∨ 3 < (rowAt m.out 0).length ∨ (rowAt m.out i).length ≠ (rowAt m.out 0).length ∨ (rowAt m.next i).length ≠ (rowAt m.out 0).length then some 3
  else if (rowAt m.next i).any (entryBad m.out.length) then some 1 else none
def chk (m : MachD) : Int :=
  if m.out.length < 1 ∨ 6 < m.out.length then 1
  else if m.next.length ≠ m.out.length then 3
  else ((List.range m.out.length).findSome? (rowBad m)).getD 0
theorem find_first {α : Type} (f : Nat → Option α) (n i : Nat) (c : α) (hi : i < n) (h : ∀ j, j < i → f j = none) (hc : f i = some c) : (List.range n).findSome? f = some c := by
  have e : List.range n = List.range i ++ (List.range' i (n - i)) := by
    have := List.range'_append (s := 0) (m := i) (n := n - i) (step := 1)
    simp only [Nat.zero_add, Nat.one_mul] at this
    rw [List.range_eq_range', List.range_eq_range', this, show i + (n - i) = n from by omega]
  rw [e, List.findSome?_append]
  have h1 : (List.range i).findSome? f = none := by
    rw [List.findSome?_eq_none_iff]; intro x hx; exact h x (by simpa using hx)
  rw [h1, show n - i = (n - i - 1) + 1 from by omega, List.range'_succ, List.findSome?_cons, hc]
  rfl
theorem find_none {α : Type} (f : Nat → Option α) (n : Nat) (h : ∀ j, j < n → f j = none) : (List.range n).findSome? f = none := by
  rw [List.findSome?_eq_none_iff]; intro x hx; exact h x (by simpa using hx)
def ins (m : MachD) : Nat := (rowAt m.out 0).length
/-- a right machine -/
structure Good (m : MachD) : Prop where
  pos : 1 ≤ m.out.length
  le : m.out.length ≤ 6
  next : m.next.length = m.out.length
  ins1 : 1 ≤ ins m
  ins3 : ins m ≤ 3
  rowO : ∀ i, i < m.out.length → (rowAt m.out i).length = ins m
  rowN : ∀ i, i < m.out.length → (rowAt m.next i).length = ins m
  goes : ∀ i, i < m.out.length → ∀ x, x < ins m → 0 ≤ at0 (rowAt m.next i) x ∧ at0 (rowAt m.next i) x < m.out.length
theorem chk_good {m : MachD} (h : chk m = 0) : Good m := by
  unfold chk at h
  split at h
  · simp at h
  · rename_i h1
    split at h
    · simp at h
    · rename_i h2
      have hn : (List.range m.out.length).findSome? (rowBad m) = none := by
        cases hf : (List.range m.out.length).findSome? (rowBad m) with
        | none => rfl
        | some c =>
          rw [hf] at h
          obtain ⟨i, _, hi⟩ := List.exists_of_findSome?_eq_some hf
          unfold rowBad at hi
          simp at h
          split at hi
          · simp at hi; omega
          · split at hi
            · simp at hi; omega
            · simp at hi
      rw [List.findSome?_eq_none_iff] at hn
      have hr : ∀ i, i < m.out.length → rowBad m i = none := fun i hi => hn i (by simpa using hi)
      have h0 := hr 0 (by omega)
      have key : ∀ i, i < m.out.length → (1 ≤ ins m ∧ ins m ≤ 3 ∧ (rowAt m.out i).length = ins m ∧ (rowAt m.next i).length = ins m) ∧ (rowAt m.next i).any (entryBad m.out.length) = false := by
        intro i hi
        have := hr i hi
        unfold rowBad at this
        split at this
        · simp at this
        · rename_i hh
          split at this
          · simp at this
          · rename_i hb
            refine ⟨⟨?_, ?_, ?_, ?_⟩, by simpa using hb⟩ <;> unfold ins <;> omega
      refine ⟨by omega, by omega, by omega, (key 0 (by omega)).1.1, (key 0 (by omega)).1.2.1, fun i hi => (key i hi).1.2.2.1, fun i hi => (key i hi).1.2.2.2, fun i hi x hx => ?_⟩
      have hb := (key i hi).2
      have hl := (key i hi).1.2.2.2
      rw [List.any_eq_false] at hb
      have hmem : at0 (rowAt m.next i) x ∈ rowAt m.next i := by
        unfold at0
        rw [List.getD_eq_getElem?_getD, List.getElem?_eq_getElem (by omega)]
        exact List.getElem_mem _
      have := hb _ hmem
      simp [entryBad] at this
      omega
theorem good_chk {m : MachD} (h : Good m) : chk m = 0 := by
  unfold chk
  have := h.pos; have := h.le; have := h.next
  rw [if_neg (by omega), if_neg (by omega), find_none]
  · rfl
  · intro i hi
    unfold rowBad
    have h1 := h.ins1; have h3 := h.ins3; have ho := h.rowO i hi; have hn := h.rowN i hi
    unfold ins at h1 h3 ho hn
    rw [if_neg (by omega), if_neg]
    rw [Bool.not_eq_true, List.any_eq_false]
    intro j hj
    obtain ⟨x, hx, rfl⟩ := List.getElem_of_mem hj
    have hg := h.goes i hi x (by unfold ins; omega)
    have e : at0 (rowAt m.next i) x = (rowAt m.next i)[x] := by
      unfold at0; rw [List.getD_eq_getElem?_getD, List.getElem?_eq_getElem hx]; rfl
    rw [e] at hg
    simp [entryBad]; omega
theorem good_iff (m : MachD) : Good m ↔ chk m = 0 := ⟨good_chk, chk_good⟩
def outAt (m : MachD) (s : Nat) (x : Int) : Int := at0 (rowAt m.out s) x.toNat
def nextAt (m : MachD) (s : Nat) (x : Int) : Nat := (at0 (rowAt m.next s) x.toNat).toNat
def tells (m : MachD) : Nat → List Int → List Int
  | _, [] => []
  | s, x :: w => outAt m s x :: tells m (nextAt m s x) w
def goes (m : MachD) : Nat → List Int → Nat
  | s, [] => s
  | s, x :: w => goes m (nextAt m s x) w
theorem tells_append (m : MachD) : ∀ (v : List Int) (s : Nat) (w : List Int), tells m s (v ++ w) = tells m s v ++ tells m (goes m s v) w
  | [], _, _ => rfl
  | x :: v, s, w => by simp [tells, goes, tells_append m v]
theorem goes_append (m : MachD) : ∀ (v : List Int) (s : Nat) (w : List Int), goes m s (v ++ w) = goes m (goes m s v) w
  | [], _, _ => rfl
  | x :: v, s, w => by simp [goes, goes_append m v]
theorem tells_length (m : MachD) : ∀ (w : List Int) (s : Nat), (tells m s w).length = w.length
  | [], _ => rfl
  | x :: w, s => by simp [tells, tells_length m w]
/-- a letter is one of the machine's -/
def letter (m : MachD) (x : Int) : Prop := 0 ≤ x ∧ x < ins m
def word (m : MachD) (w : List Int) : Prop := ∀ x ∈ w, letter m x
theorem nextAt_lt {m : MachD} (h : Good m) {s : Nat} (hs : s < m.out.length) {x : Int} (hx : letter m x) : nextAt m s x < m.out.length := by
  have := h.goes s hs x.toNat (by have := hx.1; have := hx.2; omega)
  unfold nextAt; omega
theorem nextAt_eq {m : MachD} (h : Good m) {s : Nat} (hs : s < m.out.length) {x : Int} (hx : letter m x) : at0 (rowAt m.next s) x.toNat = (nextAt m s x : Nat) := by
  have := h.goes s hs x.toNat (by have := hx.1; have := hx.2; omega)
  unfold nextAt; omega
theorem goes_lt {m : MachD} (h : Good m) : ∀ (w : List Int) (s : Nat), s < m.out.length → word m w → goes m s w < m.out.length
  | [], _, hs, _ => hs
  | x :: w, s, hs, hw => goes_lt h w _ (nextAt_lt h hs (hw x (by simp))) (fun y hy => hw y (by simp [hy]))
end Go.Proofs.YtopehfmppfibhaaDoor
namespace Go.Proofs.YtopehfmppfibhaaDoor
open Go.RowKit Go.ChangeShapes Go.Deep Go.Joins
def RowsIn (F : Nat → Prop) (w : World) (v : Value) (ll : List (List Int)) : Prop :=
  ∃ A c, v = .slice A ll.length c ∧ (ll.length ≤ c ∧ c ≤ maxLen) ∧
    (0 < ll.length → ∃ b off, A = some ⟨b, off, none⟩ ∧ F b ∧ ∀ i, i < ll.length → ∃ r, w.cell? ⟨b, off + i, none⟩ = some r ∧ IntsIn .i64 F w r (rowAt ll i))
def MachIn (F : Nat → Prop) (w : World) (v : Value) (m : MachD) : Prop := ∃ o n, v = .agg #[o, n] ∧ RowsIn F w o m.out ∧ RowsIn F w n m.next
section
variable {F F' : Nat → Prop} {w w' : World} {v : Value} {ll : List (List Int)}
theorem RowsIn.nil_ : RowsIn F w (.slice none 0 0) [] := ⟨none, 0, rfl, by simp, by simp⟩
theorem RowsIn.keep (h : RowsIn F w v ll) (hs : Same F w w') : RowsIn F w' v ll := by
  obtain ⟨A, c, rfl, h1, h3⟩ := h
  refine ⟨A, c, rfl, h1, fun hn => ?_⟩
  obtain ⟨b, off, rfl, hF, hc⟩ := h3 hn
  refine ⟨b, off, rfl, hF, fun i hi => ?_⟩
  obtain ⟨r, hr, hi⟩ := hc i hi
  exact ⟨r, (hs.cell (p := ⟨b, off + i, none⟩) hF).trans hr, hi.keep hs⟩
theorem RowsIn.more (h : RowsIn F w v ll) (hF : ∀ b, F b → F' b) : RowsIn F' w v ll := by
  obtain ⟨A, c, rfl, h1, h3⟩ := h
  refine ⟨A, c, rfl, h1, fun hn => ?_⟩
  obtain ⟨b, off, rfl, hFb, hc⟩ := h3 hn
  refine ⟨b, off, rfl, hF _ hFb, fun i hi => ?_⟩
  obtain ⟨r, hr, hi⟩ := hc i hi
  exact ⟨r, hr, hi.more hF⟩
theorem MachIn.keep {m : MachD} (h : MachIn F w v m) (hs : Same F w w') : MachIn F w' v m := by
  obtain ⟨o, n, rfl, h1, h2⟩ := h
  exact ⟨o, n, rfl, h1.keep hs, h2.keep hs⟩
theorem MachIn.more {m : MachD} (h : MachIn F w v m) (hF : ∀ b, F b → F' b) : MachIn F' w v m := by
  obtain ⟨o, n, rfl, h1, h2⟩ := h
  exact ⟨o, n, rfl, h1.more hF, h2.more hF⟩
end
theorem ints_of_row {w : World} {k : IntKind} {Z : List Int} {A : Option Addr} {L C : Nat} (hL : L ≤ C) (hC : C ≤ maxLen) (hZ : Z.length = C) (hw : ∀ n ∈ Z, (Lit.int k n).wf = true) (hn : A = none → C = 0)
    (hc : ∀ a', A = some a' → ∀ c, c < C → w.cell? (a'.add c) = some (.int k (Z.getD c 0))) : IntsIn k (fun b => b < w.heap.size) w (.slice A L C) (Z.take L) := by
  have hlen : (Z.take L).length = L := by rw [List.length_take]; omega
  refine ⟨A, C, by rw [hlen], by rw [hlen]; omega, fun z hzm => hw z (List.mem_of_mem_take hzm), fun hn' => ?_⟩
  rw [hlen] at hn'
  cases A with
  | none => have := hn rfl; omega
  | some x =>
    obtain ⟨b, off, spot⟩ := x
    have h0 := hc _ rfl 0 (by omega)
    have hspot : spot = none := by simpa [Addr.add] using World.cell?_spot h0
    subst hspot
    refine ⟨b, off, rfl, by simpa [Addr.add] using cell_lt h0, fun i hi => ?_⟩
    rw [hlen] at hi
    have := hc _ rfl i (by omega)
    rw [List.getD_eq_getElem?_getD, List.getElem?_take_of_lt hi, ← List.getD_eq_getElem?_getD]
    by_cases hi0 : i = 0
    · subst hi0; simpa [Addr.add] using this
    · simpa [Addr.add, hi0] using this
theorem rows_of_trod {P : Program} {H : Type} {enc : TypeId × Value → H} {W : World} {t e q : TypeId} {fuel : Nat} {v : Value} {x : DataW H × List MemPlace} (ht : P.underlying t = some (.slice e)) (he : P.underlying e = some (.slice q)) (hq : P.underlying q = some (.int .i64)) (ce : P.cellsOf e = 1) (cq : P.cellsOf q = 1)
    (h : DataW.trod enc P W 0 (fun _ => true) true fuel t [v] = some x) : ∃ ll, RowsIn (fun b => b < W.heap.size) W v ll := by
  rcases open_int_rows ht he hq ce cq h with ⟨hcs, _⟩ | ⟨a, len, cap, A, L, C, Z, hcs, _, hl, hm, _, hx⟩
  · simp at hcs; subst hcs; exact ⟨[], RowsIn.nil_⟩
  · simp at hcs; subst hcs
    have hlen : ((List.range len).map fun r => (Z r).take (L r)).length = len := by simp
    refine ⟨(List.range len).map fun r => (Z r).take (L r), some a, cap, by rw [hlen], by rw [hlen]; omega, fun hn => ?_⟩
    rw [hlen] at hn
    obtain ⟨b, off, spot⟩ := a
    have h0 := (hx 0 (by omega)).1
    have hspot : spot = none := by simpa [Addr.add] using World.cell?_spot h0
    subst hspot
    refine ⟨b, off, rfl, by simpa [Addr.add] using cell_lt h0, fun i hi => ?_⟩
    rw [hlen] at hi
    obtain ⟨h1, h2, h3, h4, h5, h6, h7⟩ := hx i (by omega)
    refine ⟨.slice (A i) (L i) (C i), ?_, ?_⟩
    rotate_left
    · have e1 : rowAt ((List.range len).map fun r => (Z r).take (L r)) i = (Z i).take (L i) := by
        unfold rowAt; rw [List.getD_eq_getElem?_getD]; simp [hi]
      rw [e1]
      exact ints_of_row h2 h3 h4 h5 h6 (fun a' ha' c hc => (h7 a' ha').2 c hc)
    · by_cases hi0 : i = 0
      · subst hi0; simpa [Addr.add] using h1
      · simpa [Addr.add, hi0] using h1
theorem rows_of_Trod {P : Program} {H : Type} {enc : TypeId × Value → H} {W : World} {t e q : TypeId} {v : Value} {d : DataW H} {p : List MemPlace} (ht : P.underlying t = some (.slice e)) (he : P.underlying e = some (.slice q)) (hq : P.underlying q = some (.int .i64)) (ce : P.cellsOf e = 1) (cq : P.cellsOf q = 1)
    (hv : ∃ A n c, v = .slice A n c) (h : DataW.Trod enc P W 0 (fun _ => true) true t v d p) : ∃ ll, RowsIn (fun b => b < W.heap.size) W v ll := by
  obtain ⟨A, n, c, rfl⟩ := hv
  obtain ⟨fuel, hf⟩ := h
  simp only [Value.cells] at hf
  exact rows_of_trod ht he hq ce cq hf
theorem mach_of_Trod {P : Program} {H : Type} {enc : TypeId × Value → H} {W : World} {r : Reach} {b0 : Nat} {t e q z : TypeId} {f0 f1 : Field} {v : Value} {d : DataW H} {p : List MemPlace} (hs : P.underlying z = some (.struct #[f0, f1])) (hone : oneCellFields P #[f0, f1] = true) (hC : P.cellsOf z = 2) (hf0 : f0.type = t) (hf1 : f1.type = t)
    (ht : P.underlying t = some (.slice e)) (he : P.underlying e = some (.slice q)) (hq : P.underlying q = some (.int .i64)) (ce : P.cellsOf e = 1) (cq : P.cellsOf q = 1)
    (hv : Value.okWide P W r b0 z v) (h : DataW.Trod enc P W 0 (fun _ => true) true z v d p) : ∃ m, MachIn (fun b => b < W.heap.size) W v m := by
  obtain ⟨v0, v1, y0, y1, n, rfl, _, _, h0, h1⟩ := open_agg2 hs hone hC hv h
  rw [hf0] at h0
  rw [hf1] at h1
  obtain ⟨l0, r0⟩ := rows_of_trod ht he hq ce cq h0
  obtain ⟨l1, r1⟩ := rows_of_trod ht he hq ce cq h1
  exact ⟨⟨l0, l1⟩, v0, v1, rfl, r0, r1⟩
end Go.Proofs.YtopehfmppfibhaaDoor
namespace Go.Proofs.YtopehfmppfibhaaDoor
open Go.RowKit
/-- a slice, nil let in, whose n elements of that size are just these cells -/
def CellsIn (F : Nat → Prop) (w : World) (size : Nat) (v : Value) (n : Nat) (news : List Value) : Prop :=
  ∃ A c, v = .slice A n c ∧ news.length = n * size ∧ (0 < n → ∃ b off, A = some ⟨b, off, none⟩ ∧ F b ∧ ∀ j u, news[j]? = some u → w.cell? ⟨b, off + j, none⟩ = some u)
theorem IntsIn.cells {k : IntKind} {F : Nat → Prop} {w : World} {v : Value} {zs : List Int} (h : IntsIn k F w v zs) : CellsIn F w 1 v zs.length (zs.map (Value.int k)) := by
  obtain ⟨A, c, rfl, _, _, h3⟩ := h
  refine ⟨A, c, rfl, by simp, fun hn => ?_⟩
  obtain ⟨b, off, rfl, hF, hc⟩ := h3 hn
  refine ⟨b, off, rfl, hF, fun j u hj => ?_⟩
  have hlt : j < zs.length := by
    rcases Nat.lt_or_ge j zs.length with h | h
    · exact h
    · rw [List.getElem?_eq_none (by simpa using h)] at hj; cases hj
  rw [hc j hlt]
  simp only [List.getElem?_map, List.getElem?_eq_getElem hlt, Option.map_some, Option.some.injEq] at hj
  rw [← hj, List.getD_eq_getElem?_getD, List.getElem?_eq_getElem hlt]; rfl
theorem CellsIn.keep {F : Nat → Prop} {w w' : World} {size n : Nat} {v : Value} {news : List Value} (h : CellsIn F w size v n news) (hs : Same F w w') : CellsIn F w' size v n news := by
  obtain ⟨A, c, rfl, h1, h3⟩ := h
  refine ⟨A, c, rfl, h1, fun hn => ?_⟩
  obtain ⟨b, off, rfl, hF, hc⟩ := h3 hn
  exact ⟨b, off, rfl, hF, fun j u hj => (hs.cell (p := ⟨b, off + j, none⟩) hF).trans (hc j u hj)⟩
theorem ints_one (k : IntKind) (zs : List Int) : ∀ u ∈ zs.map (Value.int k), u.oneCell' = true := by
  intro u hu; simp only [List.mem_map] at hu; obtain ⟨z, _, rfl⟩ := hu; rfl
section
variable {P : Program} (w : World)
theorem run_app_nil (base : Nat) (t ty e : TypeId) (i : TypeInfo) (size : Nat) (ht : P.underlying t = some (.slice e)) (hi : P.info? e = some i)
    (v : Value) (n : Nat) (xs : List Value) (hown : w.ownsRow base e size v n xs) (c : Nat) : (Builtin.append_ #[t, t] ty #[v, .slice none 0 c]).run P w = .ok v w := by
  rcases hown.2 with ⟨rfl, rfl⟩ | ⟨g, cap, cur, rfl, _, _, hnc, _⟩
  · simp [Builtin.append_, run_underlying ht, sizeOf, typeInfo, hi, Builtin.lenOf, Builtin.firstCells]
  · simp [Builtin.append_, run_underlying ht, sizeOf, typeInfo, hi, Builtin.lenOf, Builtin.firstCells, hnc, storeCells]
theorem run_app (base : Nat) (t ty e : TypeId) (i : TypeInfo) (z : Value) (size bytes : Nat) (ht : P.underlying t = some (.slice e)) (hi : P.info? e = some i) (hz : i.zero = some z)
    (hsize : i.size = size) (hby : i.bytes = bytes) (hzs : z.cells.size = size) (hsz : 0 < size)
    (v : Value) (n : Nat) (xs : List Value) (hown : w.ownsRow base e size v n xs)
    (F : Nat → Prop) (u : Value) (m : Nat) (news : List Value) (hr : CellsIn F w size u m news) (h1 : ∀ u ∈ news, u.oneCell' = true)
    (h63 : n + m ≤ maxLen) (hbytes : (n + m) * bytes ≤ 140737488355328) (hbase : base ≤ w.heap.size) :
    ∃ v' w', (Builtin.append_ #[t, t] ty #[v, u]).run P w = .ok v' w' ∧ w'.ownsRow base e size v' (n + m) (xs ++ news) ∧ w.grownBy w' v.ownBlock ∧
      (v'.ownBlock = v.ownBlock ∨ v'.ownBlock = some w.heap.size) := by
  obtain ⟨A, c, rfl, hlen, hpos⟩ := hr
  cases A with
  | none =>
    have hm : m = 0 := by
      rcases Nat.eq_zero_or_pos m with h0 | h0
      · exact h0
      · obtain ⟨b, off, h, _⟩ := hpos h0; cases h
    subst hm
    obtain rfl : news = [] := List.eq_nil_of_length_eq_zero (by simpa using hlen)
    exact ⟨v, w, run_app_nil w base t ty e i size ht hi v n xs hown c, by simpa using hown, World.grownBy.refl w _, .inl rfl⟩
  | some ad =>
    have hcells : ∀ j u, news[j]? = some u → w.cell? (ad.add j) = some u := by
      intro j u hu
      rcases Nat.eq_zero_or_pos m with h0 | h0
      · subst h0
        obtain rfl : news = [] := List.eq_nil_of_length_eq_zero (by simpa using hlen)
        simp at hu
      · obtain ⟨b, off, h, _, hc⟩ := hpos h0
        injection h with h
        subst h
        have := hc j u hu
        by_cases hj : j = 0
        · subst hj; simpa [Addr.add] using this
        · simpa [Addr.add, hj] using this
    obtain ⟨v', w', hrun, h2, h3, _, h5⟩ := run_append_own_at (P := P) w base t ty e i z size bytes ht hi hz hsize hby hzs hsz v n xs hown ad m c news hlen hcells h1 h63 hbytes hbase
    exact ⟨v', w', hrun, h2, h3, h5⟩
theorem wp_app {o : Oper} {a : Act} {K : Act → World → Prop} {Q : Exit → Act → World → Prop} (s x : Operand) (t : TypeId)
    (ho : o.op = .call { callee := .builtin .append, args := #[s, x], argTypes := #[t, t] })
    (base : Nat) (e : TypeId) (i : TypeInfo) (z : Value) (size bytes : Nat) (ht : P.underlying t = some (.slice e)) (hi : P.info? e = some i) (hz : i.zero = some z)
    (hsize : i.size = size) (hby : i.bytes = bytes) (hzs : z.cells.size = size) (hsz : 0 < size)
    (v : Value) (n : Nat) (xs : List Value) (hs : a.eval s = v) (hown : w.ownsRow base e size v n xs)
    (F : Nat → Prop) (u : Value) (m : Nat) (news : List Value) (hx : a.eval x = u) (hr : CellsIn F w size u m news) (h1 : ∀ u ∈ news, u.oneCell' = true)
    (h63 : n + m ≤ maxLen) (hbytes : (n + m) * bytes ≤ 140737488355328) (hbase : base ≤ w.heap.size)
    (h : ∀ v' w', w'.ownsRow base e size v' (n + m) (xs ++ news) → w.grownBy w' v.ownBlock → (v'.ownBlock = v.ownBlock ∨ v'.ownBlock = some w.heap.size) → K (a.put o.dst v') w') : o.wp P a w K Q := by
  obtain ⟨v', w', hrun, h2, h3, h4⟩ := run_app (P := P) w base t o.type e i z size bytes ht hi hz hsize hby hzs hsz v n xs hown F u m news hr h1 h63 hbytes hbase
  unfold Oper.wp execOp
  simp only [ho, resolve, invoke, builtin, Sem.run_bind, Sem.run_pure, Result.andThen_ok, List.map_toArray, List.map_cons, List.map_nil, hs, hx, hrun]
  exact h v' w' h2 h3 h4
theorem wpList_app {ops : Array Oper} {rest : List Oper} {o : Oper} {a : Act} {Q : Exit → Act → World → Prop} (hgd : o.guard = none) (s x : Operand) (t : TypeId)
    (ho : o.op = .call { callee := .builtin .append, args := #[s, x], argTypes := #[t, t] })
    (base : Nat) (e : TypeId) (i : TypeInfo) (z : Value) (size bytes : Nat) (ht : P.underlying t = some (.slice e)) (hi : P.info? e = some i) (hz : i.zero = some z)
    (hsize : i.size = size) (hby : i.bytes = bytes) (hzs : z.cells.size = size) (hsz : 0 < size)
    (v : Value) (n : Nat) (xs : List Value) (hs : a.eval s = v) (hown : w.ownsRow base e size v n xs)
    (F : Nat → Prop) (u : Value) (m : Nat) (news : List Value) (hx : a.eval x = u) (hr : CellsIn F w size u m news) (h1 : ∀ u ∈ news, u.oneCell' = true)
    (h63 : n + m ≤ maxLen) (hbytes : (n + m) * bytes ≤ 140737488355328) (hbase : base ≤ w.heap.size)
    (h : ∀ v' w', w'.ownsRow base e size v' (n + m) (xs ++ news) → w.grownBy w' v.ownBlock → (v'.ownBlock = v.ownBlock ∨ v'.ownBlock = some w.heap.size) → wpList P ops Q rest (a.put o.dst v') w') : wpList P ops Q (o :: rest) a w :=
  wpList_plain hgd fun _ hK => wp_app w s x t ho base e i z size bytes ht hi hz hsize hby hzs hsz v n xs hs hown F u m news hx hr h1 h63 hbytes hbase fun v' w' h2 h3 h4 => hK _ _ (h v' w' h2 h3 h4)
theorem step_app {ops : Array Oper} {o : Oper} {a : Act} {K : Act → World → Prop} {Q : Exit → Act → World → Prop} {E : Prop} (hgd : o.guard = none) (s x : Operand) (t : TypeId)
    (ho : o.op = .call { callee := .builtin .append, args := #[s, x], argTypes := #[t, t] })
    (base : Nat) (e : TypeId) (i : TypeInfo) (z : Value) (size bytes : Nat) (ht : P.underlying t = some (.slice e)) (hi : P.info? e = some i) (hz : i.zero = some z)
    (hsize : i.size = size) (hby : i.bytes = bytes) (hzs : z.cells.size = size) (hsz : 0 < size)
    (v : Value) (n : Nat) (xs : List Value) (hs : a.eval s = v) (hown : w.ownsRow base e size v n xs)
    (F : Nat → Prop) (u : Value) (m : Nat) (news : List Value) (hx : a.eval x = u) (hr : CellsIn F w size u m news) (h1 : ∀ u ∈ news, u.oneCell' = true)
    (h63 : n + m ≤ maxLen) (hbytes : (n + m) * bytes ≤ 140737488355328) (hbase : base ≤ w.heap.size)
    (h : ∀ v' w', w'.ownsRow base e size v' (n + m) (xs ++ news) → w.grownBy w' v.ownBlock → (v'.ownBlock = v.ownBlock ∨ v'.ownBlock = some w.heap.size) → K (a.put o.dst v') w') :
    if Region.wanted o (yielded ops a.tmps) = true then Oper.wp P o a w K Q else E := by
  have hw : Region.wanted o (yielded ops a.tmps) = true := by simp [Region.wanted, hgd]
  rw [if_pos hw]
  exact wp_app w s x t ho base e i z size bytes ht hi hz hsize hby hzs hsz v n xs hs hown F u m news hx hr h1 h63 hbytes hbase h
end
end Go.Proofs.YtopehfmppfibhaaDoor
namespace Go.Proofs.YtopehfmppfibhaaDoor
open Go.RowKit Go.Deep
theorem RowsIn.cells {F : Nat → Prop} {w : World} {v : Value} {ll : List (List Int)} (h : RowsIn F w v ll) : ∃ cs : List Value, cs.length = ll.length ∧ CellsIn F w 1 v ll.length cs ∧ (∀ i, i < ll.length → ∃ r, cs[i]? = some r ∧ IntsIn .i64 F w r (rowAt ll i)) ∧ (∀ u ∈ cs, u.oneCell' = true) := by
  obtain ⟨A, c, rfl, h1, h3⟩ := h
  by_cases hn : 0 < ll.length
  · obtain ⟨b, off, rfl, hF, hc⟩ := h3 hn
    obtain ⟨V, hV⟩ := choose_lt (n := ll.length) (α := Value) (p := fun i r => w.cell? ⟨b, off + i, none⟩ = some r ∧ IntsIn .i64 F w r (rowAt ll i)) hc
    have hg : ∀ i, i < ll.length → ((List.range ll.length).map V)[i]? = some (V i) := fun i hi => by simp [hi]
    refine ⟨(List.range ll.length).map V, by simp, ⟨_, c, rfl, by simp, fun _ => ⟨b, off, rfl, hF, fun j u hj => ?_⟩⟩, fun i hi => ⟨V i, hg i hi, (hV i hi).2⟩, ?_⟩
    · by_cases hlt : j < ll.length
      · rw [hg j hlt] at hj; rw [← hj]; exact (hV j hlt).1
      · rw [List.getElem?_eq_none (by simp; omega)] at hj; cases hj
    · intro u hu
      simp only [List.mem_map, List.mem_range] at hu
      obtain ⟨i, hi, rfl⟩ := hu
      obtain ⟨_, A', c', e, _⟩ := hV i hi
      rw [e]; rfl
  · have h0 : ll.length = 0 := by omega
    refine ⟨[], h0.symm, ⟨A, c, rfl, by simp [h0], fun h => absurd h hn⟩, fun i hi => by omega, by simp⟩
theorem rows_of_own {F : Nat → Prop} {w : World} {base n : Nat} {e : TypeId} {v : Value} {cs : List Value} {ll : List (List Int)} (h : w.ownsRow base e 1 v n cs) (hl : ll.length = n) (hc : ∀ i, i < ll.length → ∃ r, cs[i]? = some r ∧ IntsIn .i64 F w r (rowAt ll i)) (hF : ∀ b, base ≤ b → b < w.heap.size → F b) : RowsIn F w v ll := by
  subst hl
  by_cases hn : 0 < ll.length
  · obtain ⟨g, cap, rfl, hb, hlt, hc1, hc2, hcell⟩ := own_open h hn
    refine ⟨_, cap, rfl, by omega, fun _ => ⟨g, 0, rfl, hF g hb hlt, fun i hi => ?_⟩⟩
    obtain ⟨r, hr, hi'⟩ := hc i hi
    exact ⟨r, by rw [Nat.zero_add, hcell i (by omega)]; exact hr, hi'⟩
  · rcases h.2 with ⟨rfl, h0⟩ | ⟨g, cap, cur, rfl, hb, hh, hc1, hc2, _⟩
    · exact ⟨none, 0, by rw [h0], by omega, fun h => absurd h hn⟩
    · exact ⟨_, cap, rfl, by omega, fun h => absurd h hn⟩
theorem rowAt_append (a b : List (List Int)) (i : Nat) : rowAt (a ++ b) i = if i < a.length then rowAt a i else rowAt b (i - a.length) := by
  unfold rowAt
  simp only [List.getD_eq_getElem?_getD]
  split
  · rw [List.getElem?_append_left (by assumption)]
  · rw [List.getElem?_append_right (by omega)]
theorem rows_join {F : Nat → Prop} {w : World} {a b : List (List Int)} {ca cb : List Value} (la : ca.length = a.length) (ha : ∀ i, i < a.length → ∃ r, ca[i]? = some r ∧ IntsIn .i64 F w r (rowAt a i)) (hb : ∀ i, i < b.length → ∃ r, cb[i]? = some r ∧ IntsIn .i64 F w r (rowAt b i)) :
    ∀ i, i < (a ++ b).length → ∃ r, (ca ++ cb)[i]? = some r ∧ IntsIn .i64 F w r (rowAt (a ++ b) i) := by
  intro i hi
  rw [rowAt_append]
  by_cases h : i < a.length
  · rw [if_pos h, List.getElem?_append_left (by omega)]; exact ha i h
  · rw [if_neg h, List.getElem?_append_right (by omega), la]; exact hb _ (by rw [List.length_append] at hi; omega)
end Go.Proofs.YtopehfmppfibhaaDoor
namespace Go.Proofs.YtopehfmppfibhaaDoor
open Go.RowKit
theorem infoInt : (Tryd.prog.info? 3).map (fun i => (i.zero, i.size, i.bytes)) = some (some (.int .i64 0), 1, 8) := by kernel_rfl
theorem mem_at {l : List Int} {i : Nat} (hi : i < l.length) : at0 l i ∈ l := by
  unfold at0; rw [List.getD_eq_getElem?_getD, List.getElem?_eq_getElem hi]; exact List.getElem_mem _
theorem list_ext_at {a b : List Int} (hl : a.length = b.length) (h : ∀ i, i < a.length → at0 a i = at0 b i) : a = b := by
  apply List.ext_getElem hl
  intro i h1 h2
  have := h i h1
  unfold at0 at this
  rw [List.getD_eq_getElem?_getD, List.getD_eq_getElem?_getD, List.getElem?_eq_getElem h1, List.getElem?_eq_getElem h2] at this
  simpa using this
def Quiet (w : World) (v : Value) (e : Ending) (w' : World) : Prop := e = .returned v ∧ ∃ q, w' = w.drewN q
theorem Quiet.mk_ {w : World} {v v' : Value} {q : Nat} (h : v = v') : Quiet w v' (.returned v) (w.drewN q) := ⟨by rw [h], q, rfl⟩
theorem ints1 {F : Nat → Prop} {w : World} {b c : Nat} {x : Int} (hF : F b) (h0 : w.cell? ⟨b, 0, none⟩ = some (.int .i64 x)) (hx : (Lit.int .i64 x).wf = true) (hc : 1 ≤ c ∧ c ≤ maxLen := by simp [maxLen]) : IntsIn .i64 F w (.slice (some ⟨b, 0, none⟩) 1 c) [x] :=
  ⟨_, c, rfl, hc, by simpa using hx, fun _ => ⟨b, 0, rfl, hF, fun i hi => by
    match i, hi with
    | 0, _ => simpa using h0⟩⟩
theorem ints3 {F : Nat → Prop} {w : World} {b c : Nat} {x y z : Int} (hF : F b) (h0 : w.cell? ⟨b, 0, none⟩ = some (.int .i64 x)) (h1 : w.cell? ⟨b, 1, none⟩ = some (.int .i64 y)) (h2 : w.cell? ⟨b, 2, none⟩ = some (.int .i64 z)) (hx : ∀ n ∈ [x, y, z], (Lit.int .i64 n).wf = true) (hc : 3 ≤ c ∧ c ≤ maxLen := by simp [maxLen]) : IntsIn .i64 F w (.slice (some ⟨b, 0, none⟩) 3 c) [x, y, z] :=
  ⟨_, c, rfl, hc, hx, fun _ => ⟨b, 0, rfl, hF, fun i hi => by
    match i, hi with
    | 0, _ => simpa using h0
    | 1, _ => simpa using h1
    | 2, _ => simpa using h2⟩⟩
theorem rows2 {F : Nat → Prop} {w : World} {b c : Nat} {r0 r1 : Value} {x y : List Int} (hF : F b) (h0 : w.cell? ⟨b, 0, none⟩ = some r0) (h1 : w.cell? ⟨b, 1, none⟩ = some r1) (i0 : IntsIn .i64 F w r0 x) (i1 : IntsIn .i64 F w r1 y) (hc : 2 ≤ c ∧ c ≤ maxLen := by simp [maxLen]) : RowsIn F w (.slice (some ⟨b, 0, none⟩) 2 c) [x, y] :=
  ⟨_, c, rfl, hc, fun _ => ⟨b, 0, rfl, hF, fun i hi => by
    match i, hi with
    | 0, _ => exact ⟨r0, by simpa using h0, i0⟩
    | 1, _ => exact ⟨r1, by simpa using h1, i1⟩⟩⟩
def Fresh (w w' : World) : Nat → Prop := fun b => w.heap.size ≤ b ∧ b < w'.heap.size
theorem box_below {w w1 : World} {o : Obj} (hb : Below (w.alloc o).heap.size (w.alloc o) w1) : Below w.heap.size w w1 ∧ w1.heap[w.heap.size]? = some o ∧ w.heap.size < w1.heap.size := by
  have hs := hb.size
  simp only [World.size_alloc] at hs
  exact ⟨((Below.refl _ _).alloc (Nat.le_refl _) _).trans (hb.mono (by simp)), Has.below (Has.new w o) hb (by simp), by omega⟩
end Go.Proofs.YtopehfmppfibhaaDoor
namespace Go.Proofs.YtopehfmppfibhaaDoor
open Go.RowKit
/-- an error by its number -/
def errV (c : Int) : Value := if c = 0 then .nilIface else .iface 60 (.int .i64 c)
theorem errV_no {c : Int} (h : c ≠ 0) : errV c = .iface 60 (.int .i64 c) := if_neg h
theorem errV_0 : errV 0 = .nilIface := rfl
end Go.Proofs.YtopehfmppfibhaaDoor
namespace Go.Proofs.YtopehfmppfibhaaDoor
open Go.RowKit
inductive Va where
  | mk (l : Bool) (n : Int) (s : List Va)
instance : Inhabited Va := ⟨.mk false 0 []⟩
def Va.l : Va → Bool | .mk l _ _ => l
def Va.n : Va → Int | .mk _ n _ => n
def Va.s : Va → List Va | .mk _ _ s => s
theorem Va.ind {P : Va → Prop} (h : ∀ l n s, (∀ y ∈ s, P y) → P (.mk l n s)) : ∀ x, P x := fun x =>
  Va.rec (motive_1 := P) (motive_2 := fun l => ∀ y ∈ l, P y) (fun k n s ih => h k n s ih) (fun y hy => by cases hy) (fun a r ha hr y hy => by
    rcases List.mem_cons.1 hy with rfl | hy
    · exact ha
    · exact hr y hy) x
def badV (l : Bool) (n : Int) (m : Nat) : Bool := (l && decide (n ≠ 0)) || (!l && decide (0 < m))
mutual
def Va.err : Va → Nat → Int
  | .mk l n s, d => if badV l n s.length then 3 else if 6 ≤ d then 4 else Vas.err s (d + 1)
def Vas.err : List Va → Nat → Int
  | [], _ => 0
  | y :: r, d => if y.err d ≠ 0 then y.err d else Vas.err r d
end
def chkV (v : Va) : Int := v.err 0
mutual
/-- the numbers, from the left -/
def Va.nums : Va → List Int
  | .mk l n s => (if l then [] else [n]) ++ Vas.nums s
def Vas.nums : List Va → List Int
  | [] => []
  | y :: r => y.nums ++ Vas.nums r
end
theorem Vas.nums_eq : ∀ s : List Va, Vas.nums s = s.flatMap Va.nums
  | [] => by simp [Vas.nums]
  | y :: r => by rw [Vas.nums, Vas.nums_eq r]; simp
theorem vdrop_at {s : List Va} {i : Nat} (h : i < s.length) : s.drop i = s[i] :: s.drop (i + 1) := List.drop_eq_getElem_cons h
end Go.Proofs.YtopehfmppfibhaaDoor
namespace Go.Proofs.YtopehfmppfibhaaDoor
open Go.RowKit
inductive Ge where
  | mk (k a b : Int) (s : List Ge)
instance : Inhabited Ge := ⟨.mk 0 0 0 []⟩
def Ge.k : Ge → Int | .mk k _ _ _ => k
def Ge.a : Ge → Int | .mk _ a _ _ => a
def Ge.b : Ge → Int | .mk _ _ b _ => b
def Ge.s : Ge → List Ge | .mk _ _ _ s => s
theorem Ge.ind {P : Ge → Prop} (h : ∀ k a b s, (∀ y ∈ s, P y) → P (.mk k a b s)) : ∀ x, P x := fun x =>
  Ge.rec (motive_1 := P) (motive_2 := fun l => ∀ y ∈ l, P y) (fun k a b s ih => h k a b s ih) (fun y hy => by cases hy) (fun a r ha hr y hy => by
    rcases List.mem_cons.1 hy with rfl | hy
    · exact ha
    · exact hr y hy) x
mutual
/-- how many parts, and are they few, and not too deep -/
def Ge.parts : Ge → Nat → Nat × Bool
  | .mk _ _ _ s, d => ((Ges.parts s (d + 1) (1, decide (d < 6))).1, (Ges.parts s (d + 1) (1, decide (d < 6))).2 && decide ((Ges.parts s (d + 1) (1, decide (d < 6))).1 ≤ 30))
def Ges.parts : List Ge → Nat → Nat × Bool → Nat × Bool
  | [], _, p => p
  | y :: r, d, p => if p.2 then Ges.parts r d (p.1 + (y.parts d).1, (y.parts d).2 && decide (p.1 + (y.parts d).1 ≤ 30)) else p
end
theorem Ges.parts_snoc : ∀ (l : List Ge) (y : Ge) (d : Nat) (p : Nat × Bool), Ges.parts (l ++ [y]) d p = if (Ges.parts l d p).2 then ((Ges.parts l d p).1 + (y.parts d).1, (y.parts d).2 && decide ((Ges.parts l d p).1 + (y.parts d).1 ≤ 30)) else Ges.parts l d p
  | [], y, d, p => by rw [List.nil_append, Ges.parts]; simp only [Ges.parts]
  | x :: r, y, d, p => by
    rw [List.cons_append, Ges.parts, Ges.parts]
    split
    · rw [Ges.parts_snoc r y d]
    · first | rfl | (rename_i h; rw [if_neg h])
theorem gtake_succ {s : List Ge} {i : Nat} (h : i < s.length) : s.take (i + 1) = s.take i ++ [s[i]] := by rw [List.take_succ_eq_append_getElem h]
theorem gparts_succ {s : List Ge} {i : Nat} (h : i < s.length) (d : Nat) (p : Nat × Bool) : Ges.parts (s.take (i + 1)) d p = if (Ges.parts (s.take i) d p).2 then ((Ges.parts (s.take i) d p).1 + (s[i].parts d).1, (s[i].parts d).2 && decide ((Ges.parts (s.take i) d p).1 + (s[i].parts d).1 ≤ 30)) else Ges.parts (s.take i) d p := by
  rw [gtake_succ h, Ges.parts_snoc]
/-- once there are too many nothing is added -/
theorem gparts_stop : ∀ (l : List Ge) (d : Nat) (p : Nat × Bool), p.2 = false → Ges.parts l d p = p
  | [], _, p, _ => by rw [Ges.parts]
  | x :: r, _, p, h => by rw [Ges.parts, if_neg (by simp [h])]
theorem gparts_full {s : List Ge} {i : Nat} {d : Nat} {p : Nat × Bool} (h : (Ges.parts (s.take i) d p).2 = false) : Ges.parts s d p = Ges.parts (s.take i) d p := by
  have e : ∀ (a b : List Ge) (p : Nat × Bool), (Ges.parts a d p).2 = false → Ges.parts (a ++ b) d p = Ges.parts a d p := by
    intro a
    induction a with
    | nil => intro b p h; rw [Ges.parts] at h; rw [List.nil_append, gparts_stop _ _ _ h, Ges.parts]
    | cons x r ih =>
      intro b p h
      rw [Ges.parts] at h ⊢
      rw [List.cons_append, Ges.parts]
      split
      · rename_i hp; rw [if_pos hp] at h; exact ih b _ h
      · rfl
  have := e (s.take i) (s.drop i) p h
  rwa [List.take_append_drop] at this
mutual
theorem Ge.parts_le : ∀ (g : Ge) (d : Nat), d ≤ 6 → (g.parts d).1 ≤ 1 + 30 * (6 - d)
  | .mk _ _ _ s, d, hd => by
    rw [Ge.parts]
    show (Ges.parts s (d + 1) (1, decide (d < 6))).1 ≤ _
    by_cases h6 : d < 6
    · have := Ges.parts_le s (d + 1) (1, decide (d < 6)) (by omega) (by show 1 ≤ 1 + 30 * (7 - (d + 1)); omega) (fun _ => by show 1 ≤ 30; omega)
      omega
    · rw [gparts_stop _ _ _ (by simp [h6])]; show 1 ≤ _; omega
theorem Ges.parts_le : ∀ (l : List Ge) (d : Nat) (p : Nat × Bool), d ≤ 6 → p.1 ≤ 1 + 30 * (7 - d) → (p.2 = true → p.1 ≤ 30) → (Ges.parts l d p).1 ≤ 1 + 30 * (7 - d)
  | [], _, p, _, h, _ => by rw [Ges.parts]; exact h
  | x :: r, d, p, hd, h, h2 => by
    rw [Ges.parts]
    split
    · rename_i hp
      have h3 := Ge.parts_le x d hd
      have h4 := h2 hp
      refine Ges.parts_le r d _ hd (by show p.1 + (x.parts d).1 ≤ _; omega) fun h5 => ?_
      simp only [Bool.and_eq_true, decide_eq_true_eq] at h5
      exact h5.2
    · exact h
end
theorem gparts_take_le (s : List Ge) (i d : Nat) (hd : d < 6) : (Ges.parts (s.take i) (d + 1) (1, decide (d < 6))).1 ≤ 200 ∧ ((Ges.parts (s.take i) (d + 1) (1, decide (d < 6))).2 = true → (Ges.parts (s.take i) (d + 1) (1, decide (d < 6))).1 ≤ 30) := by
  constructor
  · have := Ges.parts_le (s.take i) (d + 1) (1, decide (d < 6)) (by omega) (by show 1 ≤ 1 + 30 * (7 - (d + 1)); omega) (fun _ => by show 1 ≤ 30; omega)
    omega
  · have key : ∀ (l : List Ge) (p : Nat × Bool), (p.2 = true → p.1 ≤ 30) → (Ges.parts l (d + 1) p).2 = true → (Ges.parts l (d + 1) p).1 ≤ 30 := by
      intro l
      induction l with
      | nil => intro p h h2; rw [Ges.parts] at h2 ⊢; exact h h2
      | cons x r ih =>
        intro p h h2
        rw [Ges.parts] at h2 ⊢
        split
        · rename_i hp
          rw [if_pos hp] at h2
          refine ih _ (fun h3 => ?_) h2
          simp only [Bool.and_eq_true, decide_eq_true_eq] at h3
          exact h3.2
        · rename_i hp; rw [if_neg hp] at h2; exact absurd h2 hp
    exact key _ _ (fun _ => by show 1 ≤ 30; omega)
/-- a number that may stand in a generator -/
def numB (n : Int) : Bool := decide (-1073741824 ≤ n) && decide (n ≤ 1073741824)
def oneE (k a b : Int) (m : Nat) : Int :=
  if k = 1 ∨ k = 2 then (if numB a = false ∨ (k = 2 ∧ (numB b = false ∨ b < a ∨ 1000 < b - a)) then 1 else if 0 < m then 3 else 0)
  else if k = 4 then (if a < 0 ∨ 5 < a then 1 else if m ≠ 1 then 3 else 0)
  else if k = 3 then 0
  else if k = 5 then (if m = 0 then 3 else 0)
  else 3
mutual
def Ge.err : Ge → Int
  | .mk k a b s => if oneE k a b s.length ≠ 0 then oneE k a b s.length else Ges.err s
def Ges.err : List Ge → Int
  | [] => 0
  | y :: r => if y.err ≠ 0 then y.err else Ges.err r
end
def chkG (g : Ge) : Int := if (g.parts 0).2 then g.err else 4
theorem Ges.err_mem : ∀ {s : List Ge}, Ges.err s = 0 → ∀ y ∈ s, y.err = 0
  | [], _, _, h => by cases h
  | x :: r, hx, y, h => by
    rw [Ges.err] at hx
    split at hx
    · rename_i hy; exact absurd hx hy
    · rename_i hy
      rcases List.mem_cons.1 h with rfl | h
      · omega
      · exact Ges.err_mem hx y h
theorem Ge.err_parts {k a b : Int} {s : List Ge} (h : (Ge.mk k a b s).err = 0) : oneE k a b s.length = 0 ∧ ∀ y ∈ s, y.err = 0 := by
  rw [Ge.err] at h
  split at h
  · rename_i hy; exact absurd h hy
  · rename_i hy; exact ⟨by omega, Ges.err_mem h⟩
theorem chkG_good {g : Ge} (h : chkG g = 0) : (g.parts 0).2 = true ∧ g.err = 0 := by
  unfold chkG at h
  split at h
  · exact ⟨by assumption, h⟩
  · omega
/-- a tree of questions: how much the answer may be at most, and what follows -/
inductive Ch (α : Type) where
  | done (x : α)
  | ask (m : Int) (k : Int → Ch α)
def Ch.bind {α β : Type} : Ch α → (α → Ch β) → Ch β
  | .done x, f => f x
  | .ask m k, f => .ask m fun x => (k x).bind f
def Ch.all {α : Type} : List (Ch α) → Ch (List α)
  | [] => .done []
  | c :: r => c.bind fun x => (Ch.all r).bind fun l => .done (x :: l)
def madeM (k a b : Int) (l : List (Ch Va)) : Ch Va :=
  if k = 1 then .done (.mk false a [])
  else if k = 2 then .ask (wrap64 (b - a)) fun x => .done (.mk false (wrap64 (a + x)) [])
  else if k = 3 then (Ch.all l).bind fun s => .done (.mk true 0 s)
  else if k = 4 then .ask a fun x => (Ch.all (List.replicate x.toNat (l.getD 0 (.done default)))).bind fun s => .done (.mk true 0 s)
  else if k = 5 then .ask ((l.length : Int) - 1) fun x => l.getD x.toNat (.done default)
  else .done (.mk true 0 [])
mutual
def Ge.made : Ge → Ch Va
  | .mk k a b s => madeM k a b (Ges.mades s)
def Ges.mades : List Ge → List (Ch Va)
  | [] => []
  | y :: r => y.made :: Ges.mades r
end
theorem mades_len : ∀ s : List Ge, (Ges.mades s).length = s.length
  | [] => by simp [Ges.mades]
  | y :: r => by simp [Ges.mades, mades_len r]
theorem mades_getD : ∀ (s : List Ge) (i : Nat) (h : i < s.length) (z : Ch Va), (Ges.mades s).getD i z = s[i].made
  | [], _, h, _ => by simp at h
  | y :: r, 0, _, _ => by simp [Ges.mades]
  | y :: r, i + 1, h, z => by simpa [Ges.mades] using mades_getD r i (by simpa using h) z
/-- the questions answered by a rule with a state; a rule may refuse, with a number -/
def Ch.run {S α : Type} (f : S → Int → Except Int (S × Int)) : Ch α → S → Except Int (S × α)
  | .done x, s => .ok (s, x)
  | .ask m k, s => match f s m with
    | .ok (s', x) => (k x).run f s'
    | .error c => .error c
def thenR {S α β : Type} (r : Except Int (S × α)) (g : S → α → Except Int (S × β)) : Except Int (S × β) := match r with
  | .ok (s, x) => g s x
  | .error c => .error c
theorem run_bind' {S α β : Type} (f : S → Int → Except Int (S × Int)) : ∀ (c : Ch α) (g : α → Ch β) (s : S), (c.bind g).run f s = thenR (c.run f s) fun s' x => (g x).run f s'
  | .done x, g, s => rfl
  | .ask m k, g, s => by
    rw [Ch.bind, Ch.run, Ch.run]
    cases h : f s m with
    | ok p => obtain ⟨s', x⟩ := p; exact run_bind' f (k x) g s'
    | error c => rfl
/-- a path through the questions, from the first to the last -/
def Ch.path {α : Type} : Ch α → List Int → Prop
  | .done _, l => l = []
  | .ask _ _, [] => False
  | .ask _ k, x :: r => (k x).path r
/-- no path goes on behind another one's end -/
theorem path_free {α : Type} : ∀ (c : Ch α) (p q : List Int), c.path p → c.path q → (∀ i, i < p.length → i < q.length → at0 p i = at0 q i) → p = q
  | .done _, p, q, hp, hq, _ => by rw [Ch.path] at hp hq; rw [hp, hq]
  | .ask _ _, [], _, hp, _, _ => by rw [Ch.path] at hp; exact hp.elim
  | .ask _ _, _ :: _, [], _, hq, _ => by rw [Ch.path] at hq; exact hq.elim
  | .ask _ k, x :: p, y :: q, hp, hq, h => by
    have h0 : x = y := by have := h 0 (by simp) (by simp); simpa [at0] using this
    subst h0
    rw [Ch.path] at hp hq
    rw [path_free (k x) p q hp hq fun i h1 h2 => by have := h (i + 1) (by simpa using h1) (by simpa using h2); simpa [at0] using this]
/-- what mending takes of a list of numbers, at a place, for a question -/
def clampT (t : List Int) (n : Nat) (m : Int) : Int := if n < t.length then max 0 (min (at0 t n) m) else 0
def mendF (t : List Int) (out : List Int) (m : Int) : Except Int (List Int × Int) := .ok (out ++ [clampT t out.length m], clampT t out.length m)
theorem mend_run {α : Type} (t : List Int) : ∀ (c : Ch α) (out : List Int), ∃ p x, c.run (mendF t) out = .ok (out ++ p, x) ∧ c.path p ∧ (∀ z ∈ p, 0 ≤ z) ∧ (t = [] → ∀ z ∈ p, z = 0)
  | .done x, out => ⟨[], x, by simp [Ch.run], by simp [Ch.path], by simp, by simp⟩
  | .ask m k, out => by
    obtain ⟨p, x, h1, h2, h3, h4⟩ := mend_run t (k (clampT t out.length m)) (out ++ [clampT t out.length m])
    refine ⟨clampT t out.length m :: p, x, ?_, by rw [Ch.path]; exact h2, ?_, ?_⟩
    · rw [Ch.run]; simp only [mendF]; rw [h1]; simp
    · intro z hz
      rcases List.mem_cons.1 hz with rfl | hz
      · unfold clampT; split <;> omega
      · exact h3 z hz
    · intro ht z hz
      rcases List.mem_cons.1 hz with rfl | hz
      · subst ht; simp [clampT]
      · exact h4 ht z hz
/-- the tape that is mended of numbers -/
def mendL (g : Ge) (t : List Int) : List Int := match g.made.run (mendF t) [] with
  | .ok (l, _) => l
  | .error _ => []
theorem mendL_spec (g : Ge) (t : List Int) : (∃ x, g.made.run (mendF t) [] = .ok (mendL g t, x)) ∧ g.made.path (mendL g t) ∧ (∀ z ∈ mendL g t, 0 ≤ z) ∧ (t = [] → ∀ z ∈ mendL g t, z = 0) := by
  obtain ⟨p, x, h1, h2, h3, h4⟩ := mend_run t g.made []
  rw [List.nil_append] at h1
  have e : mendL g t = p := by unfold mendL; rw [h1]
  rw [e]
  exact ⟨⟨x, h1⟩, h2, h3, h4⟩
end Go.Proofs.YtopehfmppfibhaaDoor
namespace Go.Proofs.YtopehfmppfibhaaDoor
open Go.RowKit Go.ChangeShapes
mutual
def GeIn (F : Nat → Prop) (w : World) : Ge → Value → Value → Value → Value → Prop
  | .mk k a b s, u, v, x, c => u = .int .i64 k ∧ v = .int .i64 a ∧ x = .int .i64 b ∧ (Lit.int .i64 k).wf = true ∧ (Lit.int .i64 a).wf = true ∧ (Lit.int .i64 b).wf = true ∧ ∃ A cp, c = .slice A s.length cp ∧ (s.length ≤ cp ∧ cp ≤ maxLen) ∧
      (0 < s.length → ∃ bl off, A = some ⟨bl, off, none⟩ ∧ F bl ∧ GesIn F w s bl off)
def GesIn (F : Nat → Prop) (w : World) : List Ge → Nat → Nat → Prop
  | [], _, _ => True
  | g :: r, bl, o => (∃ u v x c, w.cell? ⟨bl, o, none⟩ = some u ∧ w.cell? ⟨bl, o + 1, none⟩ = some v ∧ w.cell? ⟨bl, o + 2, none⟩ = some x ∧ w.cell? ⟨bl, o + 3, none⟩ = some c ∧ GeIn F w g u v x c) ∧ GesIn F w r bl (o + 4)
end
section
variable {F F' : Nat → Prop} {w w' : World}
mutual
theorem GeIn.keep (hs : Same F w w') : ∀ (g : Ge) {u v x c : Value}, GeIn F w g u v x c → GeIn F w' g u v x c
  | .mk k a b s, u, v, x, c, h => by
    rw [GeIn] at h ⊢
    obtain ⟨h1, h2, h3, h4, h5, h6, A, cp, h7, h8, h9⟩ := h
    refine ⟨h1, h2, h3, h4, h5, h6, A, cp, h7, h8, fun hn => ?_⟩
    obtain ⟨bl, off, e, hF, hx⟩ := h9 hn
    exact ⟨bl, off, e, hF, GesIn.keep hs s hF hx⟩
theorem GesIn.keep (hs : Same F w w') : ∀ (s : List Ge) {bl o : Nat}, F bl → GesIn F w s bl o → GesIn F w' s bl o
  | [], _, _, _, _ => by rw [GesIn]; trivial
  | g :: r, bl, o, hF, h => by
    rw [GesIn] at h ⊢
    obtain ⟨⟨u, v, x, c, h1, h2, h3, h4, h5⟩, h6⟩ := h
    exact ⟨⟨u, v, x, c, (hs.cell (p := ⟨bl, o, none⟩) hF).trans h1, (hs.cell (p := ⟨bl, o + 1, none⟩) hF).trans h2, (hs.cell (p := ⟨bl, o + 2, none⟩) hF).trans h3, (hs.cell (p := ⟨bl, o + 3, none⟩) hF).trans h4, GeIn.keep hs g h5⟩, GesIn.keep hs r hF h6⟩
end
mutual
theorem GeIn.more (hF : ∀ b, F b → F' b) : ∀ (g : Ge) {u v x c : Value}, GeIn F w g u v x c → GeIn F' w g u v x c
  | .mk k a b s, u, v, x, c, h => by
    rw [GeIn] at h ⊢
    obtain ⟨h1, h2, h3, h4, h5, h6, A, cp, h7, h8, h9⟩ := h
    refine ⟨h1, h2, h3, h4, h5, h6, A, cp, h7, h8, fun hn => ?_⟩
    obtain ⟨bl, off, e, hFb, hx⟩ := h9 hn
    exact ⟨bl, off, e, hF _ hFb, GesIn.more hF s hx⟩
theorem GesIn.more (hF : ∀ b, F b → F' b) : ∀ (s : List Ge) {bl o : Nat}, GesIn F w s bl o → GesIn F' w s bl o
  | [], _, _, _ => by rw [GesIn]; trivial
  | g :: r, bl, o, h => by
    rw [GesIn] at h ⊢
    obtain ⟨⟨u, v, x, c, h1, h2, h3, h4, h5⟩, h6⟩ := h
    exact ⟨⟨u, v, x, c, h1, h2, h3, h4, GeIn.more hF g h5⟩, GesIn.more hF r h6⟩
end
theorem GesIn.at_ : ∀ {s : List Ge} {bl o i : Nat}, GesIn F w s bl o → (h : i < s.length) → ∃ u v x c, w.cell? ⟨bl, o + i * 4, none⟩ = some u ∧ w.cell? ⟨bl, o + i * 4 + 1, none⟩ = some v ∧ w.cell? ⟨bl, o + i * 4 + 2, none⟩ = some x ∧ w.cell? ⟨bl, o + i * 4 + 3, none⟩ = some c ∧ GeIn F w s[i] u v x c
  | [], _, _, _, _, h => by simp at h
  | g :: r, bl, o, 0, hx, _ => by rw [GesIn] at hx; simpa using hx.1
  | g :: r, bl, o, i + 1, hx, h => by
    rw [GesIn] at hx
    have := GesIn.at_ (i := i) hx.2 (by simpa using h)
    simpa [Nat.add_mul, Nat.add_assoc, Nat.add_comm, Nat.add_left_comm] using this
theorem GesIn.mk_ : ∀ {s : List Ge} {bl o : Nat}, (∀ i, (h : i < s.length) → ∃ u v x c, w.cell? ⟨bl, o + i * 4, none⟩ = some u ∧ w.cell? ⟨bl, o + i * 4 + 1, none⟩ = some v ∧ w.cell? ⟨bl, o + i * 4 + 2, none⟩ = some x ∧ w.cell? ⟨bl, o + i * 4 + 3, none⟩ = some c ∧ GeIn F w s[i] u v x c) → GesIn F w s bl o
  | [], _, _, _ => by rw [GesIn]; trivial
  | g :: r, bl, o, h => by
    rw [GesIn]
    refine ⟨by obtain ⟨u, v, x, c, h1, h2, h3, h4, h5⟩ := h 0 (by simp); exact ⟨u, v, x, c, by simpa using h1, by simpa using h2, by simpa using h3, by simpa using h4, h5⟩, GesIn.mk_ fun i hi => ?_⟩
    have := h (i + 1) (by simpa using hi)
    simpa [Nat.add_mul, Nat.add_assoc, Nat.add_comm, Nat.add_left_comm] using this
theorem GeIn.box {k a b : Int} {s : List Ge} {u v x c : Value} (h : GeIn F w (.mk k a b s) u v x c) : ∃ A cp, u = .int .i64 k ∧ v = .int .i64 a ∧ x = .int .i64 b ∧ c = .slice A s.length cp ∧ s.length ≤ cp ∧ cp ≤ 9223372036854775807 ∧ (0 < s.length → ∃ bl off, A = some ⟨bl, off, none⟩ ∧ F bl ∧ GesIn F w s bl off) := by
  rw [GeIn] at h
  obtain ⟨h1, h2, h3, _, _, _, A, cp, h7, h8, h9⟩ := h
  exact ⟨A, cp, h1, h2, h3, h7, h8.1, by have := h8.2; unfold maxLen at this; omega, h9⟩
theorem GeIn.wf {k a b : Int} {s : List Ge} {u v x c : Value} (h : GeIn F w (.mk k a b s) u v x c) : (Lit.int .i64 k).wf = true ∧ (Lit.int .i64 a).wf = true ∧ (Lit.int .i64 b).wf = true := by
  rw [GeIn] at h; exact ⟨h.2.2.2.1, h.2.2.2.2.1, h.2.2.2.2.2.1⟩
end
theorem ge_leaf {F : Nat → Prop} {w : World} {k a b : Int} (hk : (Lit.int .i64 k).wf = true) (ha : (Lit.int .i64 a).wf = true) (hb : (Lit.int .i64 b).wf = true) : GeIn F w (.mk k a b []) (.int .i64 k) (.int .i64 a) (.int .i64 b) (.slice none 0 0) := by
  rw [GeIn]; exact ⟨rfl, rfl, rfl, hk, ha, hb, none, 0, rfl, by simp, by simp⟩
end Go.Proofs.YtopehfmppfibhaaDoor
namespace Go.Proofs.YtopehfmppfibhaaDoor
open Go.Shelf
def layCmp_ren : Go.Shelf.Ren := ⟨fun | 122 => 69 | 215 => 78 | n => n, fun | 3 => 3 | 4 => 4 | n => n, fun | n => n⟩
theorem layCmp : Go.Proofs.Lays.n122 Tryd.prog layCmp_ren := {
  mixed := by kernel_rfl
  f122 := Tryd.func69.trans (congrArg some (by kernel_rfl))
  f215 := Tryd.func78.trans (congrArg some (by kernel_rfl))
  t3 := Tryd.underlying3
  a3 := Tryd.isAgg3
  z3 := Tryd.sizeOf3
  v3 := Tryd.zeroValue3
  t4 := Tryd.underlying4
  a4 := Tryd.isAgg4
  z4 := Tryd.sizeOf4
  v4 := Tryd.zeroValue4 }
open Go.RowKit in
theorem cmp_int (x y : Int) (w : World) :
    Calls Tryd.prog 69 #[.int .i64 x, .int .i64 y] w fun e w' => e = .returned (.int .i64 (Lib.compareInt x y)) ∧ w' = w := Any.cmp_Compare_int layCmp x y w
def layDel_ren : Go.Shelf.Ren := ⟨fun | 23 => 30 | n => n, fun | 22 => 25 | 3 => 3 | 4 => 4 | 0 => 0 | n => n, fun | n => n⟩
theorem layDel : Go.Proofs.Lays2.n23 Tryd.prog layDel_ren := {
  mixed := by kernel_rfl
  f23 := Tryd.func30.trans (congrArg some (by kernel_rfl))
  t0 := Tryd.underlying0
  a0 := Tryd.isAgg0
  z0 := Tryd.sizeOf0
  v0 := Tryd.zeroValue0
  t3 := Tryd.underlying3
  a3 := Tryd.isAgg3
  z3 := Tryd.sizeOf3
  v3 := Tryd.zeroValue3
  t4 := Tryd.underlying4
  a4 := Tryd.isAgg4
  z4 := Tryd.sizeOf4
  v4 := Tryd.zeroValue4
  t22 := Tryd.underlying25
  a22 := Tryd.isAgg25
  z22 := Tryd.sizeOf25
  v22 := Tryd.zeroValue25
  i3 := by kernel_rfl }
open Go.RowKit Go.Lib Go.Sort in
theorem delete_int (b off n c i j : Nat) (zs : List Int) (w : World) (hz : n ≤ zs.length) (hcap : n ≤ c) (hm : c ≤ 9223372036854775807) (hij : i ≤ j) (hj : j ≤ n) (hc : ∀ j, j < zs.length → w.cell? ⟨b, off + j, none⟩ = some (.int .i64 (zs.getD j 0))) (hf : ∀ j, j < n → w.frozen? ⟨b, off + j, none⟩ = false) :
    Calls Tryd.prog 30 #[.slice (some ⟨b, off, none⟩) n c, .int .i64 i, .int .i64 j] w fun e w' => e = .returned (.slice (some ⟨b, off, none⟩) (n - (j - i)) c) ∧ ∃ q, w' = (w.drewN q).setCells b off (((zs.take n).take i ++ (zs.take n).drop j ++ List.replicate (j - i) 0).map (Value.int .i64)) := Any.slices_Delete_int_cells layDel b off n c i j zs w hz hcap hm hij hj hc hf
end Go.Proofs.YtopehfmppfibhaaDoor
namespace Go.Proofs.YtopehfmppfibhaaDoor
open Go.RowKit
def CmpPost (a b : List Int) (w : World) (e : Ending) (w' : World) : Prop := ∃ (c : Int) (q : Nat), e = .returned (.int .i64 c) ∧ w' = w.drewN q ∧ (a = b → c = 0)
def TLessPost (a b : List Int) (w : World) (e : Ending) (w' : World) : Prop := ∃ (c : Bool) (q : Nat), e = .returned (.bool c) ∧ w' = w.drewN q ∧ (a = b → c = false)
theorem cmpI_self (x : Int) : Lib.compareInt x x = 0 := by simp [Lib.compareInt]
set_option maxHeartbeats 400000 in
theorem compare_any (a b : List Int) (F : Nat → Prop) (u v : Value) (w : World) (hu : IntsIn .i64 F w u a) (hv : IntsIn .i64 F w v b) :
    Calls Tryd.prog 49 #[u, v] w (CmpPost a b w) := by
  obtain ⟨A, ca, rfl, ha1, _, ha⟩ := hu
  obtain ⟨B, cb, rfl, hb1, _, hb⟩ := hv
  have HA := hid ha
  have HB := hid hb
  clear ha hb
  unfold maxLen at ha1 hb1
  go_enter Tryd.func49, Tryd.ntmps49
  go_wp2_with fail
  go_loopw [11] (fun i wr => ∃ j q : Nat, j ≤ a.length ∧ i = .int .i64 j ∧ wr = w.drewN q) (fun i _ => a.length - (intOf i).toNat)
  case atStart => exact ⟨0, 0, Nat.zero_le _, rfl, rfl⟩
  case round =>
    obtain ⟨j, q, hj, rfl, rfl⟩ := hrel
    by_cases hlt : j < a.length
    · obtain ⟨b1, o1, rfl, _, hc1⟩ := HA.out (by omega)
      have c1 : w.cell? ⟨b1, o1 + j, none⟩ = some (.int .i64 (at0 a j)) := hc1 j hlt
      clear hc1
      have i1 : (j : Int) < (a.length : Int) := by omega
      by_cases h2 : j < b.length
      · obtain ⟨b2, o2, rfl, _, hc2⟩ := HB.out (by omega)
        have c2 : w.cell? ⟨b2, o2 + j, none⟩ = some (.int .i64 (at0 b j)) := hc2 j h2
        clear hc2
        have i2 : (j : Int) < (b.length : Int) := by omega
        have NE : Hid (a = b → Lib.compareInt (at0 a j) (at0 b j) = 0) := fun e => by rw [e]; exact cmpI_self _
        generalize at0 a j = x at *
        generalize at0 b j = y at *
        go_wp2_with fail
        refine (cmp_int x y _).mono ?_
        rintro e w1 ⟨rfl, rfl⟩
        generalize Lib.compareInt x y = z at *
        by_cases hz : z = 0
        · subst hz
          go_wp2_with fail
          go_roundw
          case rel => exact ⟨j + 1, _, by omega, by go_num, rfl⟩
          case measure => simp [intOf]; omega
        · have d1 : (z != 0) = true := by simp [hz]
          have NF : Hid (a = b → z = 0) := NE.out
          clear hz
          go_wp2_with fail
          go_ret
          exact ⟨_, _, rfl, rfl, NF.out⟩
      · have NE : Hid (a = b → (1 : Int) = 0) := fun e => absurd hlt (by rw [e]; exact h2)
        have i2 : (b.length : Int) ≤ (j : Int) := by omega
        go_wp2_with fail
        go_ret
        exact ⟨_, _, rfl, rfl, NE.out⟩
    · obtain rfl : j = a.length := by omega
      by_cases h3 : a.length < b.length
      · have NE : Hid (a = b → (-1 : Int) = 0) := fun e => absurd h3 (by rw [e]; omega)
        have i3 : (a.length : Int) < (b.length : Int) := by omega
        go_wp2_with fail
        go_ret
        exact ⟨_, _, rfl, rfl, NE.out⟩
      · have i3 : (b.length : Int) ≤ (a.length : Int) := by omega
        go_wp2_with fail
        go_ret
        exact ⟨_, _, rfl, rfl, fun _ => rfl⟩
set_option maxHeartbeats 400000 in
theorem tless_any (a b : List Int) (F : Nat → Prop) (u v : Value) (w : World) (hu : IntsIn .i64 F w u a) (hv : IntsIn .i64 F w v b) :
    Calls Tryd.prog 27 #[u, v] w (TLessPost a b w) := by
  have HU := hid hu
  have HV := hid hv
  obtain ⟨A, ca, rfl, ha1, _, _⟩ := hu
  obtain ⟨B, cb, rfl, hb1, _, _⟩ := hv
  unfold maxLen at ha1 hb1
  by_cases hl : a.length = b.length
  · have e1 : ((a.length : Int) != (b.length : Int)) = false := by simp [hl]
    clear hl
    go_enter Tryd.func27, Tryd.ntmps27
    go_wp2_with fail
    refine (compare_any a b F _ _ _ HU.out HV.out).mono ?_
    rintro e w1 ⟨c, q, rfl, rfl, hc⟩
    have HC := hid hc
    clear hc
    go_wp2_with fail
    go_ret
    exact ⟨_, _, rfl, rfl, fun e => by rw [HC.out e]; decide⟩
  · have e1 : ((a.length : Int) != (b.length : Int)) = true := by simp; omega
    have NE : Hid (a ≠ b) := fun e => hl (by rw [e])
    clear hl
    go_enter Tryd.func27, Tryd.ntmps27
    go_wp2_with fail
    go_ret
    exact ⟨_, 0, rfl, rfl, fun e => absurd e NE.out⟩
end Go.Proofs.YtopehfmppfibhaaDoor
namespace Go.Proofs.YtopehfmppfibhaaDoor
open Go.RowKit
def isNilS : Value → Bool
  | .slice a _ _ => a.isNone
  | _ => false
theorem nil_of_block {v : Value} {g : Nat} (h : v.ownBlock = some g) : isNilS v = false := by
  cases v <;> simp [Value.ownBlock] at h
  rename_i a n c
  cases a <;> simp_all [isNilS]
end Go.Proofs.YtopehfmppfibhaaDoor
namespace Go.Proofs.YtopehfmppfibhaaDoor
open Go.RowKit
set_option maxRecDepth 100000 in
set_option maxHeartbeats 400000 in
theorem clone_any (zs : List Int) (F : Nat → Prop) (v : Value) (w : World) (hF : ∀ b, F b → b < w.heap.size) (hv : IntsIn .i64 F w v zs) (hz : zs.length * 8 ≤ 140737488355328) :
    Calls Tryd.prog 29 #[v] w fun e w' => ∃ r, e = .returned r ∧ w'.ownsRow w.heap.size 3 1 r zs.length (zs.map (Value.int .i64)) ∧ isNilS r = isNilS v ∧ Below w.heap.size w w' := by
  have H := hid hv
  have HF := hid hF
  obtain ⟨A, c, rfl, h1, _, h3⟩ := hv
  have HZ := hid hz
  have h2 : zs.length ≤ 17592186044416 := by omega
  clear h1 hF hz
  obtain ⟨i0, hi, hz0, hz1, hz2⟩ := info_parts infoInt
  have eqn := fun w => Lib.run_eql_slice_nil (P := Tryd.prog) w 25 3 A zs.length c 0 0 Tryd.underlying25
  cases A with
  | none =>
    have h0 : zs.length = 0 := by
      rcases Nat.eq_zero_or_pos zs.length with h | h
      · exact h
      · obtain ⟨_, _, h, _⟩ := h3 h; cases h
    obtain rfl : zs = [] := List.eq_nil_of_length_eq_zero h0
    clear h3 h0
    simp at eqn
    go_enter Tryd.func29, Tryd.ntmps29
    go_wp2_with fail
    go_ret
    exact ⟨_, rfl, World.ownsRow_nil _ _ _ _, rfl, Below.refl _ _⟩
  | some a =>
    clear h3
    simp at eqn
    have O0 := hid (World.ownsRow_lit (e := 3) (size := 1) (base := w.heap.size) w #[] 0 (Nat.le_refl _) (by unfold maxLen; omega) rfl)
    have C0 := hid (H.out.cells.keep (w' := w.alloc (Obj.cells #[] 3)) (fun b hb => Below.heap_alloc _ _ _ (HF.out b hb)))
    go_enter Tryd.func29, Tryd.ntmps29
    go_wp2_with (at_builtin; refine wpList_app _ rfl (.tmp 5) (.tmp 6) 25 rfl w.heap.size 3 i0 (.int .i64 0) 1 8 Tryd.underlying25 hi hz0 hz1 hz2 rfl (by decide) _ 0 [] rfl O0.out _ _ zs.length _ rfl C0.out (ints_one _ _) (by unfold maxLen; omega) (by omega) (by simp) ?_; intro v1 w1 hown hgrow hat; have B1 : Below w.heap.size w w1 := ((Below.refl _ _).alloc (Nat.le_refl _) _).grown hgrow (by simp) (own_ge O0.out); replace hown : w1.ownsRow w.heap.size 3 1 v1 zs.length (zs.map (Value.int .i64)) := (by simpa using hown); have hnil : isNilS v1 = false := (by rcases hat with h | h; exact nil_of_block (h.trans rfl); exact nil_of_block h))
    go_ret
    exact ⟨_, rfl, hown, hnil, B1⟩
end Go.Proofs.YtopehfmppfibhaaDoor
namespace Go.Proofs.YtopehfmppfibhaaDoor
open Go.RowKit Go.ChangeShapes
mutual
def VaIn (F : Nat → Prop) (w : World) : Va → Value → Value → Value → Prop
  | .mk k n s, a, b, c => a = .bool k ∧ b = .int .i64 n ∧ (Lit.int .i64 n).wf = true ∧ ∃ A cp, c = .slice A s.length cp ∧ (s.length ≤ cp ∧ cp ≤ maxLen) ∧
      (0 < s.length → ∃ bl off, A = some ⟨bl, off, none⟩ ∧ F bl ∧ VasIn F w s bl off)
def VasIn (F : Nat → Prop) (w : World) : List Va → Nat → Nat → Prop
  | [], _, _ => True
  | x :: r, bl, o => (∃ a b c, w.cell? ⟨bl, o, none⟩ = some a ∧ w.cell? ⟨bl, o + 1, none⟩ = some b ∧ w.cell? ⟨bl, o + 2, none⟩ = some c ∧ VaIn F w x a b c) ∧ VasIn F w r bl (o + 3)
end
section
variable {F F' : Nat → Prop} {w w' : World}
mutual
theorem VaIn.keep (hs : Same F w w') : ∀ (x : Va) {a b c : Value}, VaIn F w x a b c → VaIn F w' x a b c
  | .mk k n s, a, b, c, h => by
    rw [VaIn] at h ⊢
    obtain ⟨h1, h2, h3, A, cp, h5, h6, h7⟩ := h
    refine ⟨h1, h2, h3, A, cp, h5, h6, fun hn => ?_⟩
    obtain ⟨bl, off, e, hF, hx⟩ := h7 hn
    exact ⟨bl, off, e, hF, VasIn.keep hs s hF hx⟩
theorem VasIn.keep (hs : Same F w w') : ∀ (s : List Va) {bl o : Nat}, F bl → VasIn F w s bl o → VasIn F w' s bl o
  | [], _, _, _, _ => by rw [VasIn]; trivial
  | x :: r, bl, o, hF, h => by
    rw [VasIn] at h ⊢
    obtain ⟨⟨a, b, c, h1, h2, h3, h4⟩, h5⟩ := h
    exact ⟨⟨a, b, c, (hs.cell (p := ⟨bl, o, none⟩) hF).trans h1, (hs.cell (p := ⟨bl, o + 1, none⟩) hF).trans h2, (hs.cell (p := ⟨bl, o + 2, none⟩) hF).trans h3, VaIn.keep hs x h4⟩, VasIn.keep hs r hF h5⟩
end
mutual
theorem VaIn.more (hF : ∀ b, F b → F' b) : ∀ (x : Va) {a b c : Value}, VaIn F w x a b c → VaIn F' w x a b c
  | .mk k n s, a, b, c, h => by
    rw [VaIn] at h ⊢
    obtain ⟨h1, h2, h3, A, cp, h5, h6, h7⟩ := h
    refine ⟨h1, h2, h3, A, cp, h5, h6, fun hn => ?_⟩
    obtain ⟨bl, off, e, hFb, hx⟩ := h7 hn
    exact ⟨bl, off, e, hF _ hFb, VasIn.more hF s hx⟩
theorem VasIn.more (hF : ∀ b, F b → F' b) : ∀ (s : List Va) {bl o : Nat}, VasIn F w s bl o → VasIn F' w s bl o
  | [], _, _, _ => by rw [VasIn]; trivial
  | x :: r, bl, o, h => by
    rw [VasIn] at h ⊢
    obtain ⟨⟨a, b, c, h1, h2, h3, h4⟩, h5⟩ := h
    exact ⟨⟨a, b, c, h1, h2, h3, VaIn.more hF x h4⟩, VasIn.more hF r h5⟩
end
theorem VasIn.at_ : ∀ {s : List Va} {bl o i : Nat}, VasIn F w s bl o → (h : i < s.length) → ∃ a b c, w.cell? ⟨bl, o + i * 3, none⟩ = some a ∧ w.cell? ⟨bl, o + i * 3 + 1, none⟩ = some b ∧ w.cell? ⟨bl, o + i * 3 + 2, none⟩ = some c ∧ VaIn F w s[i] a b c
  | [], _, _, _, _, h => by simp at h
  | x :: r, bl, o, 0, hx, _ => by rw [VasIn] at hx; simpa using hx.1
  | x :: r, bl, o, i + 1, hx, h => by
    rw [VasIn] at hx
    have := VasIn.at_ (i := i) hx.2 (by simpa using h)
    simpa [Nat.add_mul, Nat.add_assoc, Nat.add_comm, Nat.add_left_comm] using this
theorem VasIn.mk_ : ∀ {s : List Va} {bl o : Nat}, (∀ i, (h : i < s.length) → ∃ a b c, w.cell? ⟨bl, o + i * 3, none⟩ = some a ∧ w.cell? ⟨bl, o + i * 3 + 1, none⟩ = some b ∧ w.cell? ⟨bl, o + i * 3 + 2, none⟩ = some c ∧ VaIn F w s[i] a b c) → VasIn F w s bl o
  | [], _, _, _ => by rw [VasIn]; trivial
  | x :: r, bl, o, h => by
    rw [VasIn]
    refine ⟨by obtain ⟨a, b, c, h1, h2, h3, h4⟩ := h 0 (by simp); exact ⟨a, b, c, by simpa using h1, by simpa using h2, by simpa using h3, h4⟩, VasIn.mk_ fun i hi => ?_⟩
    have := h (i + 1) (by simpa using hi)
    simpa [Nat.add_mul, Nat.add_assoc, Nat.add_comm, Nat.add_left_comm] using this
/-- a list's cells, three each -/
def VaCells (F : Nat → Prop) (w : World) (cs : List Value) (l : List Va) : Prop :=
  cs.length = l.length * 3 ∧ ∀ i, (h : i < l.length) → ∃ a b c, cs[i * 3]? = some a ∧ cs[i * 3 + 1]? = some b ∧ cs[i * 3 + 2]? = some c ∧ VaIn F w l[i] a b c
theorem VaCells.nil_ : VaCells F w [] [] := ⟨rfl, fun i h => by simp at h⟩
theorem VaCells.keep {cs : List Value} {l : List Va} (h : VaCells F w cs l) (hs : Same F w w') : VaCells F w' cs l :=
  ⟨h.1, fun i hi => by obtain ⟨a, b, c, h1, h2, h3, h4⟩ := h.2 i hi; exact ⟨a, b, c, h1, h2, h3, VaIn.keep hs _ h4⟩⟩
theorem VaCells.more {cs : List Value} {l : List Va} (h : VaCells F w cs l) (hF : ∀ b, F b → F' b) : VaCells F' w cs l :=
  ⟨h.1, fun i hi => by obtain ⟨a, b, c, h1, h2, h3, h4⟩ := h.2 i hi; exact ⟨a, b, c, h1, h2, h3, VaIn.more hF _ h4⟩⟩
theorem VaCells.snoc {cs : List Value} {l : List Va} {x : Va} {a b c : Value} (h : VaCells F w cs l) (hx : VaIn F w x a b c) : VaCells F w (cs ++ [a, b, c]) (l ++ [x]) := by
  refine ⟨by simp [h.1, Nat.add_mul], fun i hi => ?_⟩
  by_cases hl : i < l.length
  · obtain ⟨a', b', c', h1, h2, h3, h4⟩ := h.2 i hl
    have l1 := h.1
    refine ⟨a', b', c', ?_, ?_, ?_, by rw [List.getElem_append_left hl]; exact h4⟩
    · rw [List.getElem?_append_left (by omega)]; exact h1
    · rw [List.getElem?_append_left (by omega)]; exact h2
    · rw [List.getElem?_append_left (by omega)]; exact h3
  · simp at hi
    obtain rfl : i = l.length := by omega
    have l1 := h.1
    refine ⟨a, b, c, ?_, ?_, ?_, by simpa using hx⟩
    · rw [List.getElem?_append_right (by omega), show l.length * 3 - cs.length = 0 by omega]; rfl
    · rw [List.getElem?_append_right (by omega), show l.length * 3 + 1 - cs.length = 1 by omega]; rfl
    · rw [List.getElem?_append_right (by omega), show l.length * 3 + 2 - cs.length = 2 by omega]; rfl
theorem VaCells.vas {base g cap : Nat} {e : TypeId} {cs : List Value} {l : List Va} (h : VaCells F w cs l) (ho : w.ownsRow base e 3 (.slice (some ⟨g, 0, none⟩) l.length cap) l.length cs) : VasIn F w l g 0 := by
  refine VasIn.mk_ fun i hi => ?_
  obtain ⟨a, b, c, h1, h2, h3, h4⟩ := h.2 i hi
  have l1 := h.1
  have key : ∀ j, j < l.length * 3 → w.cell? ⟨g, 0 + j, none⟩ = cs[j]? := fun j hj => by rw [Nat.zero_add]; exact ho.cellAt j hj
  refine ⟨a, b, c, (key _ (by omega)).trans h1, ?_, ?_, h4⟩
  · rw [Nat.add_assoc]; exact (key _ (by omega)).trans h2
  · rw [Nat.add_assoc]; exact (key _ (by omega)).trans h3
end
end Go.Proofs.YtopehfmppfibhaaDoor
