/- What a round of minim.Least knows of the heap: the states met, the box of the machine told, its two rows of rows, all apart. No conditions. -/
import Derived.Test.YtkcggmhllijgcaaDoorLst
import Derived.Test.YtkcggmhllijgcaaDoorRap
namespace Go.Proofs.YtkcggmhllijgcaaDoor
open Go.RowKit
theorem ints_block {k : IntKind} {w : World} {base n : Nat} {e : TypeId} {v : Value} {zs : List Int} (h : w.ownsRow base e 1 v n (zs.map (Value.int k))) (hw : ∀ z ∈ zs, (Lit.int k z).wf = true) : IntsIn k (fun b => v.ownBlock = some b) w v zs := by
  have hl : zs.length = n := by have := h.1; simpa using this
  subst hl
  by_cases hn : 0 < zs.length
  · obtain ⟨g, cap, rfl, hb, hlt, hc1, hc2, hc⟩ := own_open h hn
    refine ⟨_, cap, rfl, by omega, hw, fun _ => ⟨g, 0, rfl, rfl, fun i hi => ?_⟩⟩
    rw [Nat.zero_add, hc i (by omega)]
    simp [List.getD_eq_getElem?_getD, List.getElem?_eq_getElem hi]
  · rcases h.2 with ⟨rfl, h0⟩ | ⟨g, cap, cur, rfl, hb, hh, hc1, hc2, _⟩
    · exact ⟨none, 0, by simp; omega, by unfold maxLen; omega, hw, fun h => absurd h hn⟩
    · exact ⟨_, cap, rfl, by omega, hw, fun h => absurd h hn⟩
def RowCells (F : Nat → Prop) (w : World) (cs : List Value) (ll : List (List Int)) : Prop := ∀ i, i < ll.length → ∃ r, cs[i]? = some r ∧ IntsIn .i64 F w r (rowAt ll i)
theorem RowCells.keep {F : Nat → Prop} {w w' : World} {cs : List Value} {ll : List (List Int)} (h : RowCells F w cs ll) (hs : Same F w w') : RowCells F w' cs ll := fun i hi => by
  obtain ⟨r, h1, h2⟩ := h i hi
  exact ⟨r, h1, h2.keep hs⟩
theorem RowCells.more {F F' : Nat → Prop} {w : World} {cs : List Value} {ll : List (List Int)} (h : RowCells F w cs ll) (hF : ∀ b, F b → F' b) : RowCells F' w cs ll := fun i hi => by
  obtain ⟨r, h1, h2⟩ := h i hi
  exact ⟨r, h1, h2.more hF⟩
theorem RowCells.snoc {F : Nat → Prop} {w : World} {cs : List Value} {ll : List (List Int)} {u : Value} {row : List Int} (h : RowCells F w cs ll) (hl : cs.length = ll.length) (hu : IntsIn .i64 F w u row) : RowCells F w (cs ++ [u]) (ll ++ [row]) := by
  refine rows_join hl h ?_
  intro i hi
  simp at hi; subst hi
  exact ⟨u, rfl, hu⟩
/-- a row that is owned, whole, in a block of F -/
def OwnIn (F : Nat → Prop) (w : World) (r : Value) (zs : List Int) : Prop := w.ownsRow 0 3 1 r zs.length (zs.map (Value.int .i64)) ∧ ∀ b, r.ownBlock = some b → F b
theorem OwnIn.keep {F : Nat → Prop} {w w' : World} {r : Value} {zs : List Int} (h : OwnIn F w r zs) (hs : Same F w w') : OwnIn F w' r zs := ⟨own_keep h.1 fun k hk => hs k (h.2 k hk), h.2⟩
theorem OwnIn.more {F F' : Nat → Prop} {w : World} {r : Value} {zs : List Int} (h : OwnIn F w r zs) (hF : ∀ b, F b → F' b) : OwnIn F' w r zs := ⟨h.1, fun b hb => hF b (h.2 b hb)⟩
def RowOwn (F : Nat → Prop) (w : World) (cs : List Value) (ll : List (List Int)) : Prop := ∀ i, i < ll.length → ∃ r, cs[i]? = some r ∧ OwnIn F w r (rowAt ll i)
theorem RowOwn.keep {F : Nat → Prop} {w w' : World} {cs : List Value} {ll : List (List Int)} (h : RowOwn F w cs ll) (hs : Same F w w') : RowOwn F w' cs ll := fun i hi => by
  obtain ⟨r, h1, h2⟩ := h i hi
  exact ⟨r, h1, h2.keep hs⟩
theorem RowOwn.more {F F' : Nat → Prop} {w : World} {cs : List Value} {ll : List (List Int)} (h : RowOwn F w cs ll) (hF : ∀ b, F b → F' b) : RowOwn F' w cs ll := fun i hi => by
  obtain ⟨r, h1, h2⟩ := h i hi
  exact ⟨r, h1, h2.more hF⟩
theorem RowOwn.snoc {F : Nat → Prop} {w : World} {cs : List Value} {ll : List (List Int)} {u : Value} {row : List Int} (h : RowOwn F w cs ll) (hl : cs.length = ll.length) (hu : OwnIn F w u row) : RowOwn F w (cs ++ [u]) (ll ++ [row]) := by
  intro i hi
  rw [rowAt_append]
  by_cases e : i < ll.length
  · rw [if_pos e, List.getElem?_append_left (by omega)]; exact h i e
  · have e2 : i = ll.length := by simp at hi; omega
    subst e2
    rw [if_neg e, Nat.sub_self, List.getElem?_append_right (by omega), hl, Nat.sub_self]
    exact ⟨u, rfl, hu⟩
/-- a machine whose rows are owned, each by itself whole -/
def OwnM (B : Nat) (F : Nat → Prop) (w : World) (o n : Value) (m : MachD) : Prop := ∃ c1 c2, w.ownsRow B 29 1 o m.out.length c1 ∧ w.ownsRow B 29 1 n m.next.length c2 ∧ RowOwn F w c1 m.out ∧ RowOwn F w c2 m.next
/-- a block of what was told, below C, and of none of the rows that grow -/
structure LFree (A C bo : Nat) (ov h1 h2 : Value) (b : Nat) : Prop where
  ge : A ≤ b
  lt : b < C
  nb : b ≠ bo
  no : ov.ownBlock ≠ some b
  n1 : h1.ownBlock ≠ some b
  n2 : h2.ownBlock ≠ some b
structure LInv (A B C bo : Nat) (ov h1 h2 : Value) (c1 c2 : List Value) (w : World) (o : List Int) (l1 l2 : List (List Int)) : Prop where
  ord : w.ownsRow B 3 1 ov o.length (o.map (Value.int .i64))
  box : w.heap[bo]? = some (.cells #[h1, h2] 24 (0, 0))
  o1 : w.ownsRow B 29 1 h1 l1.length c1
  o2 : w.ownsRow B 29 1 h2 l2.length c2
  r1 : RowCells (LFree A C bo ov h1 h2) w c1 l1
  r2 : RowCells (LFree A C bo ov h1 h2) w c2 l2
  lo : B ≤ bo
  la : A ≤ B
  hi : C ≤ w.heap.size
  b0 : ov.ownBlock ≠ some bo
  b1 : h1.ownBlock ≠ some bo
  b2 : h2.ownBlock ≠ some bo
  m1 : ∀ b, ov.ownBlock = some b → h1.ownBlock ≠ some b
  m2 : ∀ b, ov.ownBlock = some b → h2.ownBlock ≠ some b
  m3 : ∀ b, h1.ownBlock = some b → h2.ownBlock ≠ some b
  p1 : RowOwn (LFree A C bo ov h1 h2) w c1 l1
  p2 : RowOwn (LFree A C bo ov h1 h2) w c2 l2
section
variable {A B C bo : Nat} {ov h1 h2 : Value} {c1 c2 : List Value} {w w' : World} {o : List Int} {l1 l2 : List (List Int)}
theorem LInv.below (h : LInv A B C bo ov h1 h2 c1 c2 w o l1 l2) (hb : Below w.heap.size w w') : LInv A B C bo ov h1 h2 c1 c2 w' o l1 l2 :=
  have hs := hb.size
  have hf : ∀ b, LFree A C bo ov h1 h2 b → b < w.heap.size := fun _b k => Nat.lt_of_lt_of_le k.lt h.hi
  ⟨own_below h.ord hb, Has.below h.box hb (Has.lt h.box), own_below h.o1 hb, own_below h.o2 hb, h.r1.keep (Same.of_below hb hf), h.r2.keep (Same.of_below hb hf), h.lo, h.la, Nat.le_trans h.hi hs, h.b0, h.b1, h.b2, h.m1, h.m2, h.m3, h.p1.keep (Same.of_below hb hf), h.p2.keep (Same.of_below hb hf)⟩
theorem LInv.raise (h : LInv A B C bo ov h1 h2 c1 c2 w o l1 l2) {C' : Nat} (h' : C ≤ C') (hi : C' ≤ w.heap.size) : LInv A B C' bo ov h1 h2 c1 c2 w o l1 l2 :=
  have hm : ∀ b, LFree A C bo ov h1 h2 b → LFree A C' bo ov h1 h2 b := fun _b k => ⟨k.ge, Nat.lt_of_lt_of_le k.lt h', k.nb, k.no, k.n1, k.n2⟩
  ⟨h.ord, h.box, h.o1, h.o2, h.r1.more hm, h.r2.more hm, h.lo, h.la, hi, h.b0, h.b1, h.b2, h.m1, h.m2, h.m3, h.p1.more hm, h.p2.more hm⟩
/-- another row grows -/
theorem LInv.other (h : LInv A B C bo ov h1 h2 c1 c2 w o l1 l2) {row : Option Nat} (hg : w.grownBy w' row) (hr : ∀ b, row = some b → C ≤ b ∧ b ≠ bo ∧ ov.ownBlock ≠ some b ∧ h1.ownBlock ≠ some b ∧ h2.ownBlock ≠ some b) : LInv A B C bo ov h1 h2 c1 c2 w' o l1 l2 := by
  have k0 : ∀ {v : Value}, (∀ b, row = some b → v.ownBlock ≠ some b) → ∀ k, v.ownBlock = some k → k < w.heap.size → w'.heap[k]? = w.heap[k]? := fun hv k hk hlt => hg.block k hlt (fun e => hv k e.symm hk)
  have hs : Same (LFree A C bo ov h1 h2) w w' := fun b hb => hg.block b (Nat.lt_of_lt_of_le hb.lt h.hi) (fun e => by have := hr b e.symm; have := hb.lt; omega)
  exact ⟨own_keep h.ord fun k hk => k0 (fun b hb => (hr b hb).2.2.1) k hk (own_lt h.ord k hk), Has.grown h.box hg (fun e => (hr bo e.symm).2.1 rfl),
    own_keep h.o1 fun k hk => k0 (fun b hb => (hr b hb).2.2.2.1) k hk (own_lt h.o1 k hk), own_keep h.o2 fun k hk => k0 (fun b hb => (hr b hb).2.2.2.2) k hk (own_lt h.o2 k hk),
    h.r1.keep hs, h.r2.keep hs, h.lo, h.la, Nat.le_trans h.hi hg.size, h.b0, h.b1, h.b2, h.m1, h.m2, h.m3, h.p1.keep hs, h.p2.keep hs⟩
theorem LInv.ordApp (h : LInv A B C bo ov h1 h2 c1 c2 w o l1 l2) {ov' : Value} {o' : List Int} (hown : w'.ownsRow B 3 1 ov' o'.length (o'.map (Value.int .i64))) (hg : w.grownBy w' ov.ownBlock) (hat : ov'.ownBlock = ov.ownBlock ∨ ov'.ownBlock = some w.heap.size) :
    LInv A B C bo ov' h1 h2 c1 c2 w' o' l1 l2 := by
  have l1' := own_lt h.o1
  have l2' := own_lt h.o2
  have lb := Has.lt h.box
  have hs : Same (LFree A C bo ov h1 h2) w w' := fun b hb => hg.block b (Nat.lt_of_lt_of_le hb.lt h.hi) (fun e => hb.no e.symm)
  have far : ∀ b, b < w.heap.size → ov.ownBlock ≠ some b → ov'.ownBlock ≠ some b := fun b hb hn e => by
    rcases hat with k | k
    · exact hn (k ▸ e)
    · rw [k] at e; injection e with e; omega
  have hm : ∀ b, LFree A C bo ov h1 h2 b → LFree A C bo ov' h1 h2 b := fun b k => ⟨k.ge, k.lt, k.nb, far b (Nat.lt_of_lt_of_le k.lt h.hi) k.no, k.n1, k.n2⟩
  exact ⟨hown, Has.grown h.box hg (fun e => h.b0 e.symm), own_keep h.o1 fun k hk => hg.block k (l1' k hk) (fun e => h.m1 k e.symm hk), own_keep h.o2 fun k hk => hg.block k (l2' k hk) (fun e => h.m2 k e.symm hk),
    (h.r1.keep hs).more hm, (h.r2.keep hs).more hm, h.lo, h.la, Nat.le_trans h.hi hg.size, far bo lb h.b0, h.b1, h.b2,
    fun b hb hc => far b (l1' b hc) (fun e => h.m1 b e hc) hb, fun b hb hc => far b (l2' b hc) (fun e => h.m2 b e hc) hb, h.m3, (h.p1.keep hs).more hm, (h.p2.keep hs).more hm⟩
theorem LInv.outApp (h : LInv A B C bo ov h1 h2 c1 c2 w o l1 l2) {v' u : Value} {row : List Int} (hown : w'.ownsRow B 29 1 v' (l1.length + 1) (c1 ++ [u])) (hg : w.grownBy w' h1.ownBlock) (hat : v'.ownBlock = h1.ownBlock ∨ v'.ownBlock = some w.heap.size) (hu : IntsIn .i64 (LFree A C bo ov h1 h2) w u row) (ho : OwnIn (LFree A C bo ov h1 h2) w u row) :
    LInv A B C bo ov v' h2 (c1 ++ [u]) c2 (w'.setCell ⟨bo, 0, none⟩ v') o (l1 ++ [row]) l2 := by
  have l0' := own_lt h.ord
  have l2' := own_lt h.o2
  have lb := Has.lt h.box
  have hs : Same (LFree A C bo ov h1 h2) w (w'.setCell ⟨bo, 0, none⟩ v') := fun b hb => (Below.heap_setCell w' _ _ b hb.nb).trans (hg.block b (Nat.lt_of_lt_of_le hb.lt h.hi) (fun e => hb.n1 e.symm))
  have far : ∀ b, b < w.heap.size → h1.ownBlock ≠ some b → v'.ownBlock ≠ some b := fun b hb hn e => by
    rcases hat with k | k
    · exact hn (k ▸ e)
    · rw [k] at e; injection e with e; omega
  have hm : ∀ b, LFree A C bo ov h1 h2 b → LFree A C bo ov v' h2 b := fun b k => ⟨k.ge, k.lt, k.nb, k.no, far b (Nat.lt_of_lt_of_le k.lt h.hi) k.n1, k.n2⟩
  have b1' := far bo lb h.b1
  have hb := Has.grown h.box hg (fun e => h.b1 e.symm)
  have hb2 := Has.set hb 0 v'
  have kk : ∀ k, k ≠ bo → (w'.setCell ⟨bo, 0, none⟩ v').heap[k]? = w'.heap[k]? := fun k hk => Below.heap_setCell w' _ _ k hk
  refine ⟨own_keep h.ord fun k hk => (kk k fun e => h.b0 (e ▸ hk)).trans (hg.block k (l0' k hk) (fun e => h.m1 k hk e.symm)), by simpa using hb2,
    by rw [List.length_append]; exact own_keep hown fun k hk => kk k fun e => b1' (e ▸ hk), own_keep h.o2 fun k hk => (kk k fun e => h.b2 (e ▸ hk)).trans (hg.block k (l2' k hk) (fun e => h.m3 k e.symm hk)),
    ((h.r1.snoc (by have := h.o1.1; omega) hu).keep hs).more hm, (h.r2.keep hs).more hm, h.lo, h.la, by have := hg.size; have := h.hi; simp; omega, h.b0, b1', h.b2,
    fun b hb hc => far b (l0' b hb) (h.m1 b hb) hc, h.m2, fun b hb hc => far b (l2' b hc) (fun e => h.m3 b e hc) hb, ((h.p1.snoc (by have := h.o1.1; omega) ho).keep hs).more hm, (h.p2.keep hs).more hm⟩
theorem LInv.nextApp (h : LInv A B C bo ov h1 h2 c1 c2 w o l1 l2) {v' u : Value} {row : List Int} (hown : w'.ownsRow B 29 1 v' (l2.length + 1) (c2 ++ [u])) (hg : w.grownBy w' h2.ownBlock) (hat : v'.ownBlock = h2.ownBlock ∨ v'.ownBlock = some w.heap.size) (hu : IntsIn .i64 (LFree A C bo ov h1 h2) w u row) (ho : OwnIn (LFree A C bo ov h1 h2) w u row) :
    LInv A B C bo ov h1 v' c1 (c2 ++ [u]) (w'.setCell ⟨bo, 1, none⟩ v') o l1 (l2 ++ [row]) := by
  have l0' := own_lt h.ord
  have l1' := own_lt h.o1
  have lb := Has.lt h.box
  have hs : Same (LFree A C bo ov h1 h2) w (w'.setCell ⟨bo, 1, none⟩ v') := fun b hb => (Below.heap_setCell w' _ _ b hb.nb).trans (hg.block b (Nat.lt_of_lt_of_le hb.lt h.hi) (fun e => hb.n2 e.symm))
  have far : ∀ b, b < w.heap.size → h2.ownBlock ≠ some b → v'.ownBlock ≠ some b := fun b hb hn e => by
    rcases hat with k | k
    · exact hn (k ▸ e)
    · rw [k] at e; injection e with e; omega
  have hm : ∀ b, LFree A C bo ov h1 h2 b → LFree A C bo ov h1 v' b := fun b k => ⟨k.ge, k.lt, k.nb, k.no, k.n1, far b (Nat.lt_of_lt_of_le k.lt h.hi) k.n2⟩
  have b2' := far bo lb h.b2
  have hb := Has.grown h.box hg (fun e => h.b2 e.symm)
  have hb2 := Has.set hb 1 v'
  have kk : ∀ k, k ≠ bo → (w'.setCell ⟨bo, 1, none⟩ v').heap[k]? = w'.heap[k]? := fun k hk => Below.heap_setCell w' _ _ k hk
  refine ⟨own_keep h.ord fun k hk => (kk k fun e => h.b0 (e ▸ hk)).trans (hg.block k (l0' k hk) (fun e => h.m2 k hk e.symm)), by simpa using hb2,
    own_keep h.o1 fun k hk => (kk k fun e => h.b1 (e ▸ hk)).trans (hg.block k (l1' k hk) (fun e => h.m3 k hk e.symm)), by rw [List.length_append]; exact own_keep hown fun k hk => kk k fun e => b2' (e ▸ hk),
    (h.r1.keep hs).more hm, ((h.r2.snoc (by have := h.o2.1; omega) hu).keep hs).more hm, h.lo, h.la, by have := hg.size; have := h.hi; simp; omega, h.b0, h.b1, b2',
    h.m1, fun b hb hc => far b (l0' b hb) (h.m2 b hb) hc, fun b hb hc => far b (l1' b hb) (h.m3 b hb) hc, (h.p1.keep hs).more hm, ((h.p2.snoc (by have := h.o2.1; omega) ho).keep hs).more hm⟩
/-- the row that a round builds, apart from what is told -/
structure RowSep (A C bo : Nat) (ov h1 h2 rv : Value) (w : World) : Prop where
  at_ : ∀ b, rv.ownBlock = some b → C ≤ b ∧ LFree A w.heap.size bo ov h1 h2 b
theorem LInv.rowApp (h : LInv A B C bo ov h1 h2 c1 c2 w o l1 l2) {rv rv' : Value} (hs : RowSep A C bo ov h1 h2 rv w) (hg : w.grownBy w' rv.ownBlock) (hat : rv'.ownBlock = rv.ownBlock ∨ rv'.ownBlock = some w.heap.size) (hl : ∀ k, rv'.ownBlock = some k → k < w'.heap.size) :
    LInv A B C bo ov h1 h2 c1 c2 w' o l1 l2 ∧ RowSep A C bo ov h1 h2 rv' w' := by
  refine ⟨h.other hg fun b hb => ⟨(hs.at_ b hb).1, (hs.at_ b hb).2.nb, (hs.at_ b hb).2.no, (hs.at_ b hb).2.n1, (hs.at_ b hb).2.n2⟩, ⟨fun b hb => ?_⟩⟩
  have s1 := hg.size
  have old : rv.ownBlock = some b → C ≤ b ∧ LFree A w'.heap.size bo ov h1 h2 b := fun k => by
    have := hs.at_ b k
    exact ⟨this.1, this.2.ge, by have := this.2.lt; omega, this.2.nb, this.2.no, this.2.n1, this.2.n2⟩
  rcases hat with k | k
  · exact old (k ▸ hb)
  · have hlt := hl _ k
    rw [k] at hb; injection hb with hb; subst hb
    have e0 := Has.lt h.box
    have e1 := h.hi
    have e2 := h.lo
    have e3 := h.la
    exact ⟨e1, by omega, hlt, by omega, fun e => by have := own_lt h.ord _ e; omega, fun e => by have := own_lt h.o1 _ e; omega, fun e => by have := own_lt h.o2 _ e; omega⟩
theorem RowSep.ord {rv ov' : Value} (hs : RowSep A C bo ov h1 h2 rv w) (hg : w.heap.size ≤ w'.heap.size) (hat : ov'.ownBlock = ov.ownBlock ∨ ov'.ownBlock = some w.heap.size) : RowSep A C bo ov' h1 h2 rv w' := ⟨fun b hb => by
  obtain ⟨k1, k2⟩ := hs.at_ b hb
  refine ⟨k1, k2.ge, by have := k2.lt; omega, k2.nb, fun e => ?_, k2.n1, k2.n2⟩
  rcases hat with k | k
  · exact k2.no (k ▸ e)
  · rw [k] at e; injection e with e; have := k2.lt; omega⟩
theorem RowSep.size {rv : Value} (hs : RowSep A C bo ov h1 h2 rv w) (hg : w.heap.size ≤ w'.heap.size) : RowSep A C bo ov h1 h2 rv w' := hs.ord hg (.inl rfl)
theorem RowSep.ne {rv : Value} (hs : RowSep A C bo ov h1 h2 rv w) : rv.ownBlock = none ∨ rv.ownBlock ≠ ov.ownBlock := by
  cases h : rv.ownBlock with
  | none => exact .inl rfl
  | some b => exact .inr fun e => (hs.at_ b h).2.no e.symm
theorem LInv.fresh (h : LInv A B C bo ov h1 h2 c1 c2 w o l1 l2) {b C' : Nat} (hb : w.heap.size ≤ b) (hc : b < C') : LFree A C' bo ov h1 h2 b := by
  have e0 := Has.lt h.box
  have e1 := h.hi
  have e2 := h.lo
  have e3 := h.la
  exact ⟨by omega, hc, by omega, fun e => by have := own_lt h.ord _ e; omega, fun e => by have := own_lt h.o1 _ e; omega, fun e => by have := own_lt h.o2 _ e; omega⟩
theorem LInv.low (h : LInv A B C bo ov h1 h2 c1 c2 w o l1 l2) {b C' : Nat} (ha : A ≤ b) (hb : b < B) (hc : b < C') : LFree A C' bo ov h1 h2 b := by
  have e2 := h.lo
  exact ⟨ha, hc, by omega, fun e => by have := own_ge h.ord _ e; omega, fun e => by have := own_ge h.o1 _ e; omega, fun e => by have := own_ge h.o2 _ e; omega⟩
theorem RowSep.ne1 {rv : Value} (hs : RowSep A C bo ov h1 h2 rv w) : rv.ownBlock = none ∨ rv.ownBlock ≠ h1.ownBlock := by
  cases h : rv.ownBlock with
  | none => exact .inl rfl
  | some b => exact .inr fun e => (hs.at_ b h).2.n1 e.symm
theorem RowSep.out {rv v' : Value} (hs : RowSep A C bo ov h1 h2 rv w) (hg : w.heap.size ≤ w'.heap.size) (hat : v'.ownBlock = h1.ownBlock ∨ v'.ownBlock = some w.heap.size) : RowSep A C bo ov v' h2 rv w' := ⟨fun b hb => by
  obtain ⟨k1, k2⟩ := hs.at_ b hb
  refine ⟨k1, k2.ge, by have := k2.lt; omega, k2.nb, k2.no, fun e => ?_, k2.n2⟩
  rcases hat with k | k
  · exact k2.n1 (k ▸ e)
  · rw [k] at e; injection e with e; have := k2.lt; omega⟩
theorem RowSep.ints {rv : Value} {n : Nat} {e : TypeId} {zs : List Int} (hs : RowSep A C bo ov h1 h2 rv w) (ho : w.ownsRow C e 1 rv n (zs.map (Value.int .i64))) (hw : ∀ z ∈ zs, (Lit.int .i64 z).wf = true) : IntsIn .i64 (LFree A w.heap.size bo ov h1 h2) w rv zs :=
  (ints_block ho hw).more fun b hb => (hs.at_ b hb).2
theorem own_0 {w : World} {base : Nat} {e : TypeId} {n : Nat} {v : Value} {xs : List Value} (h : w.ownsRow base e 1 v n xs) : w.ownsRow 0 e 1 v n xs := by
  refine ⟨h.1, ?_⟩
  rcases h.2 with h | ⟨g, cap, cur, e, k1, k2⟩
  · exact .inl h
  · exact .inr ⟨g, cap, cur, e, Nat.zero_le _, k2⟩
theorem own_base {w : World} {base base' : Nat} {e : TypeId} {size n : Nat} {v : Value} {xs : List Value} (h : w.ownsRow base e size v n xs) (hb : base' ≤ base) : w.ownsRow base' e size v n xs := by
  refine ⟨h.1, ?_⟩
  rcases h.2 with h | ⟨g, cap, cur, e, k1, k2⟩
  · exact .inl h
  · exact .inr ⟨g, cap, cur, e, by omega, k2⟩
theorem own_in {w : World} {base n : Nat} {v : Value} {zs : List Int} (h : w.ownsRow base 3 1 v n (zs.map (Value.int .i64))) : w.ownsRow 0 3 1 v zs.length (zs.map (Value.int .i64)) := by
  have hl : zs.length = n := by have := h.1; simpa using this
  subst hl
  exact own_0 h
theorem RowSep.owned {rv : Value} {n : Nat} {zs : List Int} (hs : RowSep A C bo ov h1 h2 rv w) (ho : w.ownsRow C 3 1 rv n (zs.map (Value.int .i64))) : OwnIn (LFree A w.heap.size bo ov h1 h2) w rv zs := ⟨own_in ho, fun b hb => (hs.at_ b hb).2⟩
theorem LInv.own (h : LInv A B C bo ov h1 h2 c1 c2 w o l1 l2) : OwnM B (fun b => A ≤ b ∧ b < w.heap.size) w h1 h2 ⟨l1, l2⟩ :=
  have hm : ∀ b, LFree A C bo ov h1 h2 b → A ≤ b ∧ b < w.heap.size := fun _b k => ⟨k.ge, Nat.lt_of_lt_of_le k.lt h.hi⟩
  ⟨c1, c2, h.o1, h.o2, h.p1.more hm, h.p2.more hm⟩
/-- the machine told -/
theorem LInv.mach (h : LInv A B C bo ov h1 h2 c1 c2 w o l1 l2) : MachIn (fun b => A ≤ b ∧ b < w.heap.size) w (.agg #[h1, h2]) ⟨l1, l2⟩ :=
  have hm : ∀ b, LFree A C bo ov h1 h2 b → A ≤ b ∧ b < w.heap.size := fun _b k => ⟨k.ge, Nat.lt_of_lt_of_le k.lt h.hi⟩
  ⟨h1, h2, rfl, rows_of_own h.o1 rfl (h.r1.more hm) fun _b k1 k2 => ⟨Nat.le_trans h.la k1, k2⟩, rows_of_own h.o2 rfl (h.r2.more hm) fun _b k1 k2 => ⟨Nat.le_trans h.la k1, k2⟩⟩
end
theorem infoRowL : (Tryd.prog.info? 29).map (fun i => (i.zero, i.size, i.bytes)) = some (some (.slice none 0 0), 1, 24) := by kernel_rfl
theorem cells_one (w : World) (x : Value) (t : TypeId) : CellsIn (fun b => b = w.heap.size) (w.alloc (.cells #[x] t)) 1 (.slice (some ⟨w.heap.size, 0, none⟩) 1 1) 1 [x] :=
  ⟨_, 1, rfl, rfl, fun _ => ⟨w.heap.size, 0, rfl, rfl, fun j u hj => by
    match j, hj with
    | 0, hj => simp at hj; subst hj; simp⟩⟩
theorem cells_oneAt (w : World) (x : Value) (t : TypeId) {g : Nat} (hg : g = w.heap.size) : CellsIn (fun b => b = g) (w.alloc (.cells #[x] t)) 1 (.slice (some ⟨g, 0, none⟩) 1 1) 1 [x] := by
  subst hg; exact cells_one w x t
end Go.Proofs.YtkcggmhllijgcaaDoor
