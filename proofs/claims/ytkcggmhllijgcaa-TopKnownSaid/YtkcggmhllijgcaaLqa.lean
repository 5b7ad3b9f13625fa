/- Two rows of rows of one machine grow in one statement, in whatever order. No conditions. -/
import Derived.Test.YtkcggmhllijgcaaLqc
namespace Go.Proofs.Ytkcggmhllijgcaa
open Go.RowKit Go.Deep
/-- what holds on the way: effect, both rows (grown or not), both literals -/
structure TwoApp (B : Nat) (h1 h2 : Value) (w0 : World) (v1 v2 : Value) (n1 n2 : Nat) (x1 x2 : List Value) (w : World) : Prop where
  os : w.os = w0.os
  tape : w.tape = w0.tape
  output : w.output = w0.output
  size : w0.heap.size ≤ w.heap.size
  block : ∀ b, b < w0.heap.size → h1.ownBlock ≠ some b → h2.ownBlock ≠ some b → w.heap[b]? = w0.heap[b]?
  o1 : w.ownsRow B 29 1 v1 n1 x1
  o2 : w.ownsRow B 29 1 v2 n2 x2
  a1 : v1.ownBlock = h1.ownBlock ∨ ∃ b, v1.ownBlock = some b ∧ w0.heap.size ≤ b
  a2 : v2.ownBlock = h2.ownBlock ∨ ∃ b, v2.ownBlock = some b ∧ w0.heap.size ≤ b
  m : ∀ b, v1.ownBlock = some b → v2.ownBlock ≠ some b
/-- a literal row of one, made on the way -/
def LitAt (w0 : World) (v1 v2 : Value) (g : Nat) (u : Value) (w : World) : Prop := w.heap[g]? = some (.cells #[u] 29 (0, 0)) ∧ w0.heap.size ≤ g ∧ v1.ownBlock ≠ some g ∧ v2.ownBlock ≠ some g
section
variable {B n1 n2 g : Nat} {h1 h2 v1 v2 v' u : Value} {x1 x2 x' : List Value} {w0 w w' : World} {o : Obj}
theorem TwoApp.alloc (h : TwoApp B h1 h2 w0 v1 v2 n1 n2 x1 x2 w) (o : Obj) : TwoApp B h1 h2 w0 v1 v2 n1 n2 x1 x2 (w.alloc o) :=
  ⟨h.os, h.tape, h.output, by have := h.size; simp; omega, fun b hb k1 k2 => (Below.heap_alloc w o b (by have := h.size; omega)).trans (h.block b hb k1 k2), h.o1.alloc o, h.o2.alloc o, h.a1, h.a2, h.m⟩
theorem LitAt.new (h : TwoApp B h1 h2 w0 v1 v2 n1 n2 x1 x2 w) (u : Value) (hg : g = w.heap.size) : LitAt w0 v1 v2 g u (w.alloc (.cells #[u] 29)) := by
  subst hg
  exact ⟨Has.new w _, h.size, fun e => by have := own_lt h.o1 _ e; omega, fun e => by have := own_lt h.o2 _ e; omega⟩
theorem LitAt.alloc (h : LitAt w0 v1 v2 g u w) (o : Obj) : LitAt w0 v1 v2 g u (w.alloc o) := ⟨Has.alloc h.1 o, h.2⟩
theorem LitAt.cells (h : LitAt w0 v1 v2 g u w) : CellsIn (fun b => b = g) w 1 (.slice (some ⟨g, 0, none⟩) 1 1) 1 [u] :=
  ⟨_, 1, rfl, rfl, fun _ => ⟨g, 0, rfl, rfl, fun j x hj => by
    match j, hj with
    | 0, hj => simp at hj; subst hj; exact (Has.cell h.1 0).trans rfl⟩⟩
theorem TwoApp.app1 (h : TwoApp B h1 h2 w0 v1 v2 n1 n2 x1 x2 w) (h1s : v1.ownBlock = h1.ownBlock) (hown : w'.ownsRow B 29 1 v' (n1 + 1) x') (hg : w.grownBy w' v1.ownBlock) (hat : v'.ownBlock = v1.ownBlock ∨ v'.ownBlock = some w.heap.size) :
    TwoApp B h1 h2 w0 v' v2 (n1 + 1) n2 x' x2 w' := by
  have s := h.size
  have l2 := own_lt h.o2
  refine ⟨hg.os.trans h.os, hg.tape.trans h.tape, hg.output.trans h.output, by have := hg.size; omega, fun b hb k1 k2 => (hg.block b (by omega) (fun e => k1 (by rw [← h1s, e]))).trans (h.block b hb k1 k2), hown, own_keep h.o2 fun k hk => hg.block k (l2 k hk) (fun e => h.m k e.symm hk), ?_, h.a2, fun b hb hc => ?_⟩
  · rcases hat with e | e
    · exact .inl (e.trans h1s)
    · exact .inr ⟨_, e, s⟩
  · rcases hat with e | e
    · exact h.m b (by rw [← e]; exact hb) hc
    · rw [e] at hb; injection hb with hb; have := l2 b hc; omega
theorem LitAt.app1 (h : TwoApp B h1 h2 w0 v1 v2 n1 n2 x1 x2 w) (hl : LitAt w0 v1 v2 g u w) (hg : w.grownBy w' v1.ownBlock) (hat : v'.ownBlock = v1.ownBlock ∨ v'.ownBlock = some w.heap.size) : LitAt w0 v' v2 g u w' := by
  refine ⟨(hg.block g (Has.lt hl.1) (fun e => hl.2.2.1 e.symm)).trans hl.1, hl.2.1, fun e => ?_, hl.2.2.2⟩
  rcases hat with k | k
  · exact hl.2.2.1 (k ▸ e)
  · rw [k] at e; injection e with e; have := Has.lt hl.1; omega
theorem TwoApp.app2 (h : TwoApp B h1 h2 w0 v1 v2 n1 n2 x1 x2 w) (h2s : v2.ownBlock = h2.ownBlock) (hown : w'.ownsRow B 29 1 v' (n2 + 1) x') (hg : w.grownBy w' v2.ownBlock) (hat : v'.ownBlock = v2.ownBlock ∨ v'.ownBlock = some w.heap.size) :
    TwoApp B h1 h2 w0 v1 v' n1 (n2 + 1) x1 x' w' := by
  have s := h.size
  have l1 := own_lt h.o1
  refine ⟨hg.os.trans h.os, hg.tape.trans h.tape, hg.output.trans h.output, by have := hg.size; omega, fun b hb k1 k2 => (hg.block b (by omega) (fun e => k2 (by rw [← h2s, e]))).trans (h.block b hb k1 k2), own_keep h.o1 fun k hk => hg.block k (l1 k hk) (fun e => h.m k hk e.symm), hown, h.a1, ?_, fun b hb hc => ?_⟩
  · rcases hat with e | e
    · exact .inl (e.trans h2s)
    · exact .inr ⟨_, e, s⟩
  · rcases hat with e | e
    · exact h.m b hb (by rw [← e]; exact hc)
    · rw [e] at hc; injection hc with hc; have := l1 b hb; omega
theorem LitAt.app2 (h : TwoApp B h1 h2 w0 v1 v2 n1 n2 x1 x2 w) (hl : LitAt w0 v1 v2 g u w) (hg : w.grownBy w' v2.ownBlock) (hat : v'.ownBlock = v2.ownBlock ∨ v'.ownBlock = some w.heap.size) : LitAt w0 v1 v' g u w' := by
  refine ⟨(hg.block g (Has.lt hl.1) (fun e => hl.2.2.2 e.symm)).trans hl.1, hl.2.1, hl.2.2.1, fun e => ?_⟩
  rcases hat with k | k
  · exact hl.2.2.2 (k ▸ e)
  · rw [k] at e; injection e with e; have := Has.lt hl.1; omega
end
/-- what machine has of the heap: a box, its two rows of rows, all above B -/
structure MM (B bo : Nat) (h1 h2 : Value) (c1 c2 : List Value) (l1 l2 : List (List Int)) (w : World) : Prop where
  box : w.heap[bo]? = some (.cells #[h1, h2] 24 (0, 0))
  o1 : w.ownsRow B 29 1 h1 l1.length c1
  o2 : w.ownsRow B 29 1 h2 l2.length c2
  r1 : RowCells (LF B bo h1 h2 w) w c1 l1
  r2 : RowCells (LF B bo h1 h2 w) w c2 l2
  lo : B ≤ bo
  b1 : h1.ownBlock ≠ some bo
  b2 : h2.ownBlock ≠ some bo
  m : ∀ b, h1.ownBlock = some b → h2.ownBlock ≠ some b
section
variable {B bo n1 n2 : Nat} {h1 h2 v1 v2 u1 u2 : Value} {c1 c2 : List Value} {l1 l2 : List (List Int)} {q1 q2 : List Int} {w w' : World} {r : Option Nat}
theorem MM.gr (h : MM B bo h1 h2 c1 c2 l1 l2 w) (hg : w.grownBy w' r) (hr : ∀ b, r = some b → b < B) : MM B bo h1 h2 c1 c2 l1 l2 w' := by
  have nr : ∀ b, B ≤ b → some b ≠ r := fun b hb e => by have := hr b e.symm; omega
  have hs : Same (LF B bo h1 h2 w) w w' := fun b hb => gr_block hg hb.2.1 (nr b hb.1)
  have hm : ∀ b, LF B bo h1 h2 w b → LF B bo h1 h2 w' b := fun b hb => ⟨hb.1, Nat.lt_of_lt_of_le hb.2.1 hg.size, hb.2.2⟩
  exact ⟨(gr_block hg (Has.lt h.box) (nr bo h.lo)).trans h.box, own_gr h.o1 hg hr, own_gr h.o2 hg hr, (h.r1.keep hs).more hm, (h.r2.keep hs).more hm, h.lo, h.b1, h.b2, h.m⟩
theorem MM.start (h : MM B bo h1 h2 c1 c2 l1 l2 w) : TwoApp B h1 h2 w h1 h2 l1.length l2.length c1 c2 w :=
  ⟨rfl, rfl, rfl, Nat.le_refl _, fun _ _ _ _ => rfl, h.o1, h.o2, .inl rfl, .inl rfl, h.m⟩
theorem MM.done (h : MM B bo h1 h2 c1 c2 l1 l2 w) (t : TwoApp B h1 h2 w v1 v2 (l1.length + 1) (l2.length + 1) (c1 ++ [u1]) (c2 ++ [u2]) w') (hu1 : IntsIn .i64 (LF B bo h1 h2 w) w u1 q1) (hu2 : IntsIn .i64 (LF B bo h1 h2 w) w u2 q2) :
    MM B bo v1 v2 (c1 ++ [u1]) (c2 ++ [u2]) (l1 ++ [q1]) (l2 ++ [q2]) ((w'.setCell ⟨bo, 0, none⟩ v1).setCell ⟨bo, 1, none⟩ v2) := by
  have lb := Has.lt h.box
  have hs : Same (LF B bo h1 h2 w) w ((w'.setCell ⟨bo, 0, none⟩ v1).setCell ⟨bo, 1, none⟩ v2) := fun b hb => (Below.heap_setCell _ _ _ b hb.2.2.1).trans ((Below.heap_setCell w' _ _ b hb.2.2.1).trans (t.block b hb.2.1 hb.2.2.2.1 hb.2.2.2.2))
  have far1 : ∀ b, b < w.heap.size → h1.ownBlock ≠ some b → v1.ownBlock ≠ some b := fun b hb hn e => by
    rcases t.a1 with k | ⟨c, k, hc⟩
    · exact hn (k ▸ e)
    · rw [k] at e; injection e with e; omega
  have far2 : ∀ b, b < w.heap.size → h2.ownBlock ≠ some b → v2.ownBlock ≠ some b := fun b hb hn e => by
    rcases t.a2 with k | ⟨c, k, hc⟩
    · exact hn (k ▸ e)
    · rw [k] at e; injection e with e; omega
  have hm : ∀ b, LF B bo h1 h2 w b → LF B bo v1 v2 ((w'.setCell ⟨bo, 0, none⟩ v1).setCell ⟨bo, 1, none⟩ v2) b := fun b k => ⟨k.1, by have := k.2.1; have := t.size; simp; omega, k.2.2.1, far1 b k.2.1 k.2.2.2.1, far2 b k.2.1 k.2.2.2.2⟩
  have b1' := far1 bo lb h.b1
  have b2' := far2 bo lb h.b2
  have hb : w'.heap[bo]? = some (.cells #[h1, h2] 24 (0, 0)) := (t.block bo lb h.b1 h.b2).trans h.box
  have hb2 := Has.set (Has.set hb 0 v1) 1 v2
  have kk : ∀ k, k ≠ bo → ((w'.setCell ⟨bo, 0, none⟩ v1).setCell ⟨bo, 1, none⟩ v2).heap[k]? = w'.heap[k]? := fun k hk => (Below.heap_setCell _ _ _ k hk).trans (Below.heap_setCell w' _ _ k hk)
  exact ⟨by simpa using hb2, by rw [List.length_append]; exact own_keep t.o1 fun k hk => kk k fun e => b1' (e ▸ hk), by rw [List.length_append]; exact own_keep t.o2 fun k hk => kk k fun e => b2' (e ▸ hk),
    ((h.r1.snoc (by have := h.o1.1; omega) hu1).keep hs).more hm, ((h.r2.snoc (by have := h.o2.1; omega) hu2).keep hs).more hm, h.lo, b1', b2', t.m⟩
theorem MM.mach (h : MM B bo h1 h2 c1 c2 l1 l2 w) : MachIn (fun b => B ≤ b ∧ b < w.heap.size) w (.agg #[h1, h2]) ⟨l1, l2⟩ :=
  have hm : ∀ b, LF B bo h1 h2 w b → B ≤ b ∧ b < w.heap.size := fun _b k => ⟨k.1, k.2.1⟩
  ⟨h1, h2, rfl, rows_of_own h.o1 rfl (h.r1.more hm) fun _b k1 k2 => ⟨k1, k2⟩, rows_of_own h.o2 rfl (h.r2.more hm) fun _b k1 k2 => ⟨k1, k2⟩⟩
end
end Go.Proofs.Ytkcggmhllijgcaa
