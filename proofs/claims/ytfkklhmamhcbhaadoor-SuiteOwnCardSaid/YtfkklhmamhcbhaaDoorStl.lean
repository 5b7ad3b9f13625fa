/- The search of suite.Least, a function that calls itself: it leaves the best list found so far in its box, and the list that it was handed as it was. No conditions but those of its call. -/
import Derived.Test.YtfkklhmamhcbhaaDoorStm
import Derived.Test.YtfkklhmamhcbhaaDoorHle
import Derived.Maps.AppendAt
namespace Go.Proofs.YtfkklhmamhcbhaaDoor
open Go.RowKit Go.Deep
/-- append of one cell: the longer row is of the call's own, and the row itself is what it was -/
theorem run_app1 {P : Program} (w : World) (base : Nat) (t ty e : TypeId) (i : TypeInfo) (z : Value) (bytes : Nat) (ht : P.underlying t = some (.slice e)) (hi : P.info? e = some i) (hz : i.zero = some z)
    (hsize : i.size = 1) (hby : i.bytes = bytes) (hzs : z.cells.size = 1) (v : Value) (n : Nat) (xs : List Value) (hown : w.ownsRow base e 1 v n xs) (ad : Addr) (c : Nat) (u : Value) (hu : w.cell? ad = some u) (h1 : u.oneCell' = true)
    (h63 : n + 1 ≤ maxLen) (hbytes : (n + 1) * bytes ≤ 140737488355328) (hbase : base ≤ w.heap.size) :
    ∃ v' w', (Builtin.append_ #[t, t] ty #[v, .slice (some ad) 1 c]).run P w = .ok v' w' ∧ w'.ownsRow base e 1 v' (n + 1) (xs ++ [u]) ∧ w.grownBy w' v.ownBlock ∧ w'.ownsRow base e 1 v n xs ∧ (v'.ownBlock = v.ownBlock ∨ v'.ownBlock = some w.heap.size) := by
  have hnews : ∀ (j : Nat) (u' : Value), [u][j]? = some u' → w.cell? (ad.add j) = some u' := by
    intro j u' hj
    match j, hj with
    | 0, hj => simp at hj; subst hj; simpa [Addr.add] using hu
  have hone : ∀ u' ∈ [u], u'.oneCell' = true := by intro u' h; simp at h; subst h; exact h1
  have hat := run_append_own_at (P := P) w base t ty e i z 1 bytes ht hi hz hsize hby hzs (by decide) v n xs hown ad 1 c [u] rfl hnews hone h63 hbytes hbase
  rcases hown.2 with ⟨rfl, rfl⟩ | ⟨g, cap, cur, rfl, hbg, hg, hnc, hcm, hcs, htake⟩
  · obtain ⟨v', w', hr, ho, hgr, _, h5⟩ := hat
    have hx : xs = [] := List.eq_nil_of_length_eq_zero (by simpa using hown.1)
    subst hx
    exact ⟨v', w', hr, ho, hgr, World.ownsRow_nil _ _ _ _, h5⟩
  · by_cases hroom : n + 1 ≤ cap
    · have hr := run_append_room (P := P) w t ty e i ht hi g n cap cur hg ad 1 c [u] (by rw [hsize]; rfl) hnews hone hroom (by rw [hsize, hcs]; simp; omega)
      obtain ⟨v', w', hr2, ho, hgr, _, h5⟩ := hat
      rw [hr] at hr2
      injection hr2 with e1 e2
      subst e1 e2
      refine ⟨_, _, hr, ho, hgr, ⟨hown.1, .inr ⟨g, cap, _, rfl, hbg, setRow_heap w g cur _ e _ hg, hnc, hcm, ?_, ?_⟩⟩, h5⟩
      · simp [hcs, hsize]; omega
      · rw [hsize, Nat.mul_one] at *
        have hl : (cur.toList.take n).length = n := by simp [hcs]; omega
        show ((cur.toList.take n ++ [u]) ++ _).take n = xs
        rw [List.append_assoc, List.take_append_of_le_length (by omega), List.take_of_length_le (by omega), htake]
    · have holds : ∀ j u, xs[j]? = some u → w.cell? ((⟨g, 0, none⟩ : Addr).add j) = some u := hown.cells (g := g) rfl
      have hsmall : n + 1 ≤ 9223372036854775807 := by simp only [maxLen] at h63; omega
      have hr := run_append_grow (P := P) w t ty e i z ht hi hz ⟨g, 0, none⟩ n cap xs (by rw [hsize]; exact hown.1) holds ad 1 c [u] (by rw [hsize]; rfl) hnews (by omega) (by omega) (growslice_fits (by omega) (by rw [hby]; exact hbytes))
      obtain ⟨v', w', hr2, ho, hgr, _, h5⟩ := hat
      rw [hr] at hr2
      injection hr2 with e1 e2
      subst e1 e2
      exact ⟨_, _, hr, ho, hgr, own_keep hown fun k hk => by
        simp [Value.ownBlock] at hk
        subst hk
        exact Below.heap_alloc w.drew _ g (Has.lt hg), h5⟩
theorem step_app1 {P : Program} {w : World} {ops : Array Oper} {o : Oper} {a : Act} {K : Act → World → Prop} {Q : Exit → Act → World → Prop} {E : Prop} (hgd : o.guard = none) (s x : Operand) (t : TypeId)
    (ho : o.op = .call { callee := .builtin .append, args := #[s, x], argTypes := #[t, t] })
    (base : Nat) (e : TypeId) (i : TypeInfo) (z : Value) (bytes : Nat) (ht : P.underlying t = some (.slice e)) (hi : P.info? e = some i) (hz : i.zero = some z)
    (hsize : i.size = 1) (hby : i.bytes = bytes) (hzs : z.cells.size = 1)
    (v : Value) (n : Nat) (xs : List Value) (hs : a.eval s = v) (hown : w.ownsRow base e 1 v n xs)
    (ad : Addr) (c : Nat) (u : Value) (hx : a.eval x = .slice (some ad) 1 c) (hu : w.cell? ad = some u) (h1 : u.oneCell' = true)
    (h63 : n + 1 ≤ maxLen) (hbytes : (n + 1) * bytes ≤ 140737488355328) (hbase : base ≤ w.heap.size)
    (h : ∀ v' w', w'.ownsRow base e 1 v' (n + 1) (xs ++ [u]) → w.grownBy w' v.ownBlock → w'.ownsRow base e 1 v n xs → (v'.ownBlock = v.ownBlock ∨ v'.ownBlock = some w.heap.size) → K (a.put o.dst v') w') :
    if Region.wanted o (yielded ops a.tmps) = true then Oper.wp P o a w K Q else E := by
  have hw : Region.wanted o (yielded ops a.tmps) = true := by simp [Region.wanted, hgd]
  rw [if_pos hw]
  obtain ⟨v', w', hrun, h2, h3, h4, h5⟩ := run_app1 (P := P) w base t o.type e i z bytes ht hi hz hsize hby hzs v n xs hown ad c u hu h1 h63 hbytes hbase
  unfold Oper.wp execOp
  simp only [ho, resolve, invoke, builtin, Sem.run_bind, Sem.run_pure, Result.andThen_ok, List.map_toArray, List.map_cons, List.map_nil, hs, hx, hrun]
  exact h v' w' h2 h3 h4 h5
theorem grownDrew (w : World) (row : Option Nat) : w.grownBy w.drew row := ⟨rfl, rfl, rfl, Nat.le_refl _, fun _ _ _ => rfl⟩
def intsV (l : List Nat) : List Value := (ofN l).map (Value.int .i64)
theorem intsV_len (l : List Nat) : (intsV l).length = l.length := by unfold intsV; rw [List.length_map, ofN_len]
theorem intsV_snoc (l : List Nat) (x : Nat) : intsV l ++ [.int .i64 (x : Int)] = intsV (l ++ [x]) := by unfold intsV; rw [ofN_app, List.map_append]; rfl
/-- the best list so far, as the box holds it: nil where there is none -/
def BestV (B : Nat) (R : Nat → Prop) (w : World) (bv : Value) : Option (List Nat) → Prop
  | none => bv = .slice none 0 0
  | some l => ∃ g c, bv = .slice (some ⟨g, 0, none⟩) l.length c ∧ ¬ R g ∧ w.ownsRow B 3 1 bv l.length (intsV l)
theorem BestV.sl {B : Nat} {R : Nat → Prop} {w : World} {bv : Value} {b : Option (List Nat)} (h : BestV B R w bv b) : ∃ A n c, bv = .slice A n c ∧ (A.isNone = b.isNone) ∧ n = (b.getD []).length ∧ n ≤ c ∧ c ≤ maxLen := by
  cases b with
  | none => exact ⟨none, 0, 0, h, rfl, rfl, Nat.le_refl _, by unfold maxLen; omega⟩
  | some l =>
    obtain ⟨g, c, rfl, _, ho⟩ := h
    obtain ⟨A, c', e, h1, h2⟩ := own_sl ho
    injection e with _ _ e
    subst e
    exact ⟨_, _, _, rfl, rfl, rfl, h1, h2⟩
/-- the world of a search -/
structure LMem (ts : List Nat) (tv : Value) (bb bt bl B : Nat) (R : Nat → Prop) (w : World) (b : Option (List Nat)) : Prop where
  best : ∃ bv, w.heap[bb]? = some (.cells #[bv] 23 (0, 0)) ∧ BestV B R w bv b
  tst : w.heap[bt]? = some (.cells #[tv] 22 (0, 0))
  look : w.heap[bl]? = some (.cells #[.func (Fn.func 15) #[] #[.pointer (some ⟨bb, 0, none⟩), .pointer (some ⟨bt, 0, none⟩), .pointer (some ⟨bl, 0, none⟩)]] 40 (0, 0))
  ints : IntsIn .u32 (fun k => k < B ∧ k ≠ bb) w tv (ofN ts)
structure LC (bb bt bl B : Nat) : Prop where
  b : bb < B
  t : bt < B
  l : bl < B
  tb : bt ≠ bb
  lb : bl ≠ bb
section
variable {ts : List Nat} {tv : Value} {bb bt bl B : Nat} {R : Nat → Prop} {w w' : World} {b : Option (List Nat)}
theorem LMem.grown (h : LMem ts tv bb bt bl B R w b) (hc : LC bb bt bl B) {row : Option Nat} (hg : w.grownBy w' row) (hr : ∀ k, row = some k → R k ∧ B ≤ k) : LMem ts tv bb bt bl B R w' b := by
  have ne : ∀ k, k < B → some k ≠ row := fun k hk e => by have := (hr k e.symm).2; omega
  obtain ⟨bv, h1, h2⟩ := h.best
  refine ⟨⟨bv, Has.grown h1 hg (ne _ hc.b), ?_⟩, Has.grown h.tst hg (ne _ hc.t), Has.grown h.look hg (ne _ hc.l), ?_⟩
  · cases b with
    | none => exact h2
    | some l =>
      obtain ⟨g, c, rfl, h3, h4⟩ := h2
      refine ⟨g, c, rfl, h3, own_keep h4 fun k hk => ?_⟩
      have hlt := own_lt h4 k hk
      simp [Value.ownBlock] at hk
      subst hk
      exact hg.block _ hlt fun e => h3 (hr _ e.symm).1
  · obtain ⟨A, c, rfl, k1, k2, k3⟩ := h.ints
    refine ⟨A, c, rfl, k1, k2, fun hn => ?_⟩
    obtain ⟨q, o, rfl, hF, hcell⟩ := k3 hn
    refine ⟨q, o, rfl, hF, fun i hi => ?_⟩
    have := hcell i hi
    exact (World.cell?_of_block (a := ⟨q, o + i, none⟩) (hg.block q (cell_lt this) (ne _ hF.1))).trans this
theorem LMem.more (h : LMem ts tv bb bt bl B R w b) {R' : Nat → Prop} (hR : ∀ k, R' k → R k ∨ w.heap.size ≤ k) : LMem ts tv bb bt bl B R' w b := by
  obtain ⟨bv, h1, h2⟩ := h.best
  refine ⟨⟨bv, h1, ?_⟩, h.tst, h.look, h.ints⟩
  cases b with
  | none => exact h2
  | some l =>
    obtain ⟨g, c, rfl, h3, h4⟩ := h2
    refine ⟨g, c, rfl, fun e => ?_, h4⟩
    rcases hR g e with h | h
    · exact h3 h
    · have := own_lt h4 g (by simp [Value.ownBlock]); omega
end
/-- what a search may turn: the box of the best one, and the row it was handed behind its end -/
structure LFr (bb : Nat) (row : Option Nat) (w w' : World) : Prop where
  os : w'.os = w.os
  tape : w'.tape = w.tape
  output : w'.output = w.output
  size : w.heap.size ≤ w'.heap.size
  block : ∀ k, k < w.heap.size → k ≠ bb → some k ≠ row → w'.heap[k]? = w.heap[k]?
theorem LFr.refl (bb : Nat) (row : Option Nat) (w : World) : LFr bb row w w := ⟨rfl, rfl, rfl, Nat.le_refl _, fun _ _ _ _ => rfl⟩
theorem LFr.trans {bb : Nat} {row row' : Option Nat} {a c d : World} (h : LFr bb row a c) (k : LFr bb row' c d) (hr : ∀ q, row' = some q → row = some q ∨ a.heap.size ≤ q) : LFr bb row a d :=
  ⟨k.os.trans h.os, k.tape.trans h.tape, k.output.trans h.output, Nat.le_trans h.size k.size, fun q hq hb hn => (k.block q (Nat.lt_of_lt_of_le hq h.size) hb fun e => by
    rcases hr q e.symm with h1 | h1
    · exact hn h1.symm
    · omega).trans (h.block q hq hb hn)⟩
theorem LFr.of_grown {bb : Nat} {row : Option Nat} {w w' : World} (h : w.grownBy w' row) : LFr bb row w w' := ⟨h.os, h.tape, h.output, h.size, fun k hk _ hn => h.block k hk hn⟩
theorem lit_grown {w w2 : World} {o : Obj} (h : (w.alloc o).grownBy w2 (some w.heap.size)) : w.heap.size ≤ w2.heap.size ∧ (∀ k, k < w.heap.size → w2.heap[k]? = w.heap[k]?) ∧ ∀ bb, LFr bb none w w2 := by
  have hs := h.size
  simp only [World.size_alloc] at hs
  have hb : ∀ k, k < w.heap.size → w2.heap[k]? = w.heap[k]? := fun k hk => (h.block k (by simp only [World.size_alloc]; omega) (fun e => by injection e with e; omega)).trans (Below.heap_alloc _ _ _ hk)
  exact ⟨by omega, hb, fun bb => ⟨h.os, h.tape, h.output, by omega, fun k hk _ _ => hb k hk⟩⟩
theorem own_there {w2 : World} {B n k1 k2 : Nat} {e : TypeId} {v2 : Value} {xs : List Value} (h : w2.ownsRow B e 1 v2 n xs) (hat : v2.ownBlock = some k1 ∨ v2.ownBlock = some k2) : ∃ g c, v2 = .slice (some ⟨g, 0, none⟩) n c ∧ B ≤ g := by
  rcases h.2 with ⟨rfl, _⟩ | ⟨g, cap, cur, rfl, hb, _⟩
  · rcases hat with h | h <;> cases h
  · exact ⟨g, cap, rfl, hb⟩
theorem own_shorter {B g n : Nat} {e : TypeId} {xs ys : List Value} {v : Value} {w1 : World} {v' : Value} (h1 : w1.ownsRow B e 1 v n xs) (k1 : w1.ownsRow B e 1 v' (n + 1) (xs ++ ys)) {w2 : World} (k2 : w2.ownsRow B e 1 v' (n + 1) (xs ++ ys)) (hv : v.ownBlock = some g) (hv' : v'.ownBlock = some g) : w2.ownsRow B e 1 v n xs := by
  rcases h1.2 with ⟨rfl, _⟩ | ⟨g1, cap1, cur1, rfl, hb1, hh1, c1, c2, c3, c4⟩
  · cases hv
  rcases k1.2 with ⟨rfl, _⟩ | ⟨g2, cap2, cur2, rfl, hb2, hh2, d1, d2, d3, d4⟩
  · cases hv'
  rcases k2.2 with ⟨e2, _⟩ | ⟨g3, cap3, cur3, e3, hb3, hh3, f1, f2, f3, f4⟩
  · cases e2
  injection e3 with e3 _ e4
  injection e3 with e3
  injection e3 with e3
  subst e3 e4
  simp [Value.ownBlock] at hv hv'
  subst hv
  subst hv'
  rw [hh1] at hh2
  injection hh2 with hh2
  injection hh2 with hh2
  subst hh2
  refine ⟨h1.1, .inr ⟨g2, cap1, cur3, rfl, hb1, hh3, c1, c2, by rw [f3]; omega, ?_⟩⟩
  have hx := h1.1
  have := congrArg (List.take (n * 1)) f4
  rw [List.take_take] at this
  rw [show min (n * 1) ((n + 1) * 1) = n * 1 by omega] at this
  rw [this, List.take_append_of_le_length (by omega), List.take_of_length_le (by omega)]
end Go.Proofs.YtfkklhmamhcbhaaDoor
