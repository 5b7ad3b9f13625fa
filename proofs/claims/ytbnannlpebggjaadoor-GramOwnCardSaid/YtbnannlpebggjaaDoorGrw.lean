/- The words of a grammar, in the order in which they are looked at; rows of the call's own, apart from one another and from given blocks; the state of gram.Words. No conditions. -/
import Derived.Test.YtbnannlpebggjaaDoorGrk
import Derived.Test.YtbnannlpebggjaaDoorQuq
namespace Go.Proofs.YtbnannlpebggjaaDoor
open Go.RowKit Go.Deep Go.ChangeShapes
def wordN : Nat → Nat → List Int
  | 0, _ => []
  | _ + 1, 0 => []
  | f + 1, j + 1 => wordN f (j / 3) ++ [((j % 3 : Nat) : Int)]
/-- the word that is looked at behind j others -/
def wordAt (j : Nat) : List Int := wordN 5 j
/-- how many words are shorter -/
def mN (n : Nat) : Nat := (3 ^ n - 1) / 2
theorem word_next : ∀ k < 40, ∀ x < 3, wordAt (3 * k + 1 + x) = wordAt k ++ [((x : Nat) : Int)] := by decide
theorem word_len : ∀ n < 5, ∀ k < 3 * mN n + 1, ((wordAt k).length < n ↔ k < mN n) ∧ (wordAt k).length ≤ 4 ∧ ∀ z ∈ wordAt k, 0 ≤ z ∧ z ≤ 2 := by decide
theorem mN_le : ∀ n < 5, mN n ≤ 40 := by decide
theorem word_zero : wordAt 0 = [] := by decide
def wordsE (g : Gr) (n : Int) : Int := if gramE g ≠ 0 then gramE g else if n < 0 ∨ 4 < n then 1 else 0
def pk (g : Gr) (k : Nat) : List Nat := (List.range k).filter fun j => hasB g (wordAt j)
def wordsF (g : Gr) (n : Int) : List (List Int) := if wordsE g n = 0 then (pk g (3 * mN n.toNat + 1)).map wordAt else []
theorem pk_yes {g : Gr} {k : Nat} (h : hasB g (wordAt k) = true) : pk g (k + 1) = pk g k ++ [k] := by unfold pk; rw [List.range_succ, List.filter_append]; simp [h]
theorem pk_no {g : Gr} {k : Nat} (h : hasB g (wordAt k) = false) : pk g (k + 1) = pk g k := by unfold pk; rw [List.range_succ, List.filter_append]; simp [h]
theorem pk_len (g : Gr) (k : Nat) : (pk g k).length ≤ k := by unfold pk; exact Nat.le_trans (List.length_filter_le _ _) (by simp)
theorem pk_lt {g : Gr} {k i : Nat} (h : i ∈ pk g k) : i < k := by unfold pk at h; simp at h; exact h.1
theorem pk_nodup (g : Gr) (k : Nat) : (pk g k).Nodup := List.nodup_range.sublist List.filter_sublist
structure Wds (B : Nat) (D : Nat → Prop) (w : World) (cs : List Value) (ll : List (List Int)) : Prop where
  len : cs.length = ll.length
  at_ : ∀ (i : Nat) r row, cs[i]? = some r → ll[i]? = some row → w.ownsRow B 3 1 r row.length (row.map (Value.int .i64)) ∧ ∀ b, r.ownBlock = some b → ¬ D b
  ap : ∀ (i j : Nat) ri rj (b : Nat), i ≠ j → cs[i]? = some ri → cs[j]? = some rj → ri.ownBlock = some b → rj.ownBlock ≠ some b
section
variable {B : Nat} {D D' : Nat → Prop} {w w' w5 : World} {cs : List Value} {ll : List (List Int)} {r : Value} {row : List Int}
theorem Wds.move (h : Wds B D w cs ll) (hs : ∀ b, B ≤ b → b < w.heap.size → ¬ D b → w'.heap[b]? = w.heap[b]?) (hD : ∀ b, D' b → D b ∨ w.heap.size ≤ b) : Wds B D' w' cs ll :=
  ⟨h.len, fun i r row h1 h2 => by
    obtain ⟨h3, h4⟩ := h.at_ i r row h1 h2
    refine ⟨own_keep h3 fun k hk => hs k (own_ge h3 k hk) (own_lt h3 k hk) (h4 k hk), fun b hb hb2 => ?_⟩
    rcases hD b hb2 with h5 | h5
    · exact h4 b hb h5
    · have := own_lt h3 b hb; omega, h.ap⟩
theorem Wds.keep (h : Wds B D w cs ll) (hs : ∀ b, B ≤ b → b < w.heap.size → ¬ D b → w'.heap[b]? = w.heap[b]?) : Wds B D w' cs ll :=
  ⟨h.len, fun i r row h1 h2 => by
    obtain ⟨h3, h4⟩ := h.at_ i r row h1 h2
    exact ⟨own_keep h3 fun k hk => hs k (own_ge h3 k hk) (own_lt h3 k hk) (h4 k hk), h4⟩, h.ap⟩
theorem Wds.keepR (h : Wds B D w cs ll) (hs : ∀ r ∈ cs, ∀ b, r.ownBlock = some b → w'.heap[b]? = w.heap[b]?) : Wds B D w' cs ll :=
  ⟨h.len, fun i r row h1 h2 => by
    obtain ⟨h3, h4⟩ := h.at_ i r row h1 h2
    exact ⟨own_keep h3 fun k hk => hs r (List.mem_of_getElem? h1) k hk, h4⟩, h.ap⟩
theorem Wds.get_ (h : Wds B D w cs ll) {i : Nat} (hr : cs[i]? = some r) : ∃ row, ll[i]? = some row ∧ w.ownsRow B 3 1 r row.length (row.map (Value.int .i64)) ∧ ∀ b, r.ownBlock = some b → ¬ D b := by
  have hi : i < cs.length := by
    rcases Nat.lt_or_ge i cs.length with h | h
    · exact h
    · rw [List.getElem?_eq_none h] at hr; cases hr
  have h2 : ll[i]? = some (ll[i]'(by rw [← h.len]; exact hi)) := List.getElem?_eq_getElem _
  exact ⟨_, h2, h.at_ i r _ hr h2⟩
theorem Wds.turn (h : Wds B D w cs ll) (hD : ∀ b, D' b → D b ∨ w.heap.size ≤ b) : Wds B D' w cs ll :=
  ⟨h.len, fun i r row h1 h2 => by
    obtain ⟨h3, h4⟩ := h.at_ i r row h1 h2
    refine ⟨h3, fun b hb hb2 => ?_⟩
    rcases hD b hb2 with h5 | h5
    · exact h4 b hb h5
    · have := own_lt h3 b hb; omega, h.ap⟩
theorem Wds.snoc (h : Wds B D w cs ll) {x : Nat} (hx : ∀ (i : Nat) (r : Value) (b : Nat), cs[i]? = some r → r.ownBlock = some b → b < x) (hBx : B ≤ x) (hr : w.ownsRow x 3 1 r row.length (row.map (Value.int .i64))) (hD : ∀ b, r.ownBlock = some b → ¬ D b) : Wds B D w (cs ++ [r]) (ll ++ [row]) := by
  have hc : ∀ (i : Nat) x, (cs ++ [r])[i]? = some x → cs[i]? = some x ∨ (i = cs.length ∧ x = r) := fun i x hx => by
    by_cases hi : i < cs.length
    · rw [List.getElem?_append_left hi] at hx; exact .inl hx
    · rw [List.getElem?_append_right (by omega)] at hx
      have e : i - cs.length = 0 := by
        rcases Nat.eq_zero_or_pos (i - cs.length) with e | e
        · exact e
        · rw [List.getElem?_eq_none (by simp; omega)] at hx; cases hx
      rw [e] at hx
      exact .inr ⟨by omega, by simpa using hx.symm⟩
  have rge := own_ge hr
  refine ⟨by simp [h.len], fun i u y hu hy => ?_, fun i j u y b hij hu hy hb => ?_⟩
  · rcases hc i u hu with hu | ⟨rfl, rfl⟩
    · have hi : i < cs.length := by
        rcases Nat.lt_or_ge i cs.length with h | h
        · exact h
        · rw [List.getElem?_eq_none h] at hu; cases hu
      rw [List.getElem?_append_left (by rw [← h.len]; exact hi)] at hy
      exact h.at_ i u y hu hy
    · rw [h.len, List.getElem?_append_right (Nat.le_refl _), Nat.sub_self] at hy
      have hy' : row = y := by simpa using hy
      subst hy'
      exact ⟨own_lo hr hBx, hD⟩
  · rcases hc i u hu with hu' | ⟨rfl, rfl⟩
    · rcases hc j y hy with hy' | ⟨rfl, rfl⟩
      · exact h.ap i j u y b hij hu' hy' hb
      · intro e; have := hx i u b hu' hb; have := rge b e; omega
    · rcases hc j y hy with hy' | ⟨rfl, rfl⟩
      · intro e; have := hx j y b hy' e; have := rge b hb; omega
      · omega
def nilV : Value := .slice none 0 0
theorem Wds.pick (h : Wds B D w cs ll) {idx : List Nat} (hn : idx.Nodup) (hi : ∀ i ∈ idx, i < cs.length) : Wds B D w (idx.map fun i => cs.getD i nilV) (idx.map fun i => ll.getD i []) := by
  have g1 : ∀ (i : Nat) r, (idx.map fun i => cs.getD i nilV)[i]? = some r → ∃ k, idx[i]? = some k ∧ cs[k]? = some r := fun i r hr => by
    rw [List.getElem?_map, Option.map_eq_some_iff] at hr
    obtain ⟨k, h1, h2⟩ := hr
    have hk := hi k (List.mem_of_getElem? h1)
    rw [List.getD_eq_getElem?_getD, List.getElem?_eq_getElem hk] at h2
    exact ⟨k, h1, by rw [List.getElem?_eq_getElem hk]; exact congrArg some h2⟩
  refine ⟨by simp, fun i r row hr hrow => ?_, fun i j ri rj b hij hr hs hb => ?_⟩
  · obtain ⟨k, h1, h2⟩ := g1 i r hr
    rw [List.getElem?_map, h1] at hrow
    have hk := hi k (List.mem_of_getElem? h1)
    have e : ll[k]? = some row := by
      rw [List.getElem?_eq_getElem (by rw [← h.len]; exact hk)]
      have := Option.some.inj hrow
      simp only at this
      rw [List.getD_eq_getElem?_getD, List.getElem?_eq_getElem (by rw [← h.len]; exact hk)] at this
      exact congrArg some this
    exact h.at_ k r row h2 e
  · obtain ⟨k, h1, h2⟩ := g1 i ri hr
    obtain ⟨m, h3, h4⟩ := g1 j rj hs
    refine h.ap k m ri rj b (fun e => hij ?_) h2 h4 hb
    subst e
    obtain ⟨l1, e1⟩ := List.getElem?_eq_some_iff.1 h1
    obtain ⟨l2, e2⟩ := List.getElem?_eq_some_iff.1 h3
    have pw := List.pairwise_iff_getElem.1 hn
    rcases Nat.lt_trichotomy i j with h | h | h
    · exact absurd (e1.trans e2.symm) (pw i j l1 l2 h)
    · exact h
    · exact absurd (e2.trans e1.symm) (pw j i l2 l1 h)
end
/-- where gram.Words stands -/
structure WrdInv (W : World) (g : Gr) (ko kq cnt : Nat) (todo out : Value) (cs : List Value) (w : World) : Prop where
  rows : Wds W.heap.size (fun b => todo.ownBlock = some b ∨ out.ownBlock = some b) w cs ((List.range cnt).map wordAt)
  q : OwnQ w W.heap.size 29 1 todo (cnt - kq) (cs.drop kq)
  o : w.ownsRow W.heap.size 29 1 out (pk g ko).length ((pk g ko).map fun j => cs.getD j nilV)
  ne : ∀ b, todo.ownBlock = some b → out.ownBlock ≠ some b
  bel : Below W.heap.size W w
section
variable {W w w1 w5 : World} {g : Gr} {ko kq cnt : Nat} {todo out todo' out' r : Value} {cs : List Value}
theorem WrdInv.len (h : WrdInv W g ko kq cnt todo out cs w) : cs.length = cnt := by have := h.rows.len; simpa using this
theorem WrdInv.rowOf (h : WrdInv W g ko kq cnt todo out cs w) {i : Nat} (hi : i < cnt) (hr : cs[i]? = some r) : w.ownsRow W.heap.size 3 1 r (wordAt i).length ((wordAt i).map (Value.int .i64)) := by
  obtain ⟨row, h6, h7, _⟩ := h.rows.get_ hr
  have e1 : row = wordAt i := by
    have : i < ((List.range cnt).map wordAt).length := by simp; exact hi
    rw [List.getElem?_eq_getElem this] at h6
    simpa using h6.symm
  subst e1
  exact h7
theorem WrdInv.below (h : WrdInv W g ko kq cnt todo out cs w) (hb : Below w.heap.size w w1) : WrdInv W g ko kq cnt todo out cs w1 :=
  ⟨h.rows.keep fun b _ hl _ => hb.block b hl, h.q.below hb, own_keep h.o fun k hk => hb.block k (own_lt h.o k hk), h.ne, h.bel.trans (hb.mono h.bel.size)⟩
theorem WrdInv.put (h : WrdInv W g ko kq cnt todo out cs w) (hr : cs[ko]? = some r) (hp : pk g (ko + 1) = pk g ko ++ [ko])
    (ho : w5.ownsRow W.heap.size 29 1 out' ((pk g ko).length + 1) (((pk g ko).map fun j => cs.getD j nilV) ++ [r])) (hg : (w.alloc (.cells #[r] 29)).grownBy w5 out.ownBlock) (ha : out'.ownBlock = out.ownBlock ∨ out'.ownBlock = some (w.alloc (.cells #[r] 29)).heap.size) : WrdInv W g (ko + 1) kq cnt todo out' cs w5 := by
  have old : ∀ b, b < w.heap.size → out.ownBlock ≠ some b → w5.heap[b]? = w.heap[b]? := fun b hb hne => (hg.block b (by simp; omega) fun e => hne e.symm).trans (Below.heap_alloc _ _ _ hb)
  refine ⟨h.rows.move (fun b _ h2 h3 => old b h2 fun e => h3 (.inr e)) fun b hb => ?_, h.q.keep fun k hk => old k (h.q.lt k hk).2 (h.ne k hk), ?_, fun b hb => ?_, ?_⟩
  · rcases hb with hb | hb
    · exact .inl (.inl hb)
    · rcases ha with e | e
      · exact .inl (.inr (by rw [← e]; exact hb))
      · rw [e] at hb; injection hb with hb; simp at hb; exact .inr (by omega)
  · rw [hp, List.length_append, List.map_append]
    have e : cs.getD ko nilV = r := by rw [List.getD_eq_getElem?_getD, hr]; rfl
    have e2 : [ko].map (fun j => cs.getD j nilV) = [r] := by simp only [List.map_cons, List.map_nil, e]
    rw [e2, List.length_singleton]
    exact ho
  · rcases ha with e | e
    · rw [e]; exact h.ne b hb
    · rw [e]; intro e2; injection e2 with e2; have := (h.q.lt b hb).2; simp at e2; omega
  · exact (h.bel.alloc h.bel.size _).grown hg (by have := h.bel.size; simp; omega) (own_ge h.o)
theorem WrdInv.skip (h : WrdInv W g ko kq cnt todo out cs w) (hp : pk g (ko + 1) = pk g ko) : WrdInv W g (ko + 1) kq cnt todo out cs w :=
  ⟨h.rows, h.q, by rw [hp]; exact h.o, h.ne, h.bel⟩
theorem WrdInv.made (h : WrdInv W g ko kq cnt todo out cs w) (hk : ko ≤ cnt) (hq : kq ≤ cnt) (hb : Below w.heap.size w w1) (hr : w1.ownsRow w.heap.size 3 1 r (wordAt cnt).length ((wordAt cnt).map (Value.int .i64)))
    (ho : OwnQ w5 W.heap.size 29 1 todo' (cnt - kq + 1) (cs.drop kq ++ [r])) (hg : (w1.alloc (.cells #[r] 29)).grownBy w5 todo.ownBlock) (ha : todo'.ownBlock = todo.ownBlock ∨ todo'.ownBlock = some (w1.alloc (.cells #[r] 29)).heap.size) : WrdInv W g ko kq (cnt + 1) todo' out (cs ++ [r]) w5 := by
  have hl := h.len
  have s1 := hb.size
  have old1 : ∀ b, b < w1.heap.size → todo.ownBlock ≠ some b → w5.heap[b]? = w1.heap[b]? := fun b hlt hne => (hg.block b (by simp; omega) fun e => hne e.symm).trans (Below.heap_alloc _ _ _ hlt)
  have old : ∀ b, b < w.heap.size → todo.ownBlock ≠ some b → w5.heap[b]? = w.heap[b]? := fun b hlt hne => (old1 b (by omega) hne).trans (hb.block b hlt)
  have rge := own_ge hr
  have rlt := own_lt hr
  have qlt : ∀ b, todo.ownBlock = some b → b < w.heap.size := fun b hb => (h.q.lt b hb).2
  refine ⟨?_, ?_, ?_, fun b hb => ?_, ?_⟩
  · rw [List.range_succ, List.map_append]
    have m1 := h.rows.move (w' := w5) (D' := fun b => todo'.ownBlock = some b ∨ out.ownBlock = some b) (fun b _ h2 h3 => old b h2 fun e => h3 (.inl e)) fun b hb => by
      rcases hb with hb | hb
      · rcases ha with e | e
        · exact .inl (.inl (by rw [← e]; exact hb))
        · rw [e] at hb; injection hb with hb; simp at hb; exact .inr (by omega)
      · exact .inl (.inr hb)
    refine m1.snoc (x := w.heap.size) (fun i r b hi hb => ?_) (by have := h.bel.size; omega) (own_keep hr fun k hk => old1 k (rlt k hk) fun e => by have := qlt k e; have := rge k hk; omega) fun b hb hd => ?_
    · obtain ⟨row, _, h3, _⟩ := h.rows.get_ hi
      exact own_lt h3 b hb
    · rcases hd with hd | hd
      · rcases ha with e | e
        · rw [e] at hd; have := qlt b hd; have := rge b hb; omega
        · rw [e] at hd; injection hd with hd; have := rlt b hb; simp at hd; omega
      · have := own_lt h.o b hd; have := rge b hb; omega
  · rw [show cnt + 1 - kq = cnt - kq + 1 by omega, List.drop_append_of_le_length (by omega)]
    exact ho
  · have e : ((pk g ko).map fun j => (cs ++ [r]).getD j nilV) = (pk g ko).map fun j => cs.getD j nilV := by
      refine List.map_congr_left fun j hj => ?_
      have := pk_lt hj
      rw [List.getD_eq_getElem?_getD, List.getD_eq_getElem?_getD, List.getElem?_append_left (by omega)]
    rw [e]
    exact own_keep h.o fun k hk => old k (own_lt h.o k hk) fun e => h.ne k e hk
  · rcases ha with e | e
    · rw [e] at hb; exact h.ne b hb
    · rw [e] at hb; injection hb with hb; intro e2; have := own_lt h.o b e2; simp at hb; omega
  · refine ((h.bel.trans (hb.mono h.bel.size)).alloc (by have := h.bel.size; omega) _).grown hg (by have := h.bel.size; simp; omega) fun k hk => (h.q.lt k hk).1
theorem WrdInv.tail (h : WrdInv W g ko kq cnt todo out cs w) (hq : kq < cnt) : ∃ p off cap ln, ln + 1 = cnt - kq ∧ todo = .slice (some ⟨p, off, none⟩) (ln + 1) (cap + 1) ∧ ln ≤ cap ∧ cap + 1 ≤ maxLen ∧ WrdInv W g ko (kq + 1) cnt (.slice (if cap + 1 = 1 then some ⟨p, off, none⟩ else some ⟨p, off + 1, none⟩) ln cap) out cs w := by
  have hn : cnt - kq = (cnt - (kq + 1)) + 1 := by omega
  have h1 := h.q
  rw [hn] at h1
  obtain ⟨p, off, cap, rfl, h2, h3, h4⟩ := h1.tail
  have e : (Value.slice (if cap + 1 = 1 then some ⟨p, off, none⟩ else some ⟨p, off + 1, none⟩) (cnt - (kq + 1)) cap).ownBlock = (Value.slice (some ⟨p, off, none⟩) (cnt - (kq + 1) + 1) (cap + 1)).ownBlock := by
    by_cases hc : cap + 1 = 1
    · rw [if_pos hc]; rfl
    · rw [if_neg hc]; rfl
  refine ⟨p, off, cap, cnt - (kq + 1), hn.symm, rfl, h2, h3, ⟨?_, ?_, h.o, ?_, h.bel⟩⟩
  · rw [e]; exact h.rows
  · rw [List.drop_drop] at h4
    exact h4
  · rw [e]; exact h.ne
end
end Go.Proofs.YtbnannlpebggjaaDoor
