/- Learning by asking as plain mathematics: what a table of words and answers says of a machine. No conditions. -/
import Derived.Test.YtkcggmhllijgcaaDoorLsp
import Derived.Test.YtkcggmhllijgcaaDoorMoo
namespace Go.Proofs.YtkcggmhllijgcaaDoor
/-- what is told behind a word, of another one -/
def toldF (T : List Int → List Int) (h t : List Int) : List Int := (T (h ++ t)).drop h.length
def rowL (T : List Int → List Int) (tails : List (List Int)) (h : List Int) : List (List Int) := tails.map (toldF T h)
/-- the first one that is so; -1: none -/
def rIx (p : List Int → Bool) : List (List Int) → Int
  | [] => -1
  | x :: l => if p x = true then 0 else if rIx p l < 0 then -1 else rIx p l + 1
theorem rIx_spec (p : List Int → Bool) : ∀ l : List (List Int), (rIx p l = -1 ∧ ∀ i, i < l.length → p (rowAt l i) = false) ∨ ∃ i : Nat, rIx p l = i ∧ i < l.length ∧ p (rowAt l i) = true ∧ ∀ j, j < i → p (rowAt l j) = false
  | [] => .inl ⟨rfl, fun i hi => by simp at hi⟩
  | x :: l => by
    unfold rIx
    by_cases hx : p x = true
    · rw [if_pos hx]
      exact .inr ⟨0, rfl, by simp, hx, fun j hj => by omega⟩
    · rw [if_neg hx]
      have hx : p x = false := by simpa using hx
      rcases rIx_spec p l with ⟨h1, h2⟩ | ⟨i, h1, h2, h3, h4⟩
      · rw [h1, if_pos (by omega)]
        refine .inl ⟨rfl, fun i hi => ?_⟩
        cases i with
        | zero => exact hx
        | succ i => exact h2 i (by simpa using hi)
      · rw [h1, if_neg (by omega)]
        refine .inr ⟨i + 1, by omega, by simpa using h2, h3, fun j hj => ?_⟩
        cases j with
        | zero => exact hx
        | succ j => exact h4 j (by omega)
theorem rIx_none {p : List Int → Bool} {l : List (List Int)} (h : ∀ i, i < l.length → p (rowAt l i) = false) : rIx p l = -1 := by
  rcases rIx_spec p l with ⟨h1, _⟩ | ⟨i, _, h2, h3, _⟩
  · exact h1
  · rw [h i h2] at h3; cases h3
theorem rIx_at {p : List Int → Bool} {l : List (List Int)} {i : Nat} (hi : i < l.length) (hp : p (rowAt l i) = true) (h : ∀ j, j < i → p (rowAt l j) = false) : rIx p l = i := by
  rcases rIx_spec p l with ⟨_, h2⟩ | ⟨k, h1, h2, h3, h4⟩
  · rw [h2 i hi] at hp; cases hp
  · rcases Nat.lt_trichotomy i k with h5 | h5 | h5
    · rw [h4 i h5] at hp; cases hp
    · subst h5; exact h1
    · rw [h k h5] at h3; cases h3
def stateL (T : List Int → List Int) (tails heads : List (List Int)) (h : List Int) : Int := rIx (fun g => decide (rowL T tails g = rowL T tails h)) heads
def machL (T : List Int → List Int) (tails heads : List (List Int)) (n : Nat) : MachD :=
  ⟨heads.map fun h => (List.range n).map fun (x : Nat) => at0 (toldF T h [(x : Int)]) 0, heads.map fun h => (List.range n).map fun (x : Nat) => max 0 (stateL T tails heads (h ++ [(x : Int)]))⟩
structure HeadsOk (T : List Int → List Int) (tails : List (List Int)) (n : Nat) (heads : List (List Int)) : Prop where
  one : 1 ≤ heads.length
  zero : rowAt heads 0 = []
  dis : ∀ i j, i < j → j < heads.length → rowL T tails (rowAt heads i) ≠ rowL T tails (rowAt heads j)
  ltr : ∀ i, i < heads.length → ∀ x ∈ rowAt heads i, 0 ≤ x ∧ x < (n : Int)
  len : ∀ i, i < heads.length → (rowAt heads i).length ≤ i
def ClosedL (T : List Int → List Int) (tails : List (List Int)) (n : Nat) (heads : List (List Int)) : Prop :=
  HeadsOk T tails n heads ∧ ∀ k, k < heads.length → ∀ x : Nat, x < n → 0 ≤ stateL T tails heads (rowAt heads k ++ [(x : Int)])
structure TailsOk (n : Nat) (tails : List (List Int)) : Prop where
  one : ∀ x : Nat, x < n → [(x : Int)] ∈ tails
  ltr : ∀ t ∈ tails, ∀ x ∈ t, 0 ≤ x ∧ x < (n : Int)
theorem rowAt_snoc_lt {l : List (List Int)} {x : List Int} {i : Nat} (h : i < l.length) : rowAt (l ++ [x]) i = rowAt l i := by
  unfold rowAt; rw [List.getD_eq_getElem?_getD, List.getD_eq_getElem?_getD, List.getElem?_append_left h]
theorem rowAt_snoc_eq (l : List (List Int)) (x : List Int) : rowAt (l ++ [x]) l.length = x := by
  unfold rowAt; rw [List.getD_eq_getElem?_getD, List.getElem?_append_right (Nat.le_refl _)]; simp
theorem rowAt_app_lt {l r : List (List Int)} {i : Nat} (h : i < l.length) : rowAt (l ++ r) i = rowAt l i := by
  unfold rowAt; rw [List.getD_eq_getElem?_getD, List.getD_eq_getElem?_getD, List.getElem?_append_left h]
theorem rowAt_mem {l : List (List Int)} {i : Nat} (h : i < l.length) : rowAt l i ∈ l := by
  unfold rowAt; rw [List.getD_eq_getElem?_getD, List.getElem?_eq_getElem h]; exact List.getElem_mem _
theorem mem_rowAt {l : List (List Int)} {x : List Int} (h : x ∈ l) : ∃ i, i < l.length ∧ rowAt l i = x := by
  obtain ⟨i, hi, rfl⟩ := List.getElem_of_mem h
  exact ⟨i, hi, by unfold rowAt; rw [List.getD_eq_getElem?_getD, List.getElem?_eq_getElem hi]; rfl⟩
/-- one head more -/
theorem HeadsOk.snoc {T : List Int → List Int} {tails heads : List (List Int)} {n k x : Nat} (h : HeadsOk T tails n heads) (hk : k < heads.length) (hx : x < n) (hs : stateL T tails heads (rowAt heads k ++ [(x : Int)]) < 0) : HeadsOk T tails n (heads ++ [rowAt heads k ++ [(x : Int)]]) := by
  have ho := h.one
  have no : ∀ i, i < heads.length → rowL T tails (rowAt heads i) ≠ rowL T tails (rowAt heads k ++ [(x : Int)]) := fun i hi => by
    unfold stateL at hs
    rcases rIx_spec (fun g => decide (rowL T tails g = rowL T tails (rowAt heads k ++ [(x : Int)]))) heads with ⟨_, h2⟩ | ⟨j, h1, _⟩
    · exact of_decide_eq_false (h2 i hi)
    · rw [h1] at hs; omega
  refine ⟨by simp, by rw [rowAt_snoc_lt (by omega)]; exact h.zero, fun i j hij hj => ?_, fun i hi => ?_, fun i hi => ?_⟩
  · rw [List.length_append, List.length_singleton] at hj
    rw [rowAt_snoc_lt (by omega : i < heads.length)]
    by_cases e : j = heads.length
    · subst e; rw [rowAt_snoc_eq]; exact no i hij
    · rw [rowAt_snoc_lt (by omega)]; exact h.dis i j hij (by omega)
  · rw [List.length_append, List.length_singleton] at hi
    by_cases e : i = heads.length
    · subst e; rw [rowAt_snoc_eq]
      intro y hy
      rcases List.mem_append.1 hy with h1 | h1
      · exact h.ltr k hk y h1
      · rw [List.mem_singleton.1 h1]; omega
    · rw [rowAt_snoc_lt (by omega)]; exact h.ltr i (by omega)
  · rw [List.length_append, List.length_singleton] at hi
    by_cases e : i = heads.length
    · subst e; rw [rowAt_snoc_eq, List.length_append, List.length_singleton]
      have := h.len k hk; omega
    · rw [rowAt_snoc_lt (by omega)]; exact h.len i (by omega)
/-- a state that is there stays there when heads are put behind -/
theorem stateL_app {T : List Int → List Int} {tails heads r : List (List Int)} {h : List Int} (hs : 0 ≤ stateL T tails heads h) : stateL T tails (heads ++ r) h = stateL T tails heads h := by
  unfold stateL at hs ⊢
  rcases rIx_spec (fun g => decide (rowL T tails g = rowL T tails h)) heads with ⟨h1, _⟩ | ⟨i, h1, h2, h3, h4⟩
  · rw [h1] at hs; omega
  · rw [h1]
    refine rIx_at (by rw [List.length_append]; omega) ?_ fun j hj => ?_
    · rw [rowAt_app_lt h2]; exact h3
    · rw [rowAt_app_lt (by omega)]; exact h4 j hj
theorem stateL_spec {T : List Int → List Int} {tails heads : List (List Int)} {h : List Int} (hs : 0 ≤ stateL T tails heads h) : ∃ i : Nat, stateL T tails heads h = i ∧ i < heads.length ∧ rowL T tails (rowAt heads i) = rowL T tails h := by
  unfold stateL at hs ⊢
  rcases rIx_spec (fun g => decide (rowL T tails g = rowL T tails h)) heads with ⟨h1, _⟩ | ⟨i, h1, h2, h3, _⟩
  · rw [h1] at hs; omega
  · exact ⟨i, h1, h2, of_decide_eq_true h3⟩
theorem rowL_mem {T : List Int → List Int} {tails : List (List Int)} {g h t : List Int} (e : rowL T tails g = rowL T tails h) (ht : t ∈ tails) : toldF T g t = toldF T h t := by
  unfold rowL at e
  exact List.map_inj_left.1 e t ht
theorem rowAt_map {f : List Int → List Int} {l : List (List Int)} {i : Nat} (h : i < l.length) : rowAt (l.map f) i = f (rowAt l i) := by
  unfold rowAt; rw [List.getD_eq_getElem?_getD, List.getD_eq_getElem?_getD, List.getElem?_map, List.getElem?_eq_getElem h]; rfl
theorem at0_range {f : Nat → Int} {n x : Nat} (h : x < n) : at0 ((List.range n).map f) x = f x := by
  unfold at0; rw [List.getD_eq_getElem?_getD, List.getElem?_map, List.getElem?_range h]; rfl
section
variable {T : List Int → List Int} {tails heads : List (List Int)} {n : Nat}
theorem machL_ins (h1 : 1 ≤ heads.length) : ins (machL T tails heads n) = n := by
  unfold ins machL
  simp only []
  rw [rowAt_map (by omega)]; simp
theorem machL_good (h1 : 1 ≤ heads.length) (h6 : heads.length ≤ 6) (n1 : 1 ≤ n) (n3 : n ≤ 3) : Good (machL T tails heads n) := by
  have hi := machL_ins (T := T) (tails := tails) (n := n) h1
  refine ⟨by simpa [machL] using h1, by simpa [machL] using h6, by simp [machL], by omega, by omega, fun i h => ?_, fun i h => ?_, fun i h x hx => ?_⟩
  · rw [hi]; simp only [machL]; rw [rowAt_map (by simpa [machL] using h)]; simp
  · rw [hi]; simp only [machL]; rw [rowAt_map (by simpa [machL] using h)]; simp
  · rw [hi] at hx
    have h' : i < heads.length := by simpa [machL] using h
    simp only [machL]
    rw [rowAt_map h', at0_range hx, List.length_map]
    unfold stateL
    rcases rIx_spec (fun g => decide (rowL T tails g = rowL T tails (rowAt heads i ++ [(x : Int)]))) heads with ⟨e, _⟩ | ⟨j, e, hj, _⟩
    · rw [e]; omega
    · rw [e]; omega
theorem machL_next {k x : Nat} {j : Nat} (hk : k < heads.length) (hx : x < n) (hj : stateL T tails heads (rowAt heads k ++ [(x : Int)]) = j) : nextAt (machL T tails heads n) k x = j := by
  unfold nextAt machL
  simp only []
  rw [rowAt_map hk, Int.toNat_natCast, at0_range hx, hj]; omega
theorem machL_out {k x : Nat} (hk : k < heads.length) (hx : x < n) : outAt (machL T tails heads n) k x = at0 (toldF T (rowAt heads k) [(x : Int)]) 0 := by
  unfold outAt machL
  simp only []
  rw [rowAt_map hk, Int.toNat_natCast, at0_range hx]
end
/-- the answers of a machine -/
def TM (m : MachD) (w : List Int) : List Int := tells m 0 w
theorem toldF_TM (m : MachD) (h t : List Int) : toldF (TM m) h t = tells m (goes m 0 h) t := by
  unfold toldF TM
  rw [tells_append]
  have := tells_length m h 0
  rw [List.drop_append_of_le_length (by omega), List.drop_of_length_le (by omega)]; rfl
theorem rowL_goes (m : MachD) (tails : List (List Int)) {g h : List Int} (e : goes m 0 g = goes m 0 h) : rowL (TM m) tails g = rowL (TM m) tails h := by
  unfold rowL
  apply List.map_congr_left
  intro t _
  rw [toldF_TM, toldF_TM, e]
/-- heads are no more than states: of any machine that tells the same -/
theorem heads_le {m l : MachD} {tails heads : List (List Int)} {n : Nat} (gl : Good l) (hi : ins m = n) (hn : ins l = n) (he : XEqv m 0 l 0) (ht : TailsOk n tails) (h : HeadsOk (TM m) tails n heads) : heads.length ≤ l.out.length := by
  have hw : ∀ i, i < heads.length → word l (rowAt heads i) := fun i hi' x hx => by
    have := h.ltr i hi' x hx
    unfold letter; rw [hn]; exact this
  have same : ∀ i, i < heads.length → ∀ t ∈ tails, toldF (TM m) (rowAt heads i) t = toldF (TM l) (rowAt heads i) t := fun i hi' t htt => by
    unfold toldF TM
    rw [he]
    intro x hx
    unfold letter; rw [hi]
    rcases List.mem_append.1 hx with h1 | h1
    · exact h.ltr i hi' x h1
    · exact ht.ltr t htt x h1
  have rows : ∀ i, i < heads.length → rowL (TM m) tails (rowAt heads i) = rowL (TM l) tails (rowAt heads i) := fun i hi' => List.map_congr_left fun t htt => same i hi' t htt
  have nd : ((List.range heads.length).map fun i => ((goes l 0 (rowAt heads i) : Nat) : Int)).Nodup := by
    rw [List.nodup_iff_pairwise_ne, List.pairwise_map]
    have hp : (List.range heads.length).Pairwise fun a b => a < b := List.pairwise_lt_range
    refine List.Pairwise.imp_of_mem (fun {a b} ha hb hab e => ?_) hp
    have ha := List.mem_range.1 ha
    have hb := List.mem_range.1 hb
    refine h.dis a b hab hb ?_
    rw [rows a ha, rows b hb]
    exact rowL_goes l tails (by omega)
  have := nodup_le l.out.length nd fun x hx => by
    simp only [List.mem_map, List.mem_range] at hx
    obtain ⟨i, hi', rfl⟩ := hx
    have := goes_lt gl (rowAt heads i) 0 gl.pos (hw i hi')
    omega
  simpa using this
/-- the table's machine tells, of a word, first letters right; where it goes wrong a tail of the word tells a state from its successor's head -/
theorem table_wrong {m : MachD} {tails heads : List (List Int)} {n : Nat} (hi : ins m = n) (ht : TailsOk n tails) (hc : ClosedL (TM m) tails n heads) :
    ∀ (w : List Int) (k : Nat), k < heads.length → (∀ x ∈ w, 0 ≤ x ∧ x < (n : Int)) → tells m (goes m 0 (rowAt heads k)) w ≠ tells (machL (TM m) tails heads n) k w →
      ∃ (j : Nat) (k' x j' : Nat), j < w.length ∧ k' < heads.length ∧ x < n ∧ stateL (TM m) tails heads (rowAt heads k' ++ [(x : Int)]) = j' ∧ j' < heads.length ∧ toldF (TM m) (rowAt heads k' ++ [(x : Int)]) (w.drop (j + 1)) ≠ toldF (TM m) (rowAt heads j') (w.drop (j + 1))
  | [], k, _, _, h => by exact absurd rfl h
  | y :: w, k, hk, hw, h => by
    obtain ⟨x, rfl⟩ : ∃ x : Nat, y = x := ⟨y.toNat, by have := hw y (by simp); omega⟩
    have hx : x < n := by have := hw (x : Int) (by simp); omega
    obtain ⟨j', hj1, hj2, hj3⟩ := stateL_spec (hc.2 k hk x hx)
    have ho : outAt m (goes m 0 (rowAt heads k)) x = outAt (machL (TM m) tails heads n) k x := by
      rw [machL_out hk hx, toldF_TM]
      simp [tells, at0]
    have hg : goes m 0 (rowAt heads k ++ [(x : Int)]) = nextAt m (goes m 0 (rowAt heads k)) x := by rw [goes_append]; rfl
    by_cases e : tells m (goes m 0 (rowAt heads j')) w = tells m (goes m 0 (rowAt heads k ++ [(x : Int)])) w
    · have h2 : tells m (goes m 0 (rowAt heads j')) w ≠ tells (machL (TM m) tails heads n) j' w := by
        intro e2
        apply h
        simp only [tells]
        rw [ho, machL_next hk hx hj1, ← e2, e, hg]
      obtain ⟨j, k', x', j'', a1, a2, a3, a4, a5, a6⟩ := table_wrong hi ht hc w j' hj2 (fun z hz => hw z (by simp [hz])) h2
      exact ⟨j + 1, k', x', j'', by simp; omega, a2, a3, a4, a5, by simpa using a6⟩
    · refine ⟨0, k, x, j', by simp, hk, hx, hj1, hj2, ?_⟩
      rw [toldF_TM, toldF_TM]
      simpa using fun e2 => e e2.symm
/-- tails put in: the word's own -/
def addT (tails : List (List Int)) (w : List Int) : Nat → List (List Int)
  | 0 => tails
  | k + 1 => if w.drop k ∈ addT tails w k then addT tails w k else addT tails w k ++ [w.drop k]
theorem addT_sub (tails : List (List Int)) (w : List Int) {t : List Int} (h : t ∈ tails) : ∀ k, t ∈ addT tails w k
  | 0 => h
  | k + 1 => by
    simp only [addT]
    split
    · exact addT_sub tails w h k
    · exact List.mem_append_left _ (addT_sub tails w h k)
theorem addT_mem (tails : List (List Int)) (w : List Int) : ∀ k j, j < k → w.drop j ∈ addT tails w k
  | 0, j, h => by omega
  | k + 1, j, h => by
    simp only [addT]
    by_cases e : j = k
    · subst e
      split
      · assumption
      · exact List.mem_append_right _ (by simp)
    · have := addT_mem tails w k j (by omega)
      split
      · exact this
      · exact List.mem_append_left _ this
theorem mem_addT (tails : List (List Int)) (w : List Int) {t : List Int} : ∀ k, t ∈ addT tails w k → t ∈ tails ∨ ∃ j, t = w.drop j
  | 0, h => .inl h
  | k + 1, h => by
    simp only [addT] at h
    split at h
    · exact mem_addT tails w k h
    · rcases List.mem_append.1 h with h | h
      · exact mem_addT tails w k h
      · exact .inr ⟨k, List.mem_singleton.1 h⟩
theorem addT_len (tails : List (List Int)) (w : List Int) : ∀ k, tails.length ≤ (addT tails w k).length ∧ (addT tails w k).length ≤ tails.length + k
  | 0 => by simp [addT]
  | k + 1 => by
    have := addT_len tails w k
    simp only [addT]
    split
    · omega
    · rw [List.length_append, List.length_singleton]; omega
theorem TailsOk.add {n : Nat} {tails : List (List Int)} {w : List Int} (h : TailsOk n tails) (hw : ∀ x ∈ w, 0 ≤ x ∧ x < (n : Int)) (k : Nat) : TailsOk n (addT tails w k) :=
  ⟨fun x hx => addT_sub tails w (h.one x hx) k, fun t ht => by
    rcases mem_addT tails w k ht with h1 | ⟨j, rfl⟩
    · exact h.ltr t h1
    · exact fun x hx => hw x (List.mem_of_mem_drop hx)⟩
theorem HeadsOk.tails {T : List Int → List Int} {tails tails' heads : List (List Int)} {n : Nat} (h : HeadsOk T tails n heads) (hs : ∀ t ∈ tails, t ∈ tails') : HeadsOk T tails' n heads :=
  ⟨h.one, h.zero, fun i j hij hj e => h.dis i j hij hj (List.map_congr_left fun t ht => rowL_mem e (hs t ht)), h.ltr, h.len⟩
/-- after a word that was wrong there are more heads -/
theorem grows {m : MachD} {tails heads r : List (List Int)} {w : List Int} {n : Nat} (hi : ins m = n) (ht : TailsOk n tails) (hc : ClosedL (TM m) tails n heads) (hw : ∀ x ∈ w, 0 ≤ x ∧ x < (n : Int))
    (hne : tells m 0 w ≠ tells (machL (TM m) tails heads n) 0 w) (hc' : ClosedL (TM m) (addT tails w w.length) n (heads ++ r)) : heads.length < (heads ++ r).length := by
  have h0 : tells m (goes m 0 (rowAt heads 0)) w ≠ tells (machL (TM m) tails heads n) 0 w := by rw [hc.1.zero]; exact hne
  obtain ⟨j, k, x, j', a1, a2, a3, a4, a5, a6⟩ := table_wrong hi ht hc w 0 (by have := hc.1.one; omega) hw h0
  rcases Nat.eq_zero_or_pos r.length with hr | hr
  · exfalso
    obtain rfl : r = [] := List.eq_nil_of_length_eq_zero hr
    rw [List.append_nil] at hc'
    obtain ⟨i, b1, b2, b3⟩ := stateL_spec (hc'.2 k a2 x a3)
    obtain ⟨i0, c1, c2, c3⟩ := stateL_spec (hc.2 k a2 x a3)
    have e0 : i0 = j' := by rw [c1] at a4; omega
    subst e0
    have e1 : rowL (TM m) tails (rowAt heads i) = rowL (TM m) tails (rowAt heads k ++ [(x : Int)]) := List.map_congr_left fun t ht' => rowL_mem b3 (addT_sub tails w ht' _)
    have e2 : i = i0 := by
      rcases Nat.lt_trichotomy i i0 with h1 | h1 | h1
      · exact absurd (e1.trans c3.symm) (hc.1.dis i i0 h1 c2)
      · exact h1
      · exact absurd (c3.trans e1.symm) (hc.1.dis i0 i h1 b2)
    subst e2
    apply a6
    by_cases hj : j + 1 < w.length
    · exact (rowL_mem b3 (addT_mem tails w w.length (j + 1) hj)).symm
    · rw [List.drop_of_length_le (by omega), toldF_TM, toldF_TM]; rfl
  · rw [List.length_append]; omega
end Go.Proofs.YtkcggmhllijgcaaDoor
