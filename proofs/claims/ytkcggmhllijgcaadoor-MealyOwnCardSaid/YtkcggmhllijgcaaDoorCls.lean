/- Classes of alike states as plain mathematics: the refinement by marks comes to an end, and then tells just which states are alike. No conditions. -/
import Derived.Test.YtkcggmhllijgcaaDoorMrk
namespace Go.Proofs.YtkcggmhllijgcaaDoor
/-- two states of which all words tell the same -/
def Eqv (m : MachD) (i k : Nat) : Prop := ∀ w, word m w → tells m i w = tells m k w
theorem Eqv.refl (m : MachD) (i : Nat) : Eqv m i i := fun _ _ => rfl
theorem Eqv.symm {m : MachD} {i k : Nat} (h : Eqv m i k) : Eqv m k i := fun w hw => (h w hw).symm
theorem Eqv.trans {m : MachD} {i j k : Nat} (h : Eqv m i j) (h2 : Eqv m j k) : Eqv m i k := fun w hw => (h w hw).trans (h2 w hw)
theorem Eqv.out {m : MachD} {i k : Nat} (h : Eqv m i k) {x : Int} (hx : letter m x) : outAt m i x = outAt m k x := by
  have := h [x] (by intro y hy; simp at hy; subst hy; exact hx)
  simpa [tells] using this
theorem Eqv.next {m : MachD} {i k : Nat} (h : Eqv m i k) {x : Int} (hx : letter m x) : Eqv m (nextAt m i x) (nextAt m k x) := by
  intro w hw
  have := h (x :: w) (by intro y hy; simp at hy; rcases hy with rfl | hy; exact hx; exact hw y hy)
  simp only [tells, List.cons.injEq] at this
  exact this.2
theorem Eqv.goes {m : MachD} : ∀ (w : List Int) {i k : Nat}, Eqv m i k → word m w → Eqv m (goes m i w) (goes m k w)
  | [], _, _, h, _ => h
  | x :: w, _, _, h, hw => Eqv.goes w (h.next (hw x (by simp))) (fun y hy => hw y (by simp [hy]))
/-- for each state the least one that is alike -/
structure ClassOf (m : MachD) (c : List Int) : Prop where
  len : c.length = m.out.length
  nat : ∀ i, i < m.out.length → 0 ≤ at0 c i ∧ at0 c i ≤ i
  own : ∀ i, i < m.out.length → at0 c (at0 c i).toNat = at0 c i
  eqv : ∀ i k, i < m.out.length → k < m.out.length → (at0 c i = at0 c k ↔ Eqv m i k)
def nx (m : MachD) (c : List Int) (i : Nat) : Nat := ((List.range i).find? fun k => decide (markL m c k = markL m c i)).getD i
theorem nx_at {m : MachD} {c : List Int} {i k : Nat} (hk : k ≤ i) (h : markL m c k = markL m c i) (hold : ∀ j, j < k → markL m c j ≠ markL m c i) : nx m c i = k := by
  unfold nx
  cases hf : (List.range i).find? fun k => decide (markL m c k = markL m c i) with
  | none =>
    rw [List.find?_eq_none] at hf
    rcases Nat.lt_or_ge k i with hlt | hge
    · have := hf k (by simpa using hlt); simp [h] at this
    · simp; omega
  | some j =>
    have h1 := List.find?_some hf
    have h2 := List.mem_of_find?_eq_some hf
    simp at h1 h2
    have h3 : ¬ j < k := fun h => hold j h h1
    have h4 : ¬ k < j := by
      intro hlt
      rw [List.find?_range_eq_some] at hf
      have := hf.2.2 k hlt
      simp [h] at this
    simp; omega
theorem nx_le (m : MachD) (c : List Int) (i : Nat) : nx m c i ≤ i := by
  unfold nx
  cases hf : (List.range i).find? fun k => decide (markL m c k = markL m c i) with
  | none => simp
  | some j => have := List.mem_of_find?_eq_some hf; simp at this; simp; omega
theorem nx_mark (m : MachD) (c : List Int) (i : Nat) : markL m c (nx m c i) = markL m c i := by
  unfold nx
  cases hf : (List.range i).find? fun k => decide (markL m c k = markL m c i) with
  | none => simp
  | some j => have := List.find?_some hf; simpa using this
theorem nx_least {m : MachD} {c : List Int} {i k : Nat} (h : markL m c k = markL m c i) : nx m c i ≤ k := by
  unfold nx
  cases hf : (List.range i).find? fun k => decide (markL m c k = markL m c i) with
  | none =>
    rw [List.find?_eq_none] at hf
    rcases Nat.lt_or_ge k i with hlt | hge
    · have := hf k (by simpa using hlt); simp [h] at this
    · simpa using hge
  | some j =>
    rw [List.find?_range_eq_some] at hf
    rcases Nat.lt_or_ge k j with hlt | hge
    · have := hf.2.2 k hlt; simp [h] at this
    · simpa using hge
theorem nx_iff {m : MachD} {c : List Int} {i k : Nat} : nx m c i = nx m c k ↔ markL m c i = markL m c k := by
  constructor
  · intro h; rw [← nx_mark m c i, ← nx_mark m c k, h]
  · intro h
    have h1 : nx m c i ≤ nx m c k := nx_least (by rw [nx_mark, h])
    have h2 : nx m c k ≤ nx m c i := nx_least (by rw [nx_mark, h])
    omega
def nextL (m : MachD) (c : List Int) : List Int := (List.range m.out.length).map fun i => (nx m c i : Int)
theorem nextL_at {m : MachD} {c : List Int} {i : Nat} (hi : i < m.out.length) : at0 (nextL m c) i = nx m c i := by
  unfold nextL at0; rw [List.getD_eq_getElem?_getD]; simp [hi]
structure Inv (m : MachD) (c : List Int) : Prop where
  len : c.length = m.out.length
  nat : ∀ i, i < m.out.length → 0 ≤ at0 c i ∧ at0 c i ≤ i
  own : ∀ i, i < m.out.length → at0 c (at0 c i).toNat = at0 c i
  eqv : ∀ i k, i < m.out.length → k < m.out.length → Eqv m i k → at0 c i = at0 c k
theorem at0_replicate (n i : Nat) (x : Int) (h : i < n) : at0 (List.replicate n x) i = x := by
  unfold at0; rw [List.getD_eq_getElem?_getD]; simp [h]
theorem inv_zero (m : MachD) : Inv m (List.replicate m.out.length 0) :=
  ⟨by simp, fun i hi => by rw [at0_replicate _ _ _ hi]; omega, fun i hi => by rw [at0_replicate _ _ _ hi, at0_replicate]; simp; omega, fun i k hi hk _ => by rw [at0_replicate _ _ _ hi, at0_replicate _ _ _ hk]⟩
theorem mark_head {m : MachD} {c : List Int} {i k : Nat} (h : markL m c i = markL m c k) : at0 c i = at0 c k := by
  unfold markL at h; simp at h; exact h.1
theorem mark_rows {m : MachD} (g : Good m) {c : List Int} {i k : Nat} (hi : i < m.out.length) (hk : k < m.out.length) (h : markL m c i = markL m c k) : rowAt m.out i = rowAt m.out k ∧ ∀ x, letter m x → at0 c (nextAt m i x) = at0 c (nextAt m k x) := by
  unfold markL at h
  simp only [List.cons.injEq] at h
  have h2 := List.append_inj h.2 (by rw [g.rowO i hi, g.rowO k hk])
  refine ⟨h2.1, fun x hx => ?_⟩
  have h3 := congrArg (fun l => l[x.toNat]?) h2.2
  have hx1 := hx.1; have hx2 := hx.2
  simp only [List.getElem?_map] at h3
  have e : ∀ s, s < m.out.length → (rowAt m.next s)[x.toNat]? = some (at0 (rowAt m.next s) x.toNat) := fun s hs => by
    have hl := g.rowN s hs
    unfold at0; rw [List.getD_eq_getElem?_getD, List.getElem?_eq_getElem (by omega)]; rfl
  rw [e i hi, e k hk] at h3
  simpa [nextAt] using h3
theorem mark_of_eqv {m : MachD} (g : Good m) {c : List Int} (hc : Inv m c) {i k : Nat} (hi : i < m.out.length) (hk : k < m.out.length) (h : Eqv m i k) : markL m c i = markL m c k := by
  unfold markL
  have lt : ∀ x : Nat, x < ins m → letter m (x : Int) := fun x hx => ⟨by omega, by omega⟩
  have h1 : rowAt m.out i = rowAt m.out k := list_ext_at (by rw [g.rowO i hi, g.rowO k hk]) fun x hx => by
    have := h.out (lt x (by rw [g.rowO i hi] at hx; exact hx))
    simpa [outAt] using this
  have h2 : (rowAt m.next i).map (fun j => at0 c j.toNat) = (rowAt m.next k).map (fun j => at0 c j.toNat) := by
    apply List.ext_getElem (by simp [g.rowN i hi, g.rowN k hk])
    intro x h3 h4
    simp only [List.getElem_map]
    have hx : x < ins m := by simp [g.rowN i hi] at h3; exact h3
    have h5 := hc.eqv _ _ (nextAt_lt g hi (lt x hx)) (nextAt_lt g hk (lt x hx)) (h.next (lt x hx))
    have e : ∀ s (hs : x < (rowAt m.next s).length), (rowAt m.next s)[x] = at0 (rowAt m.next s) x := fun s hs => by
      unfold at0; rw [List.getD_eq_getElem?_getD, List.getElem?_eq_getElem hs]; rfl
    rw [e, e]
    simpa [nextAt] using h5
  rw [hc.eqv i k hi hk h, h1, h2]
theorem inv_next {m : MachD} (g : Good m) {c : List Int} (hc : Inv m c) : Inv m (nextL m c) := by
  refine ⟨by simp [nextL], fun i hi => ?_, fun i hi => ?_, fun i k hi hk h => ?_⟩
  · rw [nextL_at hi]; have := nx_le m c i; omega
  · have := nx_le m c i
    rw [nextL_at hi, nextL_at (by simp; omega)]
    simp only [Int.toNat_natCast]
    rw [nx_iff.2 (nx_mark m c i)]
  · rw [nextL_at hi, nextL_at hk, nx_iff.2 (mark_of_eqv g hc hi hk h)]
def fx (m : MachD) (c : List Int) : Nat := (List.range m.out.length).countP fun i => decide (at0 c i = i)
theorem fx_le (m : MachD) (c : List Int) : fx m c ≤ m.out.length := by
  unfold fx; have := List.countP_le_length (p := fun i : Nat => decide (at0 c i = (i : Int))) (l := List.range m.out.length); simpa using this
theorem countP_lt {α : Type} {p q : α → Bool} : ∀ {l : List α}, (∀ x ∈ l, p x = true → q x = true) → (∃ x ∈ l, p x = false ∧ q x = true) → l.countP p < l.countP q
  | [], _, h => by obtain ⟨x, hx, _⟩ := h; cases hx
  | a :: l, h1, h2 => by
    have hle : l.countP p ≤ l.countP q := List.countP_mono_left fun x hx => h1 x (by simp [hx])
    rw [List.countP_cons, List.countP_cons]
    obtain ⟨x, hx, hp, hq⟩ := h2
    rcases List.mem_cons.1 hx with rfl | hx
    · simp [hp, hq]; omega
    · have := countP_lt (fun y hy => h1 y (by simp [hy])) ⟨x, hx, hp, hq⟩
      have h3 := h1 a (by simp)
      by_cases hpa : p a = true
      · simp [hpa, h3 hpa]; omega
      · simp [hpa]; split <;> omega
theorem fx_lt {m : MachD} {c : List Int} (hc : Inv m c) (hne : nextL m c ≠ c) : fx m c < fx m (nextL m c) := by
  unfold fx
  refine countP_lt (fun i hi h => ?_) ?_
  · simp at hi h
    simp only [decide_eq_true_eq]
    rw [nextL_at hi]
    have h1 := nx_le m c i
    have h2 := mark_head (nx_mark m c i)
    have h3 := (hc.nat (nx m c i) (by omega)).2
    omega
  · have hex : ∃ i, i < m.out.length ∧ at0 (nextL m c) i ≠ at0 c i := by
      apply Decidable.byContradiction
      intro hno
      apply hne
      refine list_ext_at (by rw [hc.len]; simp [nextL]) fun i hi => ?_
      apply Decidable.byContradiction
      intro h
      exact hno ⟨i, by simpa [nextL] using hi, h⟩
    obtain ⟨i, hi, hni⟩ := hex
    have h1 := nx_le m c i
    have h2 := mark_head (nx_mark m c i)
    rw [nextL_at hi] at hni
    refine ⟨nx m c i, by simp; omega, ?_, ?_⟩
    · simp only [decide_eq_false_iff_not]
      intro h; apply hni; rw [← h2, h]
    · simp only [decide_eq_true_eq]
      rw [nextL_at (by omega), nx_iff.2 (nx_mark m c i)]
theorem class_of_stable {m : MachD} (g : Good m) {c : List Int} (hc : Inv m c) (hs : nextL m c = c) : ClassOf m c := by
  have hstep : ∀ i k, i < m.out.length → k < m.out.length → at0 c i = at0 c k → markL m c i = markL m c k := by
    intro i k hi hk h
    rw [← hs, nextL_at hi, nextL_at hk] at h
    exact nx_iff.1 (by omega)
  refine ⟨hc.len, hc.nat, hc.own, fun i k hi hk => ⟨fun h => ?_, hc.eqv i k hi hk⟩⟩
  have key : ∀ (w : List Int) (i k : Nat), i < m.out.length → k < m.out.length → at0 c i = at0 c k → word m w → tells m i w = tells m k w := by
    intro w
    induction w with
    | nil => intros; rfl
    | cons x w ih =>
      intro i k hi hk h hw
      have hm := mark_rows g hi hk (hstep i k hi hk h)
      have hx := hw x (by simp)
      simp only [tells]
      rw [ih _ _ (nextAt_lt g hi hx) (nextAt_lt g hk hx) (hm.2 x hx) (fun y hy => hw y (by simp [hy]))]
      simp [outAt, hm.1]
  exact fun w hw => key w i k hi hk h hw
end Go.Proofs.YtkcggmhllijgcaaDoor
