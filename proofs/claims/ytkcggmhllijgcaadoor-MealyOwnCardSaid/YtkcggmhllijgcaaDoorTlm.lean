/- The words of wset.Set: of a least machine they tell each two states apart. Plain mathematics. No conditions. -/
import Derived.Test.YtkcggmhllijgcaaDoorLsp
import Derived.Test.YtkcggmhllijgcaaDoorMex
import Derived.Test.YtkcggmhllijgcaaDoorSet
namespace Go.Proofs.YtkcggmhllijgcaaDoor
section
variable {m l : MachD} {c : List Int} (g : Good m) (hc : ClassOf m c) (hl : LeastD m c l)
include g hc hl
theorem least_key : ∃ O : List Int, O.Nodup ∧ O.length = l.out.length ∧ (∀ k, k < l.out.length → 0 ≤ at0 O k ∧ at0 O k < m.out.length ∧ at0 c (at0 O k).toNat = at0 O k) ∧ ∀ (w : List Int) (k : Nat), k < l.out.length → word m w → tells l k w = tells m (at0 O k).toNat w := by
  obtain ⟨K, k1, k2, rfl⟩ := hl
  obtain ⟨h1, h2, h3, h4, h5, h6⟩ := st_inv g hc K k2
  have hle := st_le g hc k2
  have rows := st_rows g hc K k2
  generalize hO : (st m c K).ord = O at *
  generalize hS : (st m c K).outs = outs at *
  generalize hN : (st m c K).nexts = nexts at *
  have rep : ∀ k, k < K → 0 ≤ at0 O k ∧ at0 O k < m.out.length ∧ at0 c (at0 O k).toNat = at0 O k := fun k hk => h1 _ (mem_at (by omega))
  have nx : ∀ k, k < K → ∀ x, x < ins m → at0 (rowAt nexts k) x = ixOf O (at0 (trg m c (at0 O k).toNat) x) ∧ at0 (trg m c (at0 O k).toNat) x ∈ O := fun k hk x hx => by
    obtain ⟨i1, i2, i3⟩ := rows k hk
    have := rep k hk
    have lt : x < (trg m c (at0 O k).toNat).length := by rw [trg_len, g.rowN _ (by omega)]; exact hx
    refine ⟨?_, i3 _ (mem_at lt)⟩
    rw [i2]
    exact at0_map _ _ _ lt
  have key : ∀ (w : List Int) (k : Nat), k < K → word m w → tells ⟨outs, nexts⟩ k w = tells m (at0 O k).toNat w := by
    intro w
    induction w with
    | nil => intro _ _ _; rfl
    | cons x w ih =>
      intro k hk hw
      have hx := hw x (by simp)
      have hx2 : x.toNat < ins m := by have := hx.1; have := hx.2; omega
      have rk := rep k hk
      obtain ⟨i1, i2, i3⟩ := rows k hk
      obtain ⟨j1, j2⟩ := nx k hk x.toNat hx2
      have tt : at0 (trg m c (at0 O k).toNat) x.toNat = at0 c (nextAt m (at0 O k).toNat x) := trg_at (by rw [g.rowN _ (by omega)]; exact hx2)
      have eo : outAt ⟨outs, nexts⟩ k x = outAt m (at0 O k).toNat x := by
        show at0 (rowAt outs k) x.toNat = _
        rw [i1]; rfl
      have en : nextAt ⟨outs, nexts⟩ k x = (ixOf O (at0 (trg m c (at0 O k).toNat) x.toNat)).toNat := by
        show (at0 (rowAt nexts k) x.toNat).toNat = _
        rw [j1]
      have ls := ix_lt (zs := O) (x := at0 (trg m c (at0 O k).toNat) x.toNat)
      have lg := (ix_ge (zs := O) (x := at0 (trg m c (at0 O k).toNat) x.toNat)).2 j2
      have nm := nextAt_lt g (s := (at0 O k).toNat) (by omega) hx
      simp only [tells, eo]
      rw [en, ih _ (by omega) (fun y hy => hw y (by simp [hy])), at_ix j2, tt]
      congr 1
      have e1 : Eqv m (at0 c (nextAt m (at0 O k).toNat x)).toNat (nextAt m (at0 O k).toNat x) := by
        have n1 := hc.nat _ nm
        exact (hc.eqv _ _ (by omega) nm).1 (hc.own _ nm)
      exact e1 w fun y hy => hw y (by simp [hy])
  exact ⟨O, h2, by show _ = outs.length; omega, fun k hk => rep k (by have : k < outs.length := hk; omega), fun w k hk hw => key w k (by have : k < outs.length := hk; omega) hw⟩
theorem least_apart {i k : Nat} (hi : i < l.out.length) (hk : k < l.out.length) (hik : i ≠ k) : ∃ f, First l l i k f := by
  obtain ⟨_, inl, _, _⟩ := least_props g hc hl
  obtain ⟨O, o1, o2, o3, o4⟩ := least_key g hc hl
  rcases first_or l l i k with h | h
  · exact h
  · exfalso
    apply hik
    have ri := o3 i hi
    have rk := o3 k hk
    have e : Eqv m (at0 O i).toNat (at0 O k).toNat := fun w hw => by
      rw [← o4 w i hi hw, ← o4 w k hk hw]
      exact h w fun x hx => by have := hw x hx; exact ⟨this.1, by rw [inl]; exact this.2⟩
    have e2 := (hc.eqv _ _ (by omega) (by omega)).2 e
    rw [ri.2.2, rk.2.2] at e2
    have li : i < O.length := by omega
    have lk : k < O.length := by omega
    unfold at0 at e2
    rw [List.getD_eq_getElem?_getD, List.getD_eq_getElem?_getD, List.getElem?_eq_getElem li, List.getElem?_eq_getElem lk] at e2
    simp at e2
    exact (List.getElem_inj o1).1 e2
end
theorem mem_setAdd {ll : List (List Int)} {r x : List Int} : x ∈ setAdd ll r ↔ x ∈ ll ∨ x = r := by
  unfold setAdd
  split
  · rename_i h
    exact ⟨.inl, fun k => k.elim id fun e => e ▸ h⟩
  · simp
theorem mem_addW {m : MachD} {out : List (List Int)} {i k : Nat} {x : List Int} : x ∈ addW m out i k ↔ x ∈ out ∨ First m m i k x := by
  unfold addW
  split
  · rename_i h
    obtain ⟨f, hf⟩ := h
    rw [mem_setAdd, (apart_yes hf).1]
    exact ⟨fun h => h.elim .inl fun e => .inr (e ▸ hf), fun h => h.elim .inl fun e => .inr (First.uniq e hf)⟩
  · rename_i h
    exact ⟨.inl, fun k => k.elim id fun e => absurd ⟨x, e⟩ h⟩
theorem mem_setIn {m : MachD} {out : List (List Int)} {i : Nat} {x : List Int} : ∀ t, x ∈ setIn m out i t ↔ x ∈ out ∨ ∃ k, i < k ∧ k < i + 1 + t ∧ First m m i k x
  | 0 => ⟨.inl, fun h => h.elim id fun ⟨k, h1, h2, _⟩ => by omega⟩
  | t + 1 => by
    simp only [setIn]
    rw [mem_addW, mem_setIn t]
    constructor
    · rintro ((h | ⟨k, h1, h2, h3⟩) | h)
      · exact .inl h
      · exact .inr ⟨k, h1, by omega, h3⟩
      · exact .inr ⟨i + 1 + t, by omega, by omega, h⟩
    · rintro (h | ⟨k, h1, h2, h3⟩)
      · exact .inl (.inl h)
      · by_cases hk : k = i + 1 + t
        · subst hk; exact .inr h3
        · exact .inl (.inr ⟨k, h1, by omega, h3⟩)
theorem mem_setTo {m : MachD} {x : List Int} : ∀ j, j ≤ m.out.length → (x ∈ setTo m j ↔ ∃ i k, i < j ∧ i < k ∧ k < m.out.length ∧ First m m i k x)
  | 0, _ => ⟨fun h => by simp [setTo] at h, fun ⟨i, k, h, _⟩ => by omega⟩
  | j + 1, hj => by
    simp only [setTo]
    rw [mem_setIn, mem_setTo j (by omega)]
    constructor
    · rintro (⟨i, k, h1, h2, h3, h4⟩ | ⟨k, h1, h2, h3⟩)
      · exact ⟨i, k, by omega, h2, h3, h4⟩
      · exact ⟨j, k, by omega, h1, by omega, h3⟩
    · rintro ⟨i, k, h1, h2, h3, h4⟩
      by_cases hi : i = j
      · subst hi; exact .inr ⟨k, h2, by omega, h4⟩
      · exact .inl ⟨i, k, by omega, h2, h3, h4⟩
theorem mem_setL {m : MachD} {x : List Int} : x ∈ setL m ↔ ∃ i k, i < k ∧ k < m.out.length ∧ First m m i k x := by
  unfold setL
  rw [mem_setTo _ (Nat.le_refl _)]
  exact ⟨fun ⟨i, k, _, h2, h3, h4⟩ => ⟨i, k, h2, h3, h4⟩, fun ⟨i, k, h2, h3, h4⟩ => ⟨i, k, by omega, h2, h3, h4⟩⟩
theorem First.symm {m : MachD} {i k : Nat} {f : List Int} (h : First m m i k f) : First m m k i f := ⟨h.1, fun e => h.2.1 e.symm, fun v h1 h2 => h.2.2 v h1 fun e => h2 e.symm⟩
theorem setL_word {m : MachD} {x : List Int} (g : Good m) (h : x ∈ setL m) : word m x ∧ x.length ≤ 11 := by
  obtain ⟨i, k, h1, h2, h3⟩ := mem_setL.1 h
  have g1 := g.le
  have := first_len g g rfl (by omega) h2 h3
  exact ⟨h3.1, by omega⟩
theorem setL_len (m : MachD) : 2 * (setL m).length ≤ m.out.length * (m.out.length - 1) := by
  have h := setTo_len (m := m) m.out.length (Nat.le_refl _)
  unfold setL
  generalize m.out.length = n at *
  generalize (setTo m n).length = a at *
  rw [Nat.mul_sub, Nat.mul_one]
  rw [Nat.mul_assoc] at h
  omega
/-- of a least machine's words one tells two states apart -/
theorem setL_tells {m l : MachD} {c : List Int} (g : Good m) (hc : ClassOf m c) (hl : LeastD m c l) {i k : Nat} (hi : i < l.out.length) (hk : k < l.out.length) (hik : i ≠ k) : ∃ x ∈ setL l, tells l i x ≠ tells l k x := by
  obtain ⟨f, hf⟩ := least_apart g hc hl hi hk hik
  refine ⟨f, ?_, hf.2.1⟩
  rw [mem_setL]
  rcases Nat.lt_or_gt_of_ne hik with h | h
  · exact ⟨i, k, h, hk, hf⟩
  · exact ⟨k, i, h, hi, hf.symm⟩
end Go.Proofs.YtkcggmhllijgcaaDoor
