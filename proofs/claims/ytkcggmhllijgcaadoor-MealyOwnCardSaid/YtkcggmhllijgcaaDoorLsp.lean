/- The least machine: it is right, tells the same of all words, and has no more states. Plain mathematics. No conditions. -/
import Derived.Test.YtkcggmhllijgcaaDoorSwp
namespace Go.Proofs.YtkcggmhllijgcaaDoor
theorem ix_ext {o r : List Int} {t : Int} (h : t ∈ o) : ixOf (o ++ r) t = ixOf o t := by
  unfold ixOf
  rw [if_pos h, if_pos (by simp [h]), List.idxOf_append, if_pos h]
theorem scan_idx : ∀ (ts o : List Int), (scan o ts).2 = ts.map fun t => ixOf (scan o ts).1 t
  | [], _ => rfl
  | t :: ts, o => by
    simp only [scan, List.map_cons]
    rw [scan_idx ts (step1 o t)]
    congr 1
    obtain ⟨r, hr⟩ := scan_prefix ts (step1 o t)
    rw [hr, ix_ext (step1_mem o t)]
theorem at_ix {o : List Int} {t : Int} (h : t ∈ o) : at0 o (ixOf o t).toNat = t := by
  unfold ixOf
  rw [if_pos h]
  unfold at0
  have h1 := List.idxOf_lt_length_of_mem h
  rw [List.getD_eq_getElem?_getD, Int.toNat_natCast, List.getElem?_eq_getElem h1]
  simp [List.getElem_idxOf]
theorem st_prefix (m : MachD) (c : List Int) (k : Nat) : ∀ j, ∃ r, (st m c (k + j)).ord = (st m c k).ord ++ r
  | 0 => ⟨[], by simp⟩
  | j + 1 => by
    obtain ⟨r, hr⟩ := st_prefix m c k j
    obtain ⟨r', hr'⟩ := scan_prefix (trg m c (at0 (st m c (k + j)).ord (k + j)).toNat) (st m c (k + j)).ord
    refine ⟨r ++ r', ?_⟩
    show (stNext m c (st m c (k + j)) (k + j)).ord = _
    simp only [stNext]
    rw [hr', hr, List.append_assoc]
theorem at0_append {o r : List Int} {i : Nat} (h : i < o.length) : at0 (o ++ r) i = at0 o i := by
  unfold at0; rw [List.getD_eq_getElem?_getD, List.getD_eq_getElem?_getD, List.getElem?_append_left h]
theorem st_rows {m : MachD} {c : List Int} (g : Good m) (hc : ClassOf m c) : ∀ K, (∀ j, j < K → j < (st m c j).ord.length) → ∀ k, k < K →
    rowAt (st m c K).outs k = rowAt m.out (at0 (st m c K).ord k).toNat ∧ rowAt (st m c K).nexts k = (trg m c (at0 (st m c K).ord k).toNat).map (fun t => ixOf (st m c K).ord t) ∧ ∀ t ∈ trg m c (at0 (st m c K).ord k).toNat, t ∈ (st m c K).ord
  | 0, _, k, hk => by omega
  | K + 1, h, k, hk => by
    have hK := h K (by omega)
    obtain ⟨h1, h2, h3, h4, h5, h6⟩ := st_inv g hc K (fun j hj => h j (by omega))
    obtain ⟨r, hp⟩ := scan_prefix (trg m c (at0 (st m c K).ord K).toNat) (st m c K).ord
    have e1 : (st m c (K + 1)).ord = (scan (st m c K).ord (trg m c (at0 (st m c K).ord K).toNat)).1 := rfl
    have e2 : (st m c (K + 1)).outs = (st m c K).outs ++ [rowAt m.out (at0 (st m c K).ord K).toNat] := rfl
    have e3 : (st m c (K + 1)).nexts = (st m c K).nexts ++ [(scan (st m c K).ord (trg m c (at0 (st m c K).ord K).toNat)).2] := rfl
    by_cases hkK : k < K
    · obtain ⟨i1, i2, i3⟩ := st_rows g hc K (fun j hj => h j (by omega)) k hkK
      have ea : at0 (st m c (K + 1)).ord k = at0 (st m c K).ord k := by rw [e1, hp]; exact at0_append (by omega)
      rw [ea, e2, e3, rowAt_append, if_pos (by omega), rowAt_append, if_pos (by omega), i1, i2]
      refine ⟨rfl, List.map_congr_left fun t ht => ?_, fun t ht => ?_⟩
      · rw [e1, hp, ix_ext (i3 t ht)]
      · rw [e1, hp]; simp [i3 t ht]
    · obtain rfl : k = K := by omega
      have ea : at0 (st m c (k + 1)).ord k = at0 (st m c k).ord k := by rw [e1, hp]; exact at0_append hK
      rw [ea, e2, e3, rowAt_append, if_neg (by omega), rowAt_append, if_neg (by omega), h5, h6, Nat.sub_self, e1]
      refine ⟨rfl, ?_, fun t ht => scan_mem _ _ ht⟩
      exact scan_idx _ _
section
variable {m l : MachD} {c : List Int} (g : Good m) (hc : ClassOf m c) (hl : LeastD m c l)
include g hc hl
theorem least_props : Good l ∧ ins l = ins m ∧ XEqv m 0 l 0 ∧ l.out.length ≤ m.out.length := by
  obtain ⟨K, k1, k2, rfl⟩ := hl
  obtain ⟨h1, h2, h3, h4, h5, h6⟩ := st_inv g hc K k2
  have hle := st_le g hc k2
  have rows := st_rows g hc K k2
  generalize hO : (st m c K).ord = O at *
  generalize hS : (st m c K).outs = outs at *
  generalize hN : (st m c K).nexts = nexts at *
  have rep : ∀ k, k < K → 0 ≤ at0 O k ∧ at0 O k < m.out.length ∧ at0 c (at0 O k).toNat = at0 O k := fun k hk => h1 _ (mem_at (by omega))
  have o0 : at0 O 0 = at0 c 0 := by
    obtain ⟨r, hr⟩ := st_prefix m c 0 K
    rw [Nat.zero_add, hO] at hr
    rw [hr]; rfl
  have rlen : ∀ k, k < K → (rowAt outs k).length = ins m ∧ (rowAt nexts k).length = ins m := fun k hk => by
    obtain ⟨i1, i2, _⟩ := rows k hk
    have := rep k hk
    rw [i1, i2, List.length_map, trg_len]
    exact ⟨g.rowO _ (by omega), g.rowN _ (by omega)⟩
  have inl : ins ⟨outs, nexts⟩ = ins m := (rlen 0 (by omega)).1
  have nx : ∀ k, k < K → ∀ x, x < ins m → at0 (rowAt nexts k) x = ixOf O (at0 (trg m c (at0 O k).toNat) x) ∧ at0 (trg m c (at0 O k).toNat) x ∈ O := fun k hk x hx => by
    obtain ⟨i1, i2, i3⟩ := rows k hk
    have := rep k hk
    have lt : x < (trg m c (at0 O k).toNat).length := by rw [trg_len, g.rowN _ (by omega)]; exact hx
    refine ⟨?_, i3 _ (mem_at lt)⟩
    rw [i2]
    exact at0_map _ _ _ lt
  have gl : Good ⟨outs, nexts⟩ := by
    refine ⟨by show 1 ≤ outs.length; omega, by show outs.length ≤ 6; have := g.le; omega, by show nexts.length = outs.length; omega, by rw [inl]; exact g.ins1, by rw [inl]; exact g.ins3, fun k hk => ?_, fun k hk => ?_, fun k hk x hx => ?_⟩
    · rw [inl]; exact (rlen k (by have : k < outs.length := hk; omega)).1
    · rw [inl]; exact (rlen k (by have : k < outs.length := hk; omega)).2
    · rw [inl] at hx
      have hk' : k < K := by have : k < outs.length := hk; omega
      obtain ⟨i1, i2⟩ := nx k hk' x hx
      show 0 ≤ at0 (rowAt nexts k) x ∧ at0 (rowAt nexts k) x < outs.length
      rw [i1]
      have j1 := (ix_ge (zs := O) (x := at0 (trg m c (at0 O k).toNat) x)).2 i2
      have j2 := ix_lt (zs := O) (x := at0 (trg m c (at0 O k).toNat) x)
      omega
  have key : ∀ (w : List Int) (k : Nat), k < K → word m w → tells ⟨outs, nexts⟩ k w = tells m (at0 O k).toNat w := by
    intro w
    induction w with
    | nil => intro _ _ _; rfl
    | cons x w ih =>
      intro k hk hw
      have hx := hw x (by simp)
      have hx2 : x.toNat < ins m := by have := hx.1; have := hx.2; omega
      have rk := rep k hk
      obtain ⟨i1, i2, i3⟩ := rows k hk
      obtain ⟨j1, j2⟩ := nx k hk x.toNat hx2
      have tt : at0 (trg m c (at0 O k).toNat) x.toNat = at0 c (nextAt m (at0 O k).toNat x) := trg_at (by rw [g.rowN _ (by omega)]; exact hx2)
      have eo : outAt ⟨outs, nexts⟩ k x = outAt m (at0 O k).toNat x := by
        show at0 (rowAt outs k) x.toNat = _
        rw [i1]; rfl
      have en : nextAt ⟨outs, nexts⟩ k x = (ixOf O (at0 (trg m c (at0 O k).toNat) x.toNat)).toNat := by
        show (at0 (rowAt nexts k) x.toNat).toNat = _
        rw [j1]
      have ls := ix_lt (zs := O) (x := at0 (trg m c (at0 O k).toNat) x.toNat)
      have lg := (ix_ge (zs := O) (x := at0 (trg m c (at0 O k).toNat) x.toNat)).2 j2
      have nm := nextAt_lt g (s := (at0 O k).toNat) (by omega) hx
      simp only [tells, eo]
      rw [en, ih _ (by omega) (fun y hy => hw y (by simp [hy])), at_ix j2, tt]
      congr 1
      have e1 : Eqv m (at0 c (nextAt m (at0 O k).toNat x)).toNat (nextAt m (at0 O k).toNat x) := by
        have n1 := hc.nat _ nm
        exact (hc.eqv _ _ (by omega) nm).1 (hc.own _ nm)
      exact e1 w fun y hy => hw y (by simp [hy])
  refine ⟨gl, inl, fun w hw => ?_, by show outs.length ≤ _; omega⟩
  rw [key w 0 (by omega) hw, o0]
  have n1 := hc.nat 0 g.pos
  have e1 : Eqv m (at0 c 0).toNat 0 := (hc.eqv _ _ (by have := g.pos; omega) g.pos).1 (hc.own 0 g.pos)
  exact (e1 w hw).symm
end
end Go.Proofs.YtkcggmhllijgcaaDoor
