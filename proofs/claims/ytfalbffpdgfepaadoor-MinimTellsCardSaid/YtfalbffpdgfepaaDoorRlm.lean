/- The reference's way to the least machine: the states in their order first, then what each tells and where it goes. Plain mathematics. No conditions. -/
import Derived.Test.YtfalbffpdgfepaaDoorLst
namespace Go.Proofs.YtfalbffpdgfepaaDoor
theorem ix_prefix {p r : List Int} {x : Int} (h : x ∈ p) : ixOf (p ++ r) x = ixOf p x := by
  unfold ixOf
  rw [if_pos h, if_pos (List.mem_append_left _ h), List.idxOf_append, if_pos h]
theorem scan_all : ∀ (ts o : List Int), (scan o ts).2 = ts.map (ixOf (scan o ts).1)
  | [], _ => rfl
  | t :: ts, o => by
    obtain ⟨r, hr⟩ := scan_prefix ts (step1 o t)
    simp only [scan, List.map_cons]
    rw [scan_all ts (step1 o t), hr, ix_prefix (step1_mem o t)]
def oTo (m : MachD) (O : List Int) (k : Nat) : List (List Int) := (List.range k).map fun q => rowAt m.out (at0 O q).toNat
def nTo (m : MachD) (c O : List Int) (k : Nat) : List (List Int) := (List.range k).map fun q => (trg m c (at0 O q).toNat).map (ixOf O)
theorem oTo_succ (m : MachD) (O : List Int) (k : Nat) : oTo m O (k + 1) = oTo m O k ++ [rowAt m.out (at0 O k).toNat] := by unfold oTo; rw [List.range_succ, List.map_append]; rfl
theorem nTo_succ (m : MachD) (c O : List Int) (k : Nat) : nTo m c O (k + 1) = nTo m c O k ++ [(trg m c (at0 O k).toNat).map (ixOf O)] := by unfold nTo; rw [List.range_succ, List.map_append]; rfl
theorem oTo_len (m : MachD) (O : List Int) (k : Nat) : (oTo m O k).length = k := by unfold oTo; simp
theorem nTo_len (m : MachD) (c O : List Int) (k : Nat) : (nTo m c O k).length = k := by unfold nTo; simp
theorem at0_prefix {p r : List Int} {k : Nat} (h : k < p.length) : at0 (p ++ r) k = at0 p k := by
  unfold at0; rw [List.getD_eq_getElem?_getD, List.getD_eq_getElem?_getD, List.getElem?_append_left h]
theorem st_prefix (m : MachD) (c : List Int) (k : Nat) : ∀ d, ∃ r, (st m c (k + d)).ord = (st m c k).ord ++ r
  | 0 => ⟨[], by simp⟩
  | d + 1 => by
    obtain ⟨r, hr⟩ := st_prefix m c k d
    obtain ⟨r2, hr2⟩ := scan_prefix (trg m c (at0 (st m c (k + d)).ord (k + d)).toNat) (st m c (k + d)).ord
    exact ⟨r ++ r2, by rw [← List.append_assoc, ← hr]; exact hr2⟩
theorem st_lists {m : MachD} {c : List Int} {K : Nat} (h : ∀ j, j < K → j < (st m c j).ord.length) : ∀ k, k ≤ K → (st m c k).outs = oTo m (st m c K).ord k ∧ (st m c k).nexts = nTo m c (st m c K).ord k
  | 0, _ => ⟨rfl, rfl⟩
  | k + 1, hk => by
    obtain ⟨h1, h2⟩ := st_lists h k (by omega)
    have hl := h k (by omega)
    obtain ⟨r, hr⟩ := st_prefix m c k (K - k)
    rw [show k + (K - k) = K by omega] at hr
    obtain ⟨r2, hr2⟩ := st_prefix m c (k + 1) (K - (k + 1))
    rw [show k + 1 + (K - (k + 1)) = K by omega] at hr2
    have e1 : at0 (st m c K).ord k = at0 (st m c k).ord k := by rw [hr]; exact at0_prefix hl
    rw [oTo_succ, nTo_succ, e1, ← h1, ← h2]
    refine ⟨rfl, ?_⟩
    show (st m c k).nexts ++ [(scan (st m c k).ord (trg m c (at0 (st m c k).ord k).toNat)).2] = _
    rw [scan_all]
    congr 2
    refine List.map_congr_left fun t ht => ?_
    have hm := scan_mem _ (st m c k).ord ht
    rw [hr2]
    exact (ix_prefix hm).symm
theorem leastD_two {m : MachD} {c : List Int} {K : Nat} (h : ∀ j, j < K → j < (st m c j).ord.length) (hK : (st m c K).ord.length = K) : LeastD m c ⟨oTo m (st m c K).ord K, nTo m c (st m c K).ord K⟩ := by
  obtain ⟨h1, h2⟩ := st_lists h K (Nat.le_refl _)
  exact ⟨K, hK, h, by rw [h1, h2]⟩
/-- where one goes is among the states -/
theorem trg_in {m : MachD} {c : List Int} {K k : Nat} (hk : k < K) (h : ∀ j, j < K → j < (st m c j).ord.length) : ∀ t ∈ trg m c (at0 (st m c K).ord k).toNat, t ∈ (st m c K).ord := by
  obtain ⟨r, hr⟩ := st_prefix m c k (K - k)
  rw [show k + (K - k) = K by omega] at hr
  obtain ⟨r2, hr2⟩ := st_prefix m c (k + 1) (K - (k + 1))
  rw [show k + 1 + (K - (k + 1)) = K by omega] at hr2
  have e1 : at0 (st m c K).ord k = at0 (st m c k).ord k := by rw [hr]; exact at0_prefix (h k hk)
  intro t ht
  rw [e1] at ht
  have hm : t ∈ (st m c (k + 1)).ord := scan_mem _ (st m c k).ord ht
  rw [hr2]
  exact List.mem_append_left _ hm
theorem map_take_succ {f : Int → Int} {l : List Int} {j : Nat} (h : j < l.length) : ((l.take (j + 1)).map f) = (l.take j).map f ++ [f (at0 l j)] := by
  rw [take_snoc l j h, List.map_append]; rfl
end Go.Proofs.YtfalbffpdgfepaaDoor
