/- The least machine as plain mathematics: the states in the order in which one comes to them. No conditions. -/
import Derived.Test.YtkcggmhllijgcaaDoorCla
namespace Go.Proofs.YtkcggmhllijgcaaDoor
def step1 (o : List Int) (t : Int) : List Int := if t ∈ o then o else o ++ [t]
def scan : List Int → List Int → List Int × List Int
  | o, [] => (o, [])
  | o, t :: ts => ((scan (step1 o t) ts).1, ixOf (step1 o t) t :: (scan (step1 o t) ts).2)
theorem scan_snoc : ∀ (ts : List Int) (o : List Int) (t : Int), scan o (ts ++ [t]) = (step1 (scan o ts).1 t, (scan o ts).2 ++ [ixOf (step1 (scan o ts).1 t) t])
  | [], o, t => rfl
  | a :: ts, o, t => by simp only [List.cons_append, scan, scan_snoc ts (step1 o a) t]
def trg (m : MachD) (c : List Int) (i : Nat) : List Int := (rowAt m.next i).map fun y => at0 c y.toNat
/-- the states met, what they tell, where they go, behind k of them -/
structure St where
  ord : List Int
  outs : List (List Int)
  nexts : List (List Int)
def stNext (m : MachD) (c : List Int) (s : St) (k : Nat) : St :=
  ⟨(scan s.ord (trg m c (at0 s.ord k).toNat)).1, s.outs ++ [rowAt m.out (at0 s.ord k).toNat], s.nexts ++ [(scan s.ord (trg m c (at0 s.ord k).toNat)).2]⟩
def st (m : MachD) (c : List Int) : Nat → St
  | 0 => ⟨[at0 c 0], [], []⟩
  | k + 1 => stNext m c (st m c k) k
/-- l is the least machine of m, by the classes c -/
def LeastD (m : MachD) (c : List Int) (l : MachD) : Prop :=
  ∃ K, (st m c K).ord.length = K ∧ (∀ k, k < K → k < (st m c k).ord.length) ∧ l = ⟨(st m c K).outs, (st m c K).nexts⟩
theorem step1_sub {o : List Int} {t : Int} {x : Int} (h : x ∈ o) : x ∈ step1 o t := by
  unfold step1; split
  · exact h
  · simp [h]
theorem step1_len (o : List Int) (t : Int) : o.length ≤ (step1 o t).length ∧ (step1 o t).length ≤ o.length + 1 := by
  unfold step1; split <;> simp
theorem step1_mem (o : List Int) (t : Int) : t ∈ step1 o t := by
  unfold step1; split
  · assumption
  · simp
theorem mem_step1 {o : List Int} {t x : Int} (h : x ∈ step1 o t) : x ∈ o ∨ x = t := by
  unfold step1 at h; split at h
  · exact .inl h
  · simpa using h
theorem step1_nodup {o : List Int} {t : Int} (h : o.Nodup) : (step1 o t).Nodup := by
  unfold step1; split
  · exact h
  · rename_i hn
    rw [List.nodup_append]
    refine ⟨h, by simp, ?_⟩
    intro a ha b hb
    simp at hb; subst hb
    intro e; subst e; exact hn ha
theorem step1_prefix (o : List Int) (t : Int) : ∃ r, step1 o t = o ++ r := by
  unfold step1; split
  · exact ⟨[], by simp⟩
  · exact ⟨[t], rfl⟩
theorem scan_prefix : ∀ (ts o : List Int), ∃ r, (scan o ts).1 = o ++ r
  | [], o => ⟨[], by simp [scan]⟩
  | t :: ts, o => by
    obtain ⟨r1, h1⟩ := step1_prefix o t
    obtain ⟨r2, h2⟩ := scan_prefix ts (step1 o t)
    exact ⟨r1 ++ r2, by simp only [scan]; rw [h2, h1, List.append_assoc]⟩
theorem scan_nodup : ∀ (ts o : List Int), o.Nodup → (scan o ts).1.Nodup
  | [], _, h => h
  | t :: ts, o, h => by simp only [scan]; exact scan_nodup ts _ (step1_nodup h)
theorem mem_scan : ∀ (ts o : List Int) {x : Int}, x ∈ (scan o ts).1 → x ∈ o ∨ x ∈ ts
  | [], _, _, h => .inl h
  | t :: ts, o, x, h => by
    simp only [scan] at h
    rcases mem_scan ts _ h with h | h
    · rcases mem_step1 h with h | rfl
      · exact .inl h
      · exact .inr (by simp)
    · exact .inr (by simp [h])
theorem scan_mem : ∀ (ts o : List Int) {x : Int}, x ∈ ts → x ∈ (scan o ts).1
  | t :: ts, o, x, h => by
    simp only [scan]
    rcases List.mem_cons.1 h with rfl | h
    · obtain ⟨r, hr⟩ := scan_prefix ts (step1 o x)
      rw [hr]; simp [step1_mem]
    · exact scan_mem ts _ h
theorem scan_len : ∀ (ts o : List Int), (scan o ts).2.length = ts.length
  | [], _ => rfl
  | t :: ts, o => by simp only [scan, List.length_cons, scan_len ts]
/-- states of the classes -/
def Reps (m : MachD) (c : List Int) (o : List Int) : Prop := ∀ x ∈ o, 0 ≤ x ∧ x < m.out.length ∧ at0 c x.toNat = x
theorem trg_reps {m : MachD} {c : List Int} (g : Good m) (hc : ClassOf m c) {i : Nat} (hi : i < m.out.length) : Reps m c (trg m c i) := by
  intro x hx
  unfold trg at hx
  simp only [List.mem_map] at hx
  obtain ⟨y, hy, rfl⟩ := hx
  obtain ⟨j, hj, rfl⟩ := List.getElem_of_mem hy
  have h1 := g.goes i hi j (by rw [g.rowN i hi] at hj; exact hj)
  have e : (rowAt m.next i)[j] = at0 (rowAt m.next i) j := by unfold at0; rw [List.getD_eq_getElem?_getD, List.getElem?_eq_getElem hj]; rfl
  rw [e]
  have h2 : (at0 (rowAt m.next i) j).toNat < m.out.length := by omega
  have h3 := hc.nat _ h2
  exact ⟨h3.1, by omega, hc.own _ h2⟩
theorem st_inv {m : MachD} {c : List Int} (g : Good m) (hc : ClassOf m c) : ∀ k, (∀ j, j < k → j < (st m c j).ord.length) → Reps m c (st m c k).ord ∧ (st m c k).ord.Nodup ∧ k ≤ (st m c k).ord.length ∧ 1 ≤ (st m c k).ord.length ∧ (st m c k).outs.length = k ∧ (st m c k).nexts.length = k
  | 0, _ => by
    have h0 := hc.nat 0 g.pos
    have h1 := hc.own 0 g.pos
    refine ⟨?_, by simp [st], by simp [st], by simp [st], rfl, rfl⟩
    intro x hx
    simp [st] at hx; subst hx
    have := g.pos
    exact ⟨h0.1, by omega, h1⟩
  | k + 1, h => by
    obtain ⟨h1, h2, h3, h4, h5, h6⟩ := st_inv g hc k (fun j hj => h j (by omega))
    have hk := h k (by omega)
    have hm : at0 (st m c k).ord k ∈ (st m c k).ord := mem_at hk
    have hi := h1 _ hm
    have hr := trg_reps g hc (i := (at0 (st m c k).ord k).toNat) (by omega)
    obtain ⟨r, hp⟩ := scan_prefix (trg m c (at0 (st m c k).ord k).toNat) (st m c k).ord
    simp only [st, stNext]
    refine ⟨fun x hx => ?_, scan_nodup _ _ h2, by rw [hp, List.length_append]; omega, by rw [hp, List.length_append]; omega, by simp [h5], by simp [h6]⟩
    rcases mem_scan _ _ hx with hx | hx
    · exact h1 x hx
    · exact hr x hx
theorem nodup_le : ∀ (n : Nat) {o : List Int}, o.Nodup → (∀ x ∈ o, 0 ≤ x ∧ x < n) → o.length ≤ n
  | 0, o, _, hb => by
    cases o with
    | nil => simp
    | cons a o => have := hb a (by simp); omega
  | n + 1, o, h, hb => by
    have h1 : (o.erase (n : Int)).Nodup := h.erase _
    have h2 := nodup_le n h1 fun x hx => by
      have h3 := hb x (List.mem_of_mem_erase hx)
      have h4 : x ≠ n := by intro e; subst e; exact (List.Nodup.not_mem_erase h) hx
      omega
    have := List.length_erase (a := (n : Int)) (l := o)
    split at this <;> omega
theorem st_le {m : MachD} {c : List Int} (g : Good m) (hc : ClassOf m c) {k : Nat} (h : ∀ j, j < k → j < (st m c j).ord.length) : (st m c k).ord.length ≤ m.out.length := by
  obtain ⟨h1, h2, _⟩ := st_inv g hc k h
  exact nodup_le _ h2 fun x hx => ⟨(h1 x hx).1, (h1 x hx).2.1⟩
theorem mid_succ {o ts : List Int} {t : Nat} (h : t < ts.length) : scan o (ts.take (t + 1)) = (step1 (scan o (ts.take t)).1 (at0 ts t), (scan o (ts.take t)).2 ++ [ixOf (step1 (scan o (ts.take t)).1 (at0 ts t)) (at0 ts t)]) := by
  have e : ts.take (t + 1) = ts.take t ++ [at0 ts t] := by
    rw [List.take_succ_eq_append_getElem h]; unfold at0; rw [List.getD_eq_getElem?_getD, List.getElem?_eq_getElem h]; rfl
  rw [e, scan_snoc]
theorem trg_len (m : MachD) (c : List Int) (i : Nat) : (trg m c i).length = (rowAt m.next i).length := by unfold trg; simp
theorem trg_at {m : MachD} {c : List Int} {i t : Nat} (h : t < (rowAt m.next i).length) : at0 (trg m c i) t = at0 c (at0 (rowAt m.next i) t).toNat := by
  unfold trg
  have e1 : at0 ((rowAt m.next i).map fun y => at0 c y.toNat) t = at0 c ((rowAt m.next i)[t]).toNat := by
    conv => lhs; unfold at0
    rw [List.getD_eq_getElem?_getD, List.getElem?_map, List.getElem?_eq_getElem h]; rfl
  have e2 : at0 (rowAt m.next i) t = (rowAt m.next i)[t] := by unfold at0; rw [List.getD_eq_getElem?_getD, List.getElem?_eq_getElem h]; rfl
  rw [e1, e2]
theorem mid_ok {m : MachD} {c : List Int} (g : Good m) (hc : ClassOf m c) {o : List Int} (hr : Reps m c o) (hn : o.Nodup) {i : Nat} (hi : i < m.out.length) (t : Nat) :
    Reps m c (scan o ((trg m c i).take t)).1 ∧ (scan o ((trg m c i).take t)).1.Nodup ∧ (scan o ((trg m c i).take t)).1.length ≤ m.out.length := by
  have h1 : Reps m c (scan o ((trg m c i).take t)).1 := fun x hx => by
    rcases mem_scan _ _ hx with h | h
    · exact hr x h
    · exact trg_reps g hc hi x (List.mem_of_mem_take h)
  have h2 := scan_nodup ((trg m c i).take t) o hn
  exact ⟨h1, h2, nodup_le _ h2 fun x hx => ⟨(h1 x hx).1, (h1 x hx).2.1⟩⟩
theorem step1_ok {m : MachD} {c : List Int} {o : List Int} (hr : Reps m c o) (hn : o.Nodup) {t : Int} (ht : 0 ≤ t ∧ t < m.out.length ∧ at0 c t.toNat = t) : Reps m c (step1 o t) ∧ (step1 o t).Nodup ∧ (step1 o t).length ≤ m.out.length := by
  have h1 : Reps m c (step1 o t) := fun x hx => by
    rcases mem_step1 hx with h | rfl
    · exact hr x h
    · exact ht
  have h2 := step1_nodup (t := t) hn
  exact ⟨h1, h2, nodup_le _ h2 fun x hx => ⟨(h1 x hx).1, (h1 x hx).2.1⟩⟩
theorem reps_wf {m : MachD} {c : List Int} (g : m.out.length ≤ 6) {o : List Int} (hr : Reps m c o) : ∀ z ∈ o, (Lit.int .i64 z).wf = true := fun z hz => by
  have := hr z hz
  obtain ⟨n, rfl⟩ : ∃ n : Nat, z = (n : Int) := ⟨z.toNat, by omega⟩
  exact wf_small (by omega)
theorem scan_ix : ∀ (ts o : List Int), ∀ z ∈ (scan o ts).2, 0 ≤ z ∧ z < (scan o ts).1.length
  | [], _, _, h => by simp [scan] at h
  | t :: ts, o, z, h => by
    simp only [scan] at h ⊢
    rcases List.mem_cons.1 h with rfl | h
    · obtain ⟨r, hr⟩ := scan_prefix ts (step1 o t)
      have h1 : 0 ≤ ixOf (step1 o t) t := ix_ge.2 (step1_mem o t)
      have h2 : ixOf (step1 o t) t < (step1 o t).length := ix_lt
      rw [hr, List.length_append]
      exact ⟨h1, by omega⟩
    · exact scan_ix ts _ z h
end Go.Proofs.YtkcggmhllijgcaaDoor
