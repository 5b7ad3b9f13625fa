/- Moore's bound for one machine, and its classes by words of at most eight letters. Plain mathematics. No conditions. -/
import Derived.Test.YtfalbffpdgfepaaDoorDfm
import Derived.Test.YtfalbffpdgfepaaDoorMoo
namespace Go.Proofs.YtfalbffpdgfepaaDoor
def E1 (m : MachD) (n s t : Nat) : Prop := ∀ w, word m w → w.length ≤ n → tells m s w = tells m t w
section
variable {m : MachD} (g : Good m)
include g
theorem E1_step {n : Nat} (h : ∀ s t, s < m.out.length → t < m.out.length → E1 m n s t → E1 m (n + 1) s t) :
    ∀ s t, s < m.out.length → t < m.out.length → E1 m (n + 1) s t → E1 m (n + 2) s t := by
  intro s t hs ht hE w hw hl
  cases w with
  | nil => rfl
  | cons x w =>
    have hx := hw x (by simp)
    have hw' : word m w := fun y hy => hw y (by simp [hy])
    have h1 := hE [x] (fun y hy => by simp at hy; subst hy; exact hx) (by simp)
    simp only [tells] at h1
    have ho : outAt m s x = outAt m t x := (List.cons.inj h1).1
    have hn : E1 m n (nextAt m s x) (nextAt m t x) := by
      intro v hv hvl
      have h2 := hE (x :: v) (fun y hy => by simp at hy; rcases hy with rfl | hy; exact hx; exact hv y hy) (by simp; omega)
      simp only [tells] at h2
      exact (List.cons.inj h2).2
    simp only [tells]
    rw [ho, h _ _ (nextAt_lt g hs hx) (nextAt_lt g ht hx) hn w hw' (by simp at hl; omega)]
theorem E1_ever {n : Nat} (h : ∀ s t, s < m.out.length → t < m.out.length → E1 m n s t → E1 m (n + 1) s t) :
    ∀ k s t, s < m.out.length → t < m.out.length → E1 m n s t → E1 m (n + k) s t := by
  have all : ∀ k, ∀ s t, s < m.out.length → t < m.out.length → E1 m (n + k) s t → E1 m (n + k + 1) s t := by
    intro k
    induction k with
    | zero => exact h
    | succ k ih => exact E1_step g ih
  intro k
  induction k with
  | zero => intro s t _ _ h; exact h
  | succ k ih => intro s t hs ht hE; exact all k s t hs ht (ih s t hs ht hE)
theorem moore1 {s t : Nat} (hs : s < m.out.length) (ht : t < m.out.length) (h : E1 m 8 s t) : Eqv m s t := by
  obtain ⟨n, hn, hst⟩ := stable_at (E1 m) m.out.length (fun n s w _ _ => rfl) (fun n s t h w h1 h2 => (h w h1 h2).symm) (fun n s t u h k w h1 h2 => (h w h1 h2).trans (k w h1 h2)) (fun n s t h w h1 h2 => h w h1 (by omega)) g.pos
  have hl := g.le
  intro w hw
  have h1 : E1 m n s t := fun v hv hvl => h v hv (by omega)
  exact E1_ever g hst w.length s t hs ht h1 w hw (by omega)
theorem df8_iff {s t : Nat} (hs : s < m.out.length) (ht : t < m.out.length) : df m m 8 s t = false ↔ Eqv m s t := by
  constructor
  · intro h
    refine moore1 g hs ht fun w hw hl => Classical.byContradiction fun hne => ?_
    have := (df_iff 8 s t).2 ⟨w, hw, hl, hne⟩
    rw [h] at this; cases this
  · intro h
    cases hd : df m m 8 s t with
    | false => rfl
    | true =>
      obtain ⟨w, h1, _, h3⟩ := (df_iff 8 s t).1 hd
      exact absurd (h w h1) h3
/-- k is the least one alike -/
def ClsAt (m : MachD) (i k : Nat) : Prop := k ≤ i ∧ df m m 8 k i = false ∧ ∀ j, j < k → df m m 8 j i = true
/-- the classes of the first so many states -/
def ClsTo (m : MachD) (c : List Int) (n : Nat) : Prop := c.length = n ∧ ∀ i, i < n → ∃ k : Nat, at0 c i = (k : Int) ∧ ClsAt m i k
omit g in
theorem clsTo_zero : ClsTo m [] 0 := ⟨rfl, fun i hi => by omega⟩
omit g in
theorem clsTo_snoc {c : List Int} {n k : Nat} (h : ClsTo m c n) (hk : ClsAt m n k) : ClsTo m (c ++ [(k : Int)]) (n + 1) := by
  refine ⟨by simp [h.1], fun i hi => ?_⟩
  by_cases hin : i = n
  · subst hin
    refine ⟨k, ?_, hk⟩
    unfold at0; rw [List.getD_eq_getElem?_getD, ← h.1]; simp
  · obtain ⟨j, hj, h2⟩ := h.2 i (by omega)
    refine ⟨j, ?_, h2⟩
    rw [← hj]; unfold at0
    rw [List.getD_eq_getElem?_getD, List.getD_eq_getElem?_getD, List.getElem?_append_left (by rw [h.1]; omega)]
omit g in
theorem clsTo_wf {c : List Int} {n : Nat} (h : ClsTo m c n) (hn : n ≤ 6) : ∀ z ∈ c, (Lit.int .i64 z).wf = true := fun z hz => by
  obtain ⟨i, hi, rfl⟩ := List.getElem_of_mem hz
  obtain ⟨k, hk, h2⟩ := h.2 i (by rw [← h.1]; exact hi)
  have e : c[i] = at0 c i := by unfold at0; rw [List.getD_eq_getElem?_getD, List.getElem?_eq_getElem hi]; rfl
  rw [e, hk]
  have := h2.1
  rw [h.1] at hi
  exact wf_small (by omega)
theorem clsTo_all {c : List Int} (h : ClsTo m c m.out.length) : ClassOf m c := by
  have key : ∀ i k j l : Nat, i < m.out.length → k < m.out.length → ClsAt m i j → ClsAt m k l → (j = l ↔ Eqv m i k) := by
    intro i k j l hi hk h1 h2
    have e1 := (df8_iff g (by have := h1.1; omega) hi).1 h1.2.1
    have e2 := (df8_iff g (by have := h2.1; omega) hk).1 h2.2.1
    constructor
    · rintro rfl
      exact e1.symm.trans e2
    · intro he
      have n1 : ¬ j < l := fun hlt => by
        have h3 := h2.2.2 j hlt
        have h4 := (df8_iff g (by have := h1.1; omega) hk).2 (e1.trans he)
        rw [h3] at h4; cases h4
      have n2 : ¬ l < j := fun hlt => by
        have h3 := h1.2.2 l hlt
        have h4 := (df8_iff g (by have := h2.1; omega) hi).2 (e2.trans he.symm)
        rw [h3] at h4; cases h4
      omega
  refine ⟨h.1, fun i hi => ?_, fun i hi => ?_, fun i k hi hk => ?_⟩
  · obtain ⟨k, hk, h2⟩ := h.2 i hi
    have := h2.1
    omega
  · obtain ⟨k, hk, h2⟩ := h.2 i hi
    have hkl : k < m.out.length := by have := h2.1; omega
    obtain ⟨j, hj, h3⟩ := h.2 k hkl
    rw [hk, Int.toNat_natCast, hj]
    have := (key k i j k hkl hi h3 h2).2 ((df8_iff g hkl hi).1 h2.2.1)
    omega
  · obtain ⟨j, hj, h1⟩ := h.2 i hi
    obtain ⟨l, hl, h2⟩ := h.2 k hk
    rw [hj, hl]
    exact Int.ofNat_inj.trans (key i k j l hi hk h1 h2)
omit g in
theorem class_uniq {c c' : List Int} (h : ClassOf m c) (h' : ClassOf m c') : c = c' := by
  have key : ∀ {c c' : List Int}, ClassOf m c → ClassOf m c' → ∀ i, i < m.out.length → at0 c' i ≤ at0 c i := by
    intro c c' h h' i hi
    have n1 := h.nat i hi
    have hx : (at0 c i).toNat < m.out.length := by omega
    have e1 := (h.eqv _ i hx hi).1 (h.own i hi)
    have e2 := (h'.eqv _ i hx hi).2 e1
    have n2 := h'.nat _ hx
    omega
  refine list_ext_at (by rw [h.len, h'.len]) fun i hi => ?_
  rw [h.len] at hi
  have := key h h' i hi
  have := key h' h i hi
  omega
omit g in
theorem df_self (n i : Nat) : df m m n i i = false := by
  cases hd : df m m n i i with
  | false => rfl
  | true =>
    obtain ⟨w, _, _, h3⟩ := (df_iff n i i).1 hd
    exact absurd rfl h3
end
end Go.Proofs.YtfalbffpdgfepaaDoor
