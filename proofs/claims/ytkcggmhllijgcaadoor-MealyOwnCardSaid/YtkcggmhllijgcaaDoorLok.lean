/- Two right machines that tell the same of all words have one least machine. Plain mathematics. No conditions. -/
import Derived.Test.YtkcggmhllijgcaaDoorLst
namespace Go.Proofs.YtkcggmhllijgcaaDoor
def Rel (R : Int → Int → Prop) : List Int → List Int → Prop
  | [], [] => True
  | a :: pa, b :: qa => R a b ∧ Rel R pa qa
  | _, _ => False
section
variable {R : Int → Int → Prop}
theorem Rel.len : ∀ {a b : List Int}, Rel R a b → a.length = b.length
  | [], [], _ => rfl
  | a :: pa, b :: qa, h => by simp [Rel.len h.2]
theorem Rel.snoc : ∀ {a b : List Int} {x y : Int}, Rel R a b → R x y → Rel R (a ++ [x]) (b ++ [y])
  | [], [], _, _, _, h => ⟨h, trivial⟩
  | _a :: _pa, _b :: _qa, _, _, h, k => ⟨h.1, Rel.snoc h.2 k⟩
theorem Rel.at_ : ∀ {a b : List Int} {i : Nat}, Rel R a b → i < a.length → R (at0 a i) (at0 b i)
  | a :: pa, b :: qa, 0, h, _ => h.1
  | a :: pa, b :: qa, i + 1, h, hi => Rel.at_ (a := pa) (b := qa) (i := i) h.2 (by simpa using hi)
theorem Rel.of_at : ∀ {a b : List Int}, a.length = b.length → (∀ i, i < a.length → R (at0 a i) (at0 b i)) → Rel R a b
  | [], [], _, _ => trivial
  | a :: pa, b :: qa, hl, h => ⟨h 0 (by simp), Rel.of_at (by simpa using hl) fun i hi => h (i + 1) (by simpa using hi)⟩
variable (hinj : ∀ a a' b b', R a b → R a' b' → (a = a' ↔ b = b'))
include hinj
theorem Rel.mem : ∀ {a b : List Int} {x y : Int}, Rel R a b → R x y → (x ∈ a ↔ y ∈ b)
  | [], [], _, _, _, _ => by simp
  | a :: pa, b :: qa, x, y, h, k => by
    simp only [List.mem_cons]
    rw [hinj x a y b k h.1, Rel.mem h.2 k]
theorem Rel.idx : ∀ {a b : List Int} {x y : Int}, Rel R a b → R x y → a.idxOf x = b.idxOf y
  | [], [], _, _, _, _ => rfl
  | a :: pa, b :: qa, x, y, h, k => by
    rw [List.idxOf_cons, List.idxOf_cons]
    have e := hinj a x b y h.1 k
    by_cases hx : a = x
    · have hy := e.1 hx
      simp [hx, hy]
    · have hy : b ≠ y := fun h => hx (e.2 h)
      have := Rel.idx h.2 k
      have hx' : (a == x) = false := by simpa using hx
      have hy' : (b == y) = false := by simpa using hy
      rw [hx', hy', this]
theorem Rel.ix {a b : List Int} {x y : Int} (h : Rel R a b) (k : R x y) : ixOf a x = ixOf b y := by
  unfold ixOf
  have := Rel.mem hinj h k
  rw [Rel.idx hinj h k]
  by_cases hx : x ∈ a
  · rw [if_pos hx, if_pos (this.1 hx)]
  · rw [if_neg hx, if_neg fun h => hx (this.2 h)]
theorem Rel.step {a b : List Int} {x y : Int} (h : Rel R a b) (k : R x y) : Rel R (step1 a x) (step1 b y) := by
  unfold step1
  have := Rel.mem hinj h k
  by_cases hx : x ∈ a
  · rw [if_pos hx, if_pos (this.1 hx)]; exact h
  · rw [if_neg hx, if_neg fun h => hx (this.2 h)]; exact h.snoc k
theorem Rel.scan : ∀ {ts us a b : List Int}, Rel R ts us → Rel R a b → Rel R (scan a ts).1 (scan b us).1 ∧ (scan a ts).2 = (scan b us).2
  | [], [], _, _, _, h => ⟨h, rfl⟩
  | t :: ts, u :: us, a, b, k, h => by
    have h1 := Rel.step hinj h k.1
    have h2 := Rel.scan k.2 h1
    exact ⟨h2.1, by simp only [Proofs.YtkcggmhllijgcaaDoor.scan]; rw [Rel.ix hinj h1 k.1, h2.2]⟩
end
/-- a state of one machine and one of another, of which all words tell the same -/
def XEqv (m : MachD) (i : Nat) (m' : MachD) (k : Nat) : Prop := ∀ w, word m w → tells m i w = tells m' k w
section
variable {m m' : MachD} {c c' : List Int}
theorem XEqv.symm (hi : ins m = ins m') {i k : Nat} (h : XEqv m i m' k) : XEqv m' k m i := fun w hw => (h w fun x hx => by have := hw x hx; exact ⟨this.1, by rw [hi]; exact this.2⟩).symm
theorem XEqv.out {i k : Nat} (h : XEqv m i m' k) {x : Int} (hx : letter m x) : outAt m i x = outAt m' k x := by
  have := h [x] (by intro y hy; simp at hy; subst hy; exact hx)
  simpa [tells] using this
theorem XEqv.next {i k : Nat} (h : XEqv m i m' k) {x : Int} (hx : letter m x) : XEqv m (nextAt m i x) m' (nextAt m' k x) := by
  intro w hw
  have := h (x :: w) (by intro y hy; simp at hy; rcases hy with rfl | hy; exact hx; exact hw y hy)
  simp only [tells, List.cons.injEq] at this
  exact this.2
theorem XEqv.left {i j k : Nat} (h : Eqv m i j) (k1 : XEqv m j m' k) : XEqv m i m' k := fun w hw => (h w hw).trans (k1 w hw)
/-- classes that tell the same -/
def RR (m : MachD) (c : List Int) (m' : MachD) (c' : List Int) (a b : Int) : Prop :=
  (0 ≤ a ∧ a < m.out.length ∧ at0 c a.toNat = a) ∧ (0 ≤ b ∧ b < m'.out.length ∧ at0 c' b.toNat = b) ∧ XEqv m a.toNat m' b.toNat
theorem rep_eq {m : MachD} {c : List Int} (hc : ClassOf m c) {a b : Int} (ha : 0 ≤ a ∧ a < m.out.length ∧ at0 c a.toNat = a) (hb : 0 ≤ b ∧ b < m.out.length ∧ at0 c b.toNat = b) : a = b ↔ Eqv m a.toNat b.toNat := by
  rw [← hc.eqv _ _ (by omega) (by omega), ha.2.2, hb.2.2]
theorem rr_inj (hi : ins m = ins m') (hc : ClassOf m c) (hc' : ClassOf m' c') : ∀ a a' b b', RR m c m' c' a b → RR m c m' c' a' b' → (a = a' ↔ b = b') := by
  intro a a' b b' ⟨h1, h2, h3⟩ ⟨k1, k2, k3⟩
  rw [rep_eq hc h1 k1, rep_eq hc' h2 k2]
  constructor
  · intro h w hw
    have hw' : word m w := fun x hx => by have := hw x hx; exact ⟨this.1, by rw [hi]; exact this.2⟩
    exact ((h3 w hw').symm.trans (h w hw')).trans (k3 w hw')
  · intro h w hw
    have hw' : word m' w := fun x hx => by have := hw x hx; exact ⟨this.1, by rw [← hi]; exact this.2⟩
    exact ((h3 w hw).trans (h w hw')).trans (k3 w hw).symm
theorem rr_of (hi : ins m = ins m') (hc : ClassOf m c) (hc' : ClassOf m' c') {i k : Nat} (h1 : i < m.out.length) (h2 : k < m'.out.length) (h : XEqv m i m' k) : RR m c m' c' (at0 c i) (at0 c' k) := by
  have a1 := hc.nat i h1
  have a2 := hc'.nat k h2
  have o1 := hc.own i h1
  have o2 := hc'.own k h2
  refine ⟨⟨a1.1, by omega, o1⟩, ⟨a2.1, by omega, o2⟩, fun w hw => ?_⟩
  have hw' : word m' w := fun x hx => by have := hw x hx; exact ⟨this.1, by rw [← hi]; exact this.2⟩
  have e1 : Eqv m (at0 c i).toNat i := (hc.eqv _ _ (by omega) h1).1 o1
  have e2 : Eqv m' (at0 c' k).toNat k := (hc'.eqv _ _ (by omega) h2).1 o2
  exact ((e1 w hw).trans (h w hw)).trans (e2 w hw').symm
theorem trg_rel (hi : ins m = ins m') (g : Good m) (g' : Good m') (hc : ClassOf m c) (hc' : ClassOf m' c') {i k : Nat} (h1 : i < m.out.length) (h2 : k < m'.out.length) (h : XEqv m i m' k) : Rel (RR m c m' c') (trg m c i) (trg m' c' k) := by
  refine Rel.of_at (by rw [trg_len, trg_len, g.rowN i h1, g'.rowN k h2, hi]) fun j hj => ?_
  rw [trg_len, g.rowN i h1] at hj
  rw [trg_at (by rw [g.rowN i h1]; exact hj), trg_at (by rw [g'.rowN k h2, ← hi]; exact hj)]
  have l1 := g.goes i h1 j hj
  have l2 := g'.goes k h2 j (by rw [← hi]; exact hj)
  refine rr_of hi hc hc' (by omega) (by omega) ?_
  have := h.next (x := (j : Int)) ⟨by omega, by omega⟩
  simpa [nextAt] using this
theorem out_eq (hi : ins m = ins m') (g : Good m) (g' : Good m') {i k : Nat} (h1 : i < m.out.length) (h2 : k < m'.out.length) (h : XEqv m i m' k) : rowAt m.out i = rowAt m'.out k := by
  refine list_ext_at (by rw [g.rowO i h1, g'.rowO k h2, hi]) fun j hj => ?_
  rw [g.rowO i h1] at hj
  have := h.out (x := (j : Int)) ⟨by omega, by omega⟩
  simpa [outAt] using this
theorem st_lock (hi : ins m = ins m') (g : Good m) (g' : Good m') (hc : ClassOf m c) (hc' : ClassOf m' c') (h : XEqv m 0 m' 0) : ∀ k, (∀ j, j < k → j < (st m c j).ord.length) →
    Rel (RR m c m' c') (st m c k).ord (st m' c' k).ord ∧ (st m c k).outs = (st m' c' k).outs ∧ (st m c k).nexts = (st m' c' k).nexts
  | 0, _ => ⟨⟨rr_of hi hc hc' g.pos g'.pos h, trivial⟩, rfl, rfl⟩
  | k + 1, hk => by
    obtain ⟨h1, h2, h3⟩ := st_lock hi g g' hc hc' h k fun j hj => hk j (by omega)
    have r := h1.at_ (hk k (by omega))
    have t := trg_rel hi g g' hc hc' (i := (at0 (st m c k).ord k).toNat) (k := (at0 (st m' c' k).ord k).toNat) (by have := r.1; omega) (by have := r.2.1; omega) r.2.2
    have s := Rel.scan (rr_inj hi hc hc') t h1
    have o := out_eq hi g g' (i := (at0 (st m c k).ord k).toNat) (k := (at0 (st m' c' k).ord k).toNat) (by have := r.1; omega) (by have := r.2.1; omega) r.2.2
    refine ⟨s.1, ?_, ?_⟩
    · simp only [st, stNext]; rw [h2, o]
    · simp only [st, stNext]; rw [h3, s.2]
theorem least_one {l l' : MachD} (hi : ins m = ins m') (g : Good m) (g' : Good m') (hc : ClassOf m c) (hc' : ClassOf m' c') (h : XEqv m 0 m' 0) (hl : LeastD m c l) (hl' : LeastD m' c' l') : l = l' := by
  obtain ⟨K, h1, h2, rfl⟩ := hl
  obtain ⟨K', k1, k2, rfl⟩ := hl'
  have e : K = K' := by
    rcases Nat.lt_trichotomy K K' with hlt | heq | hgt
    · have := (st_lock hi g g' hc hc' h K h2).1.len
      have := k2 K hlt
      omega
    · exact heq
    · have := (st_lock hi g g' hc hc' h K' fun j hj => h2 j (by omega)).1.len
      have := h2 K' hgt
      omega
  subst e
  have := st_lock hi g g' hc hc' h K h2
  rw [this.2.1, this.2.2]
end
end Go.Proofs.YtkcggmhllijgcaaDoor
