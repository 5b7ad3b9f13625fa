/- Moore's bound: the first word that tells two machines apart is no longer than both have states together, less one. Plain mathematics. No conditions. -/
import Derived.Test.YtkcggmhllijgcaaDoorBtm
namespace Go.Proofs.YtkcggmhllijgcaaDoor
theorem countP_less {α : Type} {p q : α → Bool} : ∀ {l : List α}, (∀ x ∈ l, p x = true → q x = true) → (∃ y ∈ l, p y = false ∧ q y = true) → l.countP p < l.countP q
  | [], _, h => by obtain ⟨y, hy, _⟩ := h; cases hy
  | a :: l, hm, h => by
    have hle : l.countP p ≤ l.countP q := List.countP_mono_left fun x hx hp => hm x (by simp [hx]) hp
    rw [List.countP_cons, List.countP_cons]
    by_cases ha : p a = false ∧ q a = true
    · rw [ha.1, ha.2]; simp; omega
    · obtain ⟨y, hy, h1, h2⟩ := h
      rcases List.mem_cons.1 hy with rfl | hy
      · exact absurd ⟨h1, h2⟩ ha
      · have ih := countP_less (l := l) (fun x hx => hm x (by simp [hx])) ⟨y, hy, h1, h2⟩
        have h3 := hm a (by simp)
        cases hp : p a <;> cases hq : q a <;> simp_all <;> omega
section
variable (E : Nat → Nat → Nat → Prop) (N : Nat)
open Classical in
noncomputable def leasts (n : Nat) : Nat := (List.range N).countP fun s => decide (∀ t, t < s → ¬ E n t s)
variable (hr : ∀ n s, E n s s) (hs : ∀ n s t, E n s t → E n t s) (ht : ∀ n s t u, E n s t → E n t u → E n s u) (hd : ∀ n s t, E (n + 1) s t → E n s t)
include hr hs ht hd
open Classical in
theorem leasts_up {n : Nat} (h : ∃ s t, s < N ∧ t < N ∧ E n s t ∧ ¬ E (n + 1) s t) : leasts E N n < leasts E N (n + 1) := by
  obtain ⟨s, t, h1, h2, h3, h4⟩ := h
  unfold leasts
  refine countP_less (fun x _ hx => ?_) ?_
  · simp only [decide_eq_true_eq] at hx ⊢
    intro y hy hE
    exact hx y hy (hd n _ _ hE)
  · have ex : ∃ r, r < N ∧ E n r s := ⟨s, h1, hr n s⟩
    -- the least one of the class
    have least : ∀ (P : Nat → Prop), (∃ k, P k) → ∃ k, P k ∧ ∀ j, j < k → ¬ P j := by
      intro P ⟨k, hk⟩
      induction k using Nat.strongRecOn with
      | _ k ih =>
        by_cases hm : ∃ j, j < k ∧ P j
        · obtain ⟨j, hj, hp⟩ := hm
          exact ih j hj hp
        · exact ⟨k, hk, fun j hj hp => hm ⟨j, hj, hp⟩⟩
    obtain ⟨r, ⟨hrN, hrs⟩, hrm⟩ := least (fun r => r < N ∧ E n r s) ex
    have ex2 : ∃ y, y < N ∧ E n r y ∧ ¬ E (n + 1) r y := by
      by_cases h5 : E (n + 1) r s
      · exact ⟨t, h2, ht n _ _ _ hrs h3, fun h6 => h4 (ht _ _ _ _ (hs _ _ _ h5) h6)⟩
      · exact ⟨s, h1, hrs, h5⟩
    obtain ⟨y, ⟨hyN, hy1, hy2⟩, hym⟩ := least (fun y => y < N ∧ E n r y ∧ ¬ E (n + 1) r y) ex2
    refine ⟨y, by simpa using hyN, ?_, ?_⟩
    · simp only [decide_eq_false_iff_not]
      intro h6
      rcases Nat.lt_trichotomy r y with h7 | h7 | h7
      · exact h6 r h7 hy1
      · subst h7; exact hy2 (hr _ _)
      · exact hrm y h7 ⟨hyN, ht n _ _ _ (hs _ _ _ hy1) hrs⟩
    · simp only [decide_eq_true_eq]
      intro x hx hE
      apply hym x hx
      exact ⟨by omega, ht n _ _ _ hy1 (hs _ _ _ (hd n _ _ hE)), fun h6 => hy2 (ht _ _ _ _ h6 hE)⟩
theorem stable_at (hN : 0 < N) : ∃ n, n < N ∧ ∀ s t, s < N → t < N → E n s t → E (n + 1) s t := by
  apply Classical.byContradiction
  intro hno
  have un : ∀ n, n < N → ∃ s t, s < N ∧ t < N ∧ E n s t ∧ ¬ E (n + 1) s t := by
    intro n hn
    apply Classical.byContradiction
    intro h
    exact hno ⟨n, hn, fun s t h1 h2 h3 => Classical.byContradiction fun h4 => h ⟨s, t, h1, h2, h3, h4⟩⟩
  have grow : ∀ n, n ≤ N → n + 1 ≤ leasts E N n := by
    intro n
    induction n with
    | zero =>
      intro _
      unfold leasts
      rw [Nat.add_one_le_iff, List.countP_pos_iff]
      exact ⟨0, by simpa using hN, by simp⟩
    | succ n ih =>
      intro hn
      have := leasts_up E N hr hs ht hd (un n (by omega))
      have := ih (by omega)
      omega
  have h1 := grow N (Nat.le_refl _)
  have h2 : leasts E N N ≤ N := by
    unfold leasts
    exact Nat.le_trans List.countP_le_length (by simp)
  omega
end
/-- the states of both -/
def tellU (a b : MachD) (s : Nat) (w : List Int) : List Int := if s < a.out.length then tells a s w else tells b (s - a.out.length) w
def EU (a b : MachD) (n s t : Nat) : Prop := ∀ w, word a w → w.length ≤ n → tellU a b s w = tellU a b t w
def outU (a b : MachD) (s : Nat) (x : Int) : Int := if s < a.out.length then outAt a s x else outAt b (s - a.out.length) x
def nextU (a b : MachD) (s : Nat) (x : Int) : Nat := if s < a.out.length then nextAt a s x else nextAt b (s - a.out.length) x + a.out.length
theorem tellU_cons {a b : MachD} (ga : Good a) {s : Nat} (x : Int) (w : List Int) (hx : letter a x) : tellU a b s (x :: w) = outU a b s x :: tellU a b (nextU a b s x) w := by
  by_cases h : s < a.out.length
  · have h1 := nextAt_lt ga h hx
    unfold tellU outU nextU
    rw [if_pos h, if_pos h, if_pos h, if_pos h1]; rfl
  · unfold tellU outU nextU
    rw [if_neg h, if_neg h, if_neg h, if_neg (by omega), Nat.add_sub_cancel]; rfl
section
variable {a b : MachD} (ga : Good a) (gb : Good b) (hi : ins a = ins b)
include ga gb hi
theorem nextU_lt {s : Nat} (hs : s < a.out.length + b.out.length) {x : Int} (hx : letter a x) : nextU a b s x < a.out.length + b.out.length := by
  unfold nextU
  split
  · have := nextAt_lt ga (by assumption) hx; omega
  · have := nextAt_lt gb (s := s - a.out.length) (by omega) (x := x) ⟨hx.1, by rw [← hi]; exact hx.2⟩; omega
theorem EU_step {n : Nat} (h : ∀ s t, s < a.out.length + b.out.length → t < a.out.length + b.out.length → EU a b n s t → EU a b (n + 1) s t) :
    ∀ s t, s < a.out.length + b.out.length → t < a.out.length + b.out.length → EU a b (n + 1) s t → EU a b (n + 2) s t := by
  intro s t hs ht hE w hw hl
  cases w with
  | nil => exact hE [] hw (by simp)
  | cons x w =>
    have hx := hw x (by simp)
    have hw' : word a w := fun y hy => hw y (by simp [hy])
    have h1 := hE [x] (fun y hy => by simp at hy; subst hy; exact hx) (by simp)
    rw [tellU_cons ga x [] hx, tellU_cons ga x [] hx] at h1
    have ho : outU a b s x = outU a b t x := (List.cons.inj h1).1
    have hn : EU a b n (nextU a b s x) (nextU a b t x) := by
      intro v hv hvl
      have h2 := hE (x :: v) (fun y hy => by simp at hy; rcases hy with rfl | hy; exact hx; exact hv y hy) (by simp; omega)
      rw [tellU_cons ga x v hx, tellU_cons ga x v hx] at h2
      exact (List.cons.inj h2).2
    rw [tellU_cons ga x w hx, tellU_cons ga x w hx, ho, h _ _ (nextU_lt ga gb hi hs hx) (nextU_lt ga gb hi ht hx) hn w hw' (by simp at hl; omega)]
theorem EU_ever {n : Nat} (h : ∀ s t, s < a.out.length + b.out.length → t < a.out.length + b.out.length → EU a b n s t → EU a b (n + 1) s t) :
    ∀ m s t, s < a.out.length + b.out.length → t < a.out.length + b.out.length → EU a b n s t → EU a b (n + m) s t := by
  have all : ∀ m, ∀ s t, s < a.out.length + b.out.length → t < a.out.length + b.out.length → EU a b (n + m) s t → EU a b (n + m + 1) s t := by
    intro m
    induction m with
    | zero => exact h
    | succ m ih => exact EU_step ga gb hi ih
  intro m
  induction m with
  | zero => intro s t _ _ h; exact h
  | succ m ih => intro s t hs ht hE; exact all m s t hs ht (ih s t hs ht hE)
/-- which word ever tells two states of both apart: one does that is shorter than both have states together -/
theorem moore {s t : Nat} (hs : s < a.out.length + b.out.length) (ht : t < a.out.length + b.out.length) {u : List Int} (hu : word a u) (hd : tellU a b s u ≠ tellU a b t u) : ∃ v, word a v ∧ v.length < a.out.length + b.out.length ∧ tellU a b s v ≠ tellU a b t v := by
  obtain ⟨n, hn, hst⟩ := stable_at (EU a b) (a.out.length + b.out.length) (fun n s w _ _ => rfl) (fun n s t h w h1 h2 => (h w h1 h2).symm) (fun n s t u h k w h1 h2 => (h w h1 h2).trans (k w h1 h2)) (fun n s t h w h1 h2 => h w h1 (by omega)) (by omega)
  apply Classical.byContradiction
  intro hno
  apply hd
  have hE : EU a b n s t := fun w h1 h2 => Classical.byContradiction fun h3 => hno ⟨w, h1, by omega, h3⟩
  exact EU_ever ga gb hi hst u.length s t hs ht hE u hu (by omega)
theorem first_len {i k : Nat} (h1 : i < a.out.length) (h2 : k < b.out.length) {u : List Int} (hf : First a b i k u) : u.length + 1 ≤ a.out.length + b.out.length := by
  have e1 : ∀ w, tellU a b i w = tells a i w := fun w => by unfold tellU; rw [if_pos h1]
  have e2 : ∀ w, tellU a b (k + a.out.length) w = tells b k w := fun w => by unfold tellU; rw [if_neg (by omega), Nat.add_sub_cancel]
  obtain ⟨v, h3, h4, h5⟩ := moore ga gb hi (s := i) (t := k + a.out.length) (by omega) (by omega) hf.1 (by rw [e1, e2]; exact hf.2.1)
  rw [e1, e2] at h5
  have := sle_len (hf.2.2 v h3 h5)
  omega
end
end Go.Proofs.YtkcggmhllijgcaaDoor
