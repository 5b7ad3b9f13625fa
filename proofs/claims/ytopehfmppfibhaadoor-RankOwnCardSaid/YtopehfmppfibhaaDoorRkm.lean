/- Generators counted, the tapes that a rule answers, the branches of a choice: mathematics of ranks. No program in sight. No conditions. -/
import Derived.Test.YtopehfmppfibhaaDoorGml
namespace Go.Proofs.YtopehfmppfibhaaDoor
open Go.RowKit
def sumPow (k : Nat) : Nat → Nat
  | 0 => 1
  | i + 1 => sumPow k i + k ^ (i + 1)
theorem sumPow_pos (k : Nat) : ∀ i, 1 ≤ sumPow k i
  | 0 => Nat.le_refl _
  | i + 1 => by rw [sumPow]; have := sumPow_pos k i; omega
theorem pow_le_sum (k : Nat) : ∀ i, k ^ i ≤ sumPow k i
  | 0 => Nat.le_refl _
  | i + 1 => by rw [sumPow]; omega
mutual
/-- how many tapes there are -/
def Ge.ways : Ge → Nat
  | .mk k a b s => if k = 2 then (b - a + 1).toNat else if k = 3 then Ges.prod s else if k = 4 then sumPow (Ges.head s) a.toNat else if k = 5 then Ges.tot s else 1
def Ges.prod : List Ge → Nat
  | [] => 1
  | g :: r => g.ways * Ges.prod r
def Ges.tot : List Ge → Nat
  | [] => 0
  | g :: r => g.ways + Ges.tot r
def Ges.head : List Ge → Nat
  | [] => 0
  | g :: _ => g.ways
end
theorem prod_app : ∀ (l r : List Ge), Ges.prod (l ++ r) = Ges.prod l * Ges.prod r
  | [], r => by rw [List.nil_append, Ges.prod, Nat.one_mul]
  | g :: l, r => by rw [List.cons_append, Ges.prod, Ges.prod, prod_app l r, Nat.mul_assoc]
theorem tot_app : ∀ (l r : List Ge), Ges.tot (l ++ r) = Ges.tot l + Ges.tot r
  | [], r => by rw [List.nil_append, Ges.tot, Nat.zero_add]
  | g :: l, r => by rw [List.cons_append, Ges.tot, Ges.tot, tot_app l r, Nat.add_assoc]
theorem prod_one (g : Ge) : Ges.prod [g] = g.ways := by rw [Ges.prod, Ges.prod, Nat.mul_one]
theorem tot_one (g : Ge) : Ges.tot [g] = g.ways := by rw [Ges.tot, Ges.tot, Nat.add_zero]
theorem prod_rep (g : Ge) : ∀ n, Ges.prod (List.replicate n g) = g.ways ^ n
  | 0 => by rw [List.replicate_zero, Ges.prod, Nat.pow_zero]
  | n + 1 => by rw [List.replicate_succ, Ges.prod, prod_rep g n, Nat.pow_succ, Nat.mul_comm]
theorem prod_pos : ∀ (l : List Ge), (∀ y ∈ l, 1 ≤ y.ways) → 1 ≤ Ges.prod l
  | [], _ => by rw [Ges.prod]; exact Nat.le_refl _
  | g :: l, h => by rw [Ges.prod]; exact Nat.mul_pos (h g (by simp)) (prod_pos l fun y hy => h y (by simp [hy]))
theorem tot_mem : ∀ {l : List Ge} {y : Ge}, y ∈ l → y.ways ≤ Ges.tot l
  | [], _, h => by cases h
  | x :: r, y, h => by
    rw [Ges.tot]
    rcases List.mem_cons.1 h with rfl | h
    · omega
    · have := tot_mem h; omega
theorem prod_mem : ∀ {l : List Ge} {y : Ge}, (∀ z ∈ l, 1 ≤ z.ways) → y ∈ l → y.ways ≤ Ges.prod l
  | [], _, _, h => by cases h
  | x :: r, y, hp, h => by
    rw [Ges.prod]
    have p1 := hp x (by simp)
    have p2 := prod_pos r fun z hz => hp z (by simp [hz])
    rcases List.mem_cons.1 h with rfl | h
    · exact Nat.le_mul_of_pos_right _ p2
    · have := prod_mem (fun z hz => hp z (by simp [hz])) h
      exact Nat.le_trans this (Nat.le_mul_of_pos_left _ p1)
/-- what a right generator of each kind is -/
theorem right_kind {k a b : Int} {s : List Ge} (h : (Ge.mk k a b s).err = 0) : (k = 1 ∨ k = 2 ∨ k = 3 ∨ k = 4 ∨ k = 5) ∧ (k = 2 → 0 ≤ b - a ∧ b - a ≤ 1000 ∧ wrap64 (b - a) = b - a ∧ s = []) ∧ (k = 4 → 0 ≤ a ∧ a ≤ 5 ∧ s.length = 1) ∧ (k = 5 → 0 < s.length) ∧ (∀ y ∈ s, y.err = 0) := by
  obtain ⟨h1, h2⟩ := Ge.err_parts h
  refine ⟨?_, fun e => ?_, fun e => ?_, fun e => ?_, h2⟩
  · by_cases k1 : k = 1
    · exact .inl k1
    by_cases k2 : k = 2
    · exact .inr (.inl k2)
    by_cases k3 : k = 3
    · exact .inr (.inr (.inl k3))
    by_cases k4 : k = 4
    · exact .inr (.inr (.inr (.inl k4)))
    by_cases k5 : k = 5
    · exact .inr (.inr (.inr (.inr k5)))
    unfold oneE at h1
    rw [if_neg (by omega), if_neg k4, if_neg k3, if_neg k5] at h1
    omega
  · subst e
    obtain ⟨q1, q2, q3⟩ := oneE_int h1
    refine ⟨q1, q2, q3, ?_⟩
    unfold oneE at h1
    rw [if_pos (by omega)] at h1
    split at h1
    · omega
    · split at h1
      · omega
      · exact List.eq_nil_of_length_eq_zero (by omega)
  · subst e
    unfold oneE at h1
    rw [if_neg (by omega), if_pos rfl] at h1
    split at h1
    · omega
    · split at h1 <;> omega
  · subst e
    unfold oneE at h1
    rw [if_neg (by omega), if_neg (by omega), if_neg (by omega), if_pos rfl] at h1
    split at h1 <;> omega
theorem ways_pos : ∀ (g : Ge), g.err = 0 → 1 ≤ g.ways := by
  refine Ge.ind fun k a b s ih => ?_
  intro he
  obtain ⟨hk, h2, h4, h5, hs⟩ := right_kind he
  have sub : ∀ y ∈ s, 1 ≤ y.ways := fun y hy => ih y hy (hs y hy)
  rw [Ge.ways]
  split
  · rename_i e; have := h2 e; omega
  · split
    · exact prod_pos s sub
    · split
      · exact sumPow_pos _ _
      · split
        · rename_i e
          have := h5 e
          obtain ⟨y, r, rfl⟩ : ∃ y r, s = y :: r := by cases s with
            | nil => simp at this
            | cons y r => exact ⟨y, r, rfl⟩
          have := tot_mem (l := y :: r) (y := y) (by simp)
          have := sub y (by simp)
          omega
        · exact Nat.le_refl _
mutual
/-- the answers of a rule -/
def Ge.ans (f : Int → Int) : Ge → List Int
  | .mk k a b s => if k = 2 then [f (b - a)] else if k = 3 then Ges.ans f s else if k = 4 then f a :: (List.replicate (f a).toNat (Ges.hans f s)).flatten else if k = 5 then f ((s.length : Int) - 1) :: Ges.nans f s (f ((s.length : Int) - 1)).toNat else []
def Ges.ans (f : Int → Int) : List Ge → List Int
  | [] => []
  | g :: r => g.ans f ++ Ges.ans f r
def Ges.hans (f : Int → Int) : List Ge → List Int
  | [] => []
  | g :: _ => g.ans f
def Ges.nans (f : Int → Int) : List Ge → Nat → List Int
  | [], _ => []
  | g :: _, 0 => g.ans f
  | _ :: r, n + 1 => Ges.nans f r n
end
theorem ans_app (f : Int → Int) : ∀ (l r : List Ge), Ges.ans f (l ++ r) = Ges.ans f l ++ Ges.ans f r
  | [], r => by rw [List.nil_append, Ges.ans, List.nil_append]
  | g :: l, r => by rw [List.cons_append, Ges.ans, Ges.ans, ans_app f l r, List.append_assoc]
theorem ans_one (f : Int → Int) (g : Ge) : Ges.ans f [g] = g.ans f := by rw [Ges.ans, Ges.ans, List.append_nil]
theorem ans_rep (f : Int → Int) (g : Ge) : ∀ n, Ges.ans f (List.replicate n g) = (List.replicate n (g.ans f)).flatten
  | 0 => by rw [List.replicate_zero, Ges.ans]; rfl
  | n + 1 => by rw [List.replicate_succ, Ges.ans, ans_rep f g n, List.replicate_succ, List.flatten_cons]
theorem nans_at (f : Int → Int) : ∀ (s : List Ge) (i : Nat) (h : i < s.length), Ges.nans f s i = s[i].ans f
  | [], _, h => by simp at h
  | g :: _, 0, _ => by rw [Ges.nans]; rfl
  | _ :: r, i + 1, h => by rw [Ges.nans, nans_at f r i (by simpa using h)]; rfl
/-- a rule that answers within the range -/
def Rule (f : Int → Int) : Prop := ∀ m, 0 ≤ m → 0 ≤ f m ∧ f m ≤ m
def Ch.by (f : Int → Int) {α : Type} : Ch α → List Int × α
  | .done x => ([], x)
  | .ask m k => (f m :: ((k (f m)).by f).1, ((k (f m)).by f).2)
theorem by_bind (f : Int → Int) {α β : Type} : ∀ (c : Ch α) (h : α → Ch β), ((c.bind h).by f).1 = (c.by f).1 ++ ((h (c.by f).2).by f).1
  | .done x, h => by rw [Ch.bind, Ch.by, List.nil_append]
  | .ask m k, h => by rw [Ch.bind, Ch.by, Ch.by]; simp only; rw [by_bind f (k (f m)) h, List.cons_append]
theorem by_all (f : Int → Int) : ∀ (l : List (Ch Va)), ((Ch.all l).by f).1 = (l.map fun c => (c.by f).1).flatten
  | [] => by rw [Ch.all, Ch.by]; rfl
  | c :: r => by
    rw [Ch.all, by_bind, by_bind, by_all f r, Ch.by]
    simp
theorem run_by {α : Type} {t : List Int} {f : Int → Int} (hf : Rule f) : ∀ (c : Ch α) (n : Nat) (out : List Int), c.le n → (∀ p m, out.length ≤ p → p < out.length + (c.by f).1.length → 0 ≤ m → m ≤ 1000 → clampT t p m = f m) → c.run (mendF t) out = .ok (out ++ (c.by f).1, (c.by f).2)
  | .done x, _, out, _, _ => by rw [Ch.run, Ch.by]; simp
  | .ask _ _, 0, _, h, _ => by rw [Ch.le] at h; exact h.elim
  | .ask m k, n + 1, out, h, hc => by
    rw [Ch.le] at h
    rw [Ch.by] at hc ⊢
    simp only [List.length_cons] at hc
    have e := hc out.length m (Nat.le_refl _) (by omega) h.1 h.2.1
    rw [Ch.run]
    simp only [mendF]
    rw [e, run_by hf (k (f m)) n (out ++ [f m]) (h.2.2 _ (hf m h.1).1 (hf m h.1).2) fun p q h1 h2 h3 h4 => hc p q (by simp at h1; omega) (by simp at h2; omega) h3 h4]
    simp
theorem mades_map (f : Int → Int) : ∀ (s : List Ge), (∀ y ∈ s, (y.made.by f).1 = y.ans f) → ((Ges.mades s).map fun c => (c.by f).1).flatten = Ges.ans f s
  | [], _ => by rw [Ges.mades, Ges.ans]; rfl
  | y :: r, h => by rw [Ges.mades, Ges.ans, List.map_cons, List.flatten_cons, mades_map f r fun z hz => h z (by simp [hz]), h y (by simp)]
theorem made_by {f : Int → Int} (hf : Rule f) : ∀ (g : Ge), g.err = 0 → (g.made.by f).1 = g.ans f := by
  refine Ge.ind fun k a b s ih => ?_
  intro he
  obtain ⟨hk, h2, h4, h5, hs⟩ := right_kind he
  have sub : ∀ y ∈ s, (y.made.by f).1 = y.ans f := fun y hy => ih y hy (hs y hy)
  rw [Ge.made, Ge.ans]
  rcases hk with rfl | rfl | rfl | rfl | rfl
  · simp [madeM, Ch.by]
  · have := (h2 rfl).2.2.1
    simp [madeM, Ch.by, this]
  · simp only [madeM, show ¬ ((3 : Int) = 1) by decide, show ¬ ((3 : Int) = 2) by decide, if_false, if_true]
    rw [by_bind, by_all, mades_map f s sub, Ch.by]
    simp
  · obtain ⟨a0, a5, sl⟩ := h4 rfl
    simp only [madeM, show ¬ ((4 : Int) = 1) by decide, show ¬ ((4 : Int) = 2) by decide, show ¬ ((4 : Int) = 3) by decide, if_false, if_true]
    rw [Ch.by]
    simp only
    rw [by_bind, by_all, Ch.by]
    match s, sl with
    | [y], _ =>
      have e : ((Ges.mades [y]).getD 0 (.done default)).by f = y.made.by f := by simp [Ges.mades]
      rw [List.map_replicate, e, sub y (by simp), Ges.hans]
      simp
  · have hl := h5 rfl
    simp only [madeM, show ¬ ((5 : Int) = 1) by decide, show ¬ ((5 : Int) = 2) by decide, show ¬ ((5 : Int) = 3) by decide, show ¬ ((5 : Int) = 4) by decide, if_false, if_true]
    rw [Ch.by, mades_len]
    have hr := hf ((s.length : Int) - 1) (by omega)
    have hx : (f ((s.length : Int) - 1)).toNat < s.length := by omega
    simp only
    rw [mades_getD s _ hx, sub _ (List.getElem_mem hx), nans_at f s _ hx]
/-- the tape that is mended of numbers on which the rule goes -/
theorem mend_by {f : Int → Int} {t : List Int} {g : Ge} (hf : Rule f) (h : chkG g = 0) (hc : ∀ p m, p < (g.ans f).length → 0 ≤ m → m ≤ 1000 → clampT t p m = f m) : mendL g t = g.ans f := by
  obtain ⟨h1, h2⟩ := chkG_good h
  have e := made_by hf g h2
  have := run_by (t := t) hf g.made (31 ^ 6) [] (made_le g 6 (Ge.parts_high g 0 6 rfl h1) (Ge.parts_wide g 0 h1) h2) fun p m _ q => hc p m (by rw [e] at q; simpa using q)
  unfold mendL
  rw [this, e]
  simp
/-- the lists of generators behind each answer of the first choice -/
def Ge.brs : Ge → List (List Ge)
  | .mk k a b s => if k = 2 then List.replicate (b - a + 1).toNat [] else if k = 4 then (List.range (a.toNat + 1)).map fun i => List.replicate i (s.headD default) else if k = 5 then s.map fun y => [y] else []
def sumTo : List (List Ge) → Nat → Nat
  | _, 0 => 0
  | [], _ + 1 => 0
  | x :: r, j + 1 => Ges.prod x + sumTo r j
theorem sumTo_succ : ∀ (l : List (List Ge)) (j : Nat) (h : j < l.length), sumTo l (j + 1) = sumTo l j + Ges.prod l[j]
  | [], _, h => by simp at h
  | x :: r, 0, _ => by rw [sumTo, sumTo]; simp [sumTo]
  | x :: r, j + 1, h => by
    rw [sumTo, sumTo_succ r j (by simpa using h), sumTo]
    simp [Nat.add_assoc]
theorem sumTo_mono (l : List (List Ge)) : ∀ {i j : Nat}, i ≤ j → j ≤ l.length → sumTo l i ≤ sumTo l j := by
  intro i j h
  induction j with
  | zero =>
    intro _
    have e : i = 0 := by omega
    subst e; exact Nat.le_refl _
  | succ j ih =>
    intro hj
    by_cases e : i = j + 1
    · subst e; exact Nat.le_refl _
    · have := ih (by omega) (by omega)
      rw [sumTo_succ l j (by omega)]; omega
theorem sumTo_rep : ∀ (n j : Nat), j ≤ n → sumTo (List.replicate n ([] : List Ge)) j = j
  | _, 0, _ => by rw [sumTo]
  | 0, j + 1, h => by omega
  | n + 1, j + 1, h => by rw [List.replicate_succ, sumTo, sumTo_rep n j (by omega), Ges.prod]; omega
theorem sumTo_one : ∀ (s : List Ge), sumTo (s.map fun y => [y]) s.length = Ges.tot s
  | [] => by rw [Ges.tot]; rfl
  | y :: r => by rw [List.map_cons, List.length_cons, sumTo, sumTo_one r, prod_one, Ges.tot]
theorem sumTo_pow (y : Ge) (n : Nat) : ∀ j, j ≤ n → sumTo ((List.range (n + 1)).map fun i => List.replicate i y) (j + 1) = sumPow y.ways j
  | 0, _ => by
    rw [sumTo_succ _ 0 (by simp), sumTo]
    simp [sumPow, Ges.prod]
  | j + 1, h => by
    rw [sumTo_succ _ (j + 1) (by simp; omega), sumTo_pow y n j (by omega)]
    simp [sumPow, prod_rep]
/-- the branches of a right generator that chooses -/
theorem brs_spec {k a b : Int} {s : List Ge} (he : (Ge.mk k a b s).err = 0) (hw : s.length ≤ 30) (hk : k ≠ 1) (hk3 : k ≠ 3) : ∃ m : Nat, (Ge.mk k a b s).brs.length = m + 1 ∧ m ≤ 1000 ∧ sumTo (Ge.mk k a b s).brs (m + 1) = (Ge.mk k a b s).ways ∧
    (∀ f, Rule f → ∀ j : Nat, f m = j → j ≤ m ∧ ∀ h : j < (Ge.mk k a b s).brs.length, (Ge.mk k a b s).ans f = (j : Int) :: Ges.ans f ((Ge.mk k a b s).brs[j]'h)) ∧ (∀ l ∈ (Ge.mk k a b s).brs, ∀ y ∈ l, y ∈ s) := by
  obtain ⟨hkk, h2, h4, h5, hs⟩ := right_kind he
  rcases hkk with rfl | rfl | rfl | rfl | rfl
  · exact absurd rfl hk
  · obtain ⟨q1, q2, _, rfl⟩ := h2 rfl
    obtain ⟨m, hm⟩ : ∃ m : Nat, b - a = m := ⟨(b - a).toNat, by omega⟩
    have e : (Ge.mk 2 a b []).brs = List.replicate (m + 1) [] := by
      rw [Ge.brs, if_pos rfl, hm]; rfl
    rw [e]
    refine ⟨m, by simp, by omega, ?_, fun f hf j hj => ⟨?_, fun h => ?_⟩, fun l hl y hy => ?_⟩
    · rw [sumTo_rep _ _ (Nat.le_refl _), Ge.ways, if_pos rfl, hm]; omega
    · have := hf m (by omega); omega
    · rw [Ge.ans, if_pos rfl, hm, hj]
      simp [Ges.ans]
    · rw [List.eq_of_mem_replicate hl] at hy; cases hy
  · exact absurd rfl hk3
  · obtain ⟨a0, a5, sl⟩ := h4 rfl
    obtain ⟨m, rfl⟩ : ∃ m : Nat, a = m := ⟨a.toNat, by omega⟩
    match s, sl with
    | [y], _ =>
      have e : (Ge.mk 4 m b [y]).brs = (List.range (m + 1)).map fun i => List.replicate i y := by
        rw [Ge.brs, if_neg (by decide), if_pos rfl]; rfl
      rw [e]
      refine ⟨m, by simp, by omega, ?_, fun f hf j hj => ⟨?_, fun h => ?_⟩, fun l hl z hz => ?_⟩
      · rw [sumTo_pow y m m (Nat.le_refl _), Ge.ways, if_neg (by decide), if_neg (by decide), if_pos rfl, Ges.head]; rfl
      · have := hf m (by omega); omega
      · rw [Ge.ans, if_neg (by decide), if_neg (by decide), if_pos rfl, hj, Ges.hans]
        simp [ans_rep]
      · obtain ⟨i, _, rfl⟩ := List.mem_map.1 hl
        rw [List.eq_of_mem_replicate hz]; simp
  · have hl := h5 rfl
    obtain ⟨m, hm⟩ : ∃ m : Nat, s.length = m + 1 := ⟨s.length - 1, by omega⟩
    have e : (Ge.mk 5 a b s).brs = s.map fun y => [y] := by
      rw [Ge.brs, if_neg (by decide), if_neg (by decide), if_pos rfl]
    have hm2 : (s.length : Int) - 1 = m := by omega
    rw [e]
    refine ⟨m, by simp [hm], by omega, ?_, fun f hf j hj => ⟨?_, fun h => ?_⟩, fun l hl z hz => ?_⟩
    · rw [← hm, sumTo_one, Ge.ways, if_neg (by decide), if_neg (by decide), if_neg (by decide), if_pos rfl]
    · have := hf m (by omega); omega
    · have hx : j < s.length := by simpa using h
      rw [Ge.ans, if_neg (by decide), if_neg (by decide), if_neg (by decide), if_pos rfl, hm2, hj]
      rw [show (j : Int).toNat = j from rfl, nans_at f s j hx]
      simp [ans_one]
    · obtain ⟨y, hy, rfl⟩ := List.mem_map.1 hl
      simp at hz; subst hz; exact hy
mutual
/-- a weight that each step of the search makes less -/
def Ge.wt : Ge → Nat
  | .mk k _ _ s => if k = 4 then 1 + 5 * Ges.wt s else 1 + Ges.wt s
def Ges.wt : List Ge → Nat
  | [] => 0
  | g :: r => g.wt + Ges.wt r
end
theorem wt_app : ∀ (l r : List Ge), Ges.wt (l ++ r) = Ges.wt l + Ges.wt r
  | [], r => by rw [List.nil_append, Ges.wt, Nat.zero_add]
  | g :: l, r => by rw [List.cons_append, Ges.wt, Ges.wt, wt_app l r, Nat.add_assoc]
theorem wt_rep (g : Ge) : ∀ n, Ges.wt (List.replicate n g) = n * g.wt
  | 0 => by rw [List.replicate_zero, Ges.wt, Nat.zero_mul]
  | n + 1 => by rw [List.replicate_succ, Ges.wt, wt_rep g n, Nat.add_mul]; omega
theorem wt_pos (g : Ge) : 1 ≤ g.wt := by
  obtain ⟨k, a, b, s⟩ := g
  rw [Ge.wt]; split <;> omega
theorem len_wt : ∀ (l : List Ge), l.length ≤ Ges.wt l
  | [] => by simp
  | g :: r => by rw [List.length_cons, Ges.wt]; have := len_wt r; have := wt_pos g; omega
theorem wt_mem : ∀ {l : List Ge} {y : Ge}, y ∈ l → y.wt ≤ Ges.wt l
  | [], _, h => by cases h
  | x :: r, y, h => by
    rw [Ges.wt]
    rcases List.mem_cons.1 h with rfl | h
    · omega
    · have := wt_mem h; omega
theorem wt_le_len {n : Nat} : ∀ (l : List Ge), (∀ y ∈ l, y.wt ≤ n) → Ges.wt l ≤ l.length * n
  | [], _ => by rw [Ges.wt]; omega
  | g :: r, h => by
    rw [Ges.wt, List.length_cons, Nat.add_mul]
    have := wt_le_len r fun y hy => h y (by simp [hy])
    have := h g (by simp); omega
theorem wt_high : ∀ (g : Ge) (n : Nat), g.high n → g.wide → g.err = 0 → g.wt ≤ 31 ^ n := by
  refine Ge.ind fun k a b s ih => ?_
  intro n hh hw he
  cases n with
  | zero => rw [Ge.high] at hh; exact hh.elim
  | succ n =>
    rw [Ge.high] at hh
    rw [Ge.wide] at hw
    obtain ⟨_, _, h4, _, hs⟩ := right_kind he
    have sub : ∀ y ∈ s, y.wt ≤ 31 ^ n := fun y hy => ih y hy n (Ges.high_mem hh y hy) (Ges.wide_mem hw.2 y hy) (hs y hy)
    have hl := wt_le_len s sub
    have p31 : 1 ≤ 31 ^ n := Nat.pow_pos (by omega)
    have e31 : 31 ^ (n + 1) = 31 * 31 ^ n := by rw [Nat.pow_succ, Nat.mul_comm]
    rw [Ge.wt, e31]
    split
    · rename_i e
      rw [(h4 e).2.2] at hl
      omega
    · have : s.length * 31 ^ n ≤ 30 * 31 ^ n := Nat.mul_le_mul_right _ hw.1
      omega
theorem brs_wt {k a b : Int} {s : List Ge} (he : (Ge.mk k a b s).err = 0) : ∀ l ∈ (Ge.mk k a b s).brs, Ges.wt l < (Ge.mk k a b s).wt := by
  obtain ⟨hkk, h2, h4, h5, hs⟩ := right_kind he
  intro l hl
  rw [Ge.brs] at hl
  rw [Ge.wt]
  split at hl
  · rename_i e; subst e
    rw [List.eq_of_mem_replicate hl, Ges.wt, if_neg (by decide)]; omega
  · split at hl
    · rename_i e; subst e
      obtain ⟨a0, a5, sl⟩ := h4 rfl
      match s, sl with
      | [y], _ =>
        obtain ⟨i, hi, rfl⟩ := List.mem_map.1 hl
        rw [List.mem_range] at hi
        rw [if_pos rfl, wt_rep, Ges.wt, Ges.wt]
        show i * y.wt < _
        have : i * y.wt ≤ 5 * y.wt := Nat.mul_le_mul_right _ (by omega)
        omega
    · split at hl
      · rename_i e; subst e
        obtain ⟨y, hy, rfl⟩ := List.mem_map.1 hl
        rw [if_neg (by decide), Ges.wt, Ges.wt]
        have := wt_mem hy; omega
      · cases hl
end Go.Proofs.YtopehfmppfibhaaDoor
