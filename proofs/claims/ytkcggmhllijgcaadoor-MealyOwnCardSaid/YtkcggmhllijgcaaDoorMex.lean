/- A word that tells apart is there, or none does; what the first one looks like; which faults there are. Plain mathematics. No conditions. -/
import Derived.Test.YtkcggmhllijgcaaDoorMoo
import Derived.Test.YtkcggmhllijgcaaDoorApm
namespace Go.Proofs.YtkcggmhllijgcaaDoor
theorem nat_least (P : Nat → Prop) (h : ∃ k, P k) : ∃ k, P k ∧ ∀ j, j < k → ¬ P j := by
  obtain ⟨k, hk⟩ := h
  induction k using Nat.strongRecOn with
  | _ k ih =>
    by_cases hm : ∃ j, j < k ∧ P j
    · obtain ⟨j, hj, hp⟩ := hm
      exact ih j hj hp
    · exact ⟨k, hk, fun j hj hp => hm ⟨j, hj, hp⟩⟩
theorem lex_minM : ∀ (n : Nat) (P : List Int → Prop), (∃ u, u.length = n ∧ (∀ z ∈ u, 0 ≤ z) ∧ P u) → ∃ u, u.length = n ∧ (∀ z ∈ u, 0 ≤ z) ∧ P u ∧ ∀ v, v.length = n → (∀ z ∈ v, 0 ≤ z) → P v → u = v ∨ lexLt u v
  | 0, P, h => by
    obtain ⟨u, h1, h2, h3⟩ := h
    refine ⟨u, h1, h2, h3, fun v hv _ _ => .inl ?_⟩
    rw [List.eq_nil_of_length_eq_zero h1, List.eq_nil_of_length_eq_zero hv]
  | n + 1, P, h => by
    obtain ⟨u, h1, h2, h3⟩ := h
    obtain ⟨x, u, rfl⟩ : ∃ x u', u = x :: u' := by cases u with | nil => simp at h1 | cons x u => exact ⟨x, u, rfl⟩
    have hx := h2 x (by simp)
    obtain ⟨k, ⟨u1, k1, k2, k3⟩, hk⟩ := nat_least (fun k => ∃ u', u'.length = n ∧ (∀ z ∈ u', 0 ≤ z) ∧ P ((k : Int) :: u')) ⟨x.toNat, u, by simpa using h1, fun z hz => h2 z (by simp [hz]), by rw [Int.toNat_of_nonneg hx]; exact h3⟩
    obtain ⟨w, w1, w2, w3, w4⟩ := lex_minM n (fun u' => P ((k : Int) :: u')) ⟨u1, k1, k2, k3⟩
    refine ⟨(k : Int) :: w, by simp [w1], fun z hz => ?_, w3, fun v hv hv0 hP => ?_⟩
    · rcases List.mem_cons.1 hz with rfl | hz
      · omega
      · exact w2 z hz
    · obtain ⟨y, v, rfl⟩ : ∃ y v', v = y :: v' := by cases v with | nil => simp at hv | cons y v => exact ⟨y, v, rfl⟩
      have hy := hv0 y (by simp)
      have hv1 : v.length = n := by simpa using hv
      have hv2 : ∀ z ∈ v, 0 ≤ z := fun z hz => hv0 z (by simp [hz])
      by_cases hyk : y = k
      · subst hyk
        rcases w4 v hv1 hv2 hP with rfl | h
        · exact .inl rfl
        · exact .inr (.inr ⟨rfl, h⟩)
      · have : ¬ y.toNat < k := fun hlt => hk _ hlt ⟨v, hv1, hv2, by rw [Int.toNat_of_nonneg hy]; exact hP⟩
        exact .inr (.inl (by omega))
theorem first_or (a b : MachD) (i k : Nat) : (∃ f, First a b i k f) ∨ XEqv a i b k := by
  by_cases h : XEqv a i b k
  · exact .inr h
  · left
    have hx : ∃ w, word a w ∧ Tears a b i k w := Classical.byContradiction fun hn => h fun w hw => Classical.byContradiction fun ht => hn ⟨w, hw, ht⟩
    obtain ⟨w, hw, ht⟩ := hx
    obtain ⟨n, ⟨u, h1, h2, h3⟩, hn⟩ := nat_least (fun n => ∃ u, u.length = n ∧ word a u ∧ Tears a b i k u) ⟨w.length, w, rfl, hw, ht⟩
    obtain ⟨f, f1, f2, ⟨f3, f4⟩, f5⟩ := lex_minM n (fun u => word a u ∧ Tears a b i k u) ⟨u, h1, fun z hz => (h2 z hz).1, h2, h3⟩
    refine ⟨f, f3, f4, fun v hv htv => ?_⟩
    have hl : ¬ v.length < n := fun hlt => hn _ hlt ⟨v, rfl, hv, htv⟩
    by_cases hv' : v.length = n
    · rcases f5 v hv' (fun z hz => (hv z hz).1) ⟨hv, htv⟩ with rfl | h
      · exact sle_refl _
      · exact .inr (.inr ⟨by omega, h⟩)
    · exact .inr (.inl (by omega))
theorem first_shape {a b : MachD} {i k : Nat} {f : List Int} (h : First a b i k f) : ∃ g x, f = g ++ [x] ∧ word a g ∧ letter a x ∧ tells a i g = tells b k g ∧ outAt a (goes a i g) x ≠ outAt b (goes b k g) x := by
  obtain ⟨h1, h2, h3⟩ := h
  have hne : f ≠ [] := by rintro rfl; exact h2 rfl
  obtain ⟨g, x, rfl⟩ : ∃ g y, f = g ++ [y] := ⟨f.dropLast, f.getLast hne, (List.dropLast_concat_getLast hne).symm⟩
  have hg : word a g := fun z hz => h1 z (by simp [hz])
  have ht : tells a i g = tells b k g := Classical.byContradiction fun hd => by
    have := sle_len (h3 g hg hd)
    simp at this; omega
  refine ⟨g, x, rfl, hg, h1 x (by simp), ht, fun ho => h2 ?_⟩
  rw [tells_snoc, tells_snoc, ht, ho]
theorem chk_val (m : MachD) : chk m = 0 ∨ chk m = 1 ∨ chk m = 3 := by
  unfold chk
  split
  · exact .inr (.inl rfl)
  · split
    · exact .inr (.inr rfl)
    · cases hf : (List.range m.out.length).findSome? (rowBad m) with
      | none => exact .inl rfl
      | some c =>
        obtain ⟨i, _, hi⟩ := List.exists_of_findSome?_eq_some hf
        unfold rowBad at hi
        split at hi
        · simp at hi; subst hi; exact .inr (.inr rfl)
        · split at hi
          · simp at hi; subst hi; exact .inr (.inl rfl)
          · simp at hi
/-- what comes of mealy.Apart -/
theorem ap_cases (a b : MachD) : (Good a ∧ Good b ∧ ins a = ins b ∧ XEqv a 0 b 0 ∧ apC a b = 2 ∧ apL a b = []) ∨ (∃ f, Good a ∧ Good b ∧ ins a = ins b ∧ First a b 0 0 f ∧ apC a b = 0 ∧ apL a b = f) ∨ (¬ (Good a ∧ Good b ∧ ins a = ins b) ∧ (apC a b = 1 ∨ apC a b = 3) ∧ apL a b = []) := by
  by_cases hg : Good a ∧ Good b ∧ ins a = ins b
  · have ec : apC a b = apartN a b 0 0 := by unfold apC; rw [if_neg (by simp [good_chk hg.1]), if_neg (by simp [good_chk hg.2.1]), if_neg (by simp [hg.2.2])]
    have el : apL a b = apartL a b 0 0 := by unfold apL; rw [if_pos ⟨good_chk hg.1, good_chk hg.2.1, hg.2.2⟩]
    rcases first_or a b 0 0 with ⟨f, hf⟩ | hx
    · have := apart_yes hf
      exact .inr (.inl ⟨f, hg.1, hg.2.1, hg.2.2, hf, by rw [ec, this.2], by rw [el, this.1]⟩)
    · have := apart_no hx
      exact .inl ⟨hg.1, hg.2.1, hg.2.2, hx, by rw [ec, this.2], by rw [el, this.1]⟩
  · refine .inr (.inr ⟨hg, ?_, ?_⟩)
    · unfold apC
      by_cases h1 : chk a = 0
      · rw [if_neg (by simp [h1])]
        by_cases h2 : chk b = 0
        · rw [if_neg (by simp [h2]), if_pos fun h3 => hg ⟨chk_good h1, chk_good h2, h3⟩]; exact .inr rfl
        · rw [if_pos h2]; rcases chk_val b with h | h | h
          · exact absurd h h2
          · exact .inl h
          · exact .inr h
      · rw [if_pos h1]; rcases chk_val a with h | h | h
        · exact absurd h h1
        · exact .inl h
        · exact .inr h
    · unfold apL; rw [if_neg]; rintro ⟨h1, h2, h3⟩; exact hg ⟨chk_good h1, chk_good h2, h3⟩
end Go.Proofs.YtkcggmhllijgcaaDoor
