/- What is asked of a machine leads to its least one: the rule of learning, for a machine's own answers. No conditions. -/
import Derived.Test.YtkcggmhllijgcaaLql
import Derived.Test.YtkcggmhllijgcaaApm
namespace Go.Proofs.Ytkcggmhllijgcaa
theorem least_nat (P : Nat → Prop) (h : ∃ k, P k) : ∃ k, P k ∧ ∀ j, j < k → ¬ P j := by
  obtain ⟨k, hk⟩ := h
  induction k using Nat.strongRecOn with
  | _ k ih =>
    by_cases hm : ∃ j, j < k ∧ P j
    · obtain ⟨j, hj, hp⟩ := hm
      exact ih j hj hp
    · exact ⟨k, hk, fun j hj hp => hm ⟨j, hj, hp⟩⟩
theorem lex_min (N : Nat) : ∀ (n : Nat) (P : List Int → Prop), (∃ w, w.length = n ∧ (∀ x ∈ w, 0 ≤ x ∧ x < (N : Int)) ∧ P w) → ∃ w, (w.length = n ∧ (∀ x ∈ w, 0 ≤ x ∧ x < (N : Int)) ∧ P w) ∧ ∀ v, v.length = n → (∀ x ∈ v, 0 ≤ x ∧ x < (N : Int)) → P v → v = w ∨ lexLt w v
  | 0, P, ⟨w, h1, h2, h3⟩ => by
    obtain rfl : w = [] := List.eq_nil_of_length_eq_zero h1
    exact ⟨[], ⟨rfl, h2, h3⟩, fun v hv _ _ => .inl (List.eq_nil_of_length_eq_zero hv)⟩
  | n + 1, P, ⟨w, h1, h2, h3⟩ => by
    obtain ⟨x, w', rfl⟩ : ∃ x w', w = x :: w' := by
      cases w with
      | nil => simp at h1
      | cons x w' => exact ⟨x, w', rfl⟩
    have hx := h2 x (by simp)
    obtain ⟨k, ⟨w1, k1, k2, k3⟩, kmin⟩ := least_nat (fun k => ∃ w', w'.length = n ∧ (∀ y ∈ (k : Int) :: w', 0 ≤ y ∧ y < (N : Int)) ∧ P ((k : Int) :: w')) ⟨x.toNat, w', by simpa using h1, by rw [show ((x.toNat : Nat) : Int) = x by omega]; exact h2, by rw [show ((x.toNat : Nat) : Int) = x by omega]; exact h3⟩
    have hk := k2 (k : Int) (by simp)
    obtain ⟨w2, ⟨m1, m2, m3⟩, mmin⟩ := lex_min N n (fun w' => P ((k : Int) :: w')) ⟨w1, k1, fun y hy => k2 y (by simp [hy]), k3⟩
    refine ⟨(k : Int) :: w2, ⟨by simp [m1], fun y hy => ?_, m3⟩, fun v hv hvl hvp => ?_⟩
    · rcases List.mem_cons.1 hy with rfl | h
      · exact hk
      · exact m2 y h
    · obtain ⟨y, v', rfl⟩ : ∃ y v', v = y :: v' := by
        cases v with
        | nil => simp at hv
        | cons y v' => exact ⟨y, v', rfl⟩
      have hy := hvl y (by simp)
      have hlt : ¬ y.toNat < k := fun hlt => kmin y.toNat hlt ⟨v', by simpa using hv, by rw [show ((y.toNat : Nat) : Int) = y by omega]; exact hvl, by rw [show ((y.toNat : Nat) : Int) = y by omega]; exact hvp⟩
      by_cases e : y = (k : Int)
      · subst e
        rcases mmin v' (by simpa using hv) (fun z hz => hvl z (by simp [hz])) hvp with rfl | h
        · exact .inl rfl
        · exact .inr (show (k : Int) < (k : Int) ∨ ((k : Int) = (k : Int) ∧ lexLt w2 v') from .inr ⟨rfl, h⟩)
      · exact .inr (show (k : Int) < y ∨ ((k : Int) = y ∧ lexLt w2 v') from .inl (by omega))
theorem first_ex {a b : MachD} {i k : Nat} (h : ¬ XEqv a i b k) : ∃ f, First a b i k f := by
  have hw : ∃ w, word a w ∧ Tears a b i k w := by
    apply Classical.byContradiction
    intro hn
    apply h
    intro w hw
    apply Classical.byContradiction
    intro ht
    exact hn ⟨w, hw, ht⟩
  obtain ⟨w, hw1, hw2⟩ := hw
  obtain ⟨n, ⟨w1, a1, a2, a3⟩, nmin⟩ := least_nat (fun n => ∃ w, w.length = n ∧ word a w ∧ Tears a b i k w) ⟨w.length, w, rfl, hw1, hw2⟩
  obtain ⟨f, ⟨b1, b2, b3⟩, fmin⟩ := lex_min (ins a) n (fun w => Tears a b i k w) ⟨w1, a1, a2, a3⟩
  refine ⟨f, b2, b3, fun v hv ht => ?_⟩
  rcases Nat.lt_trichotomy v.length n with h1 | h1 | h1
  · exact absurd ⟨v, rfl, hv, ht⟩ (nmin v.length h1)
  · rcases fmin v h1 hv ht with rfl | h2
    · exact sle_refl _
    · exact .inr (.inr ⟨by omega, h2⟩)
  · exact .inr (.inl (by omega))
/-- what is told to be wrong with a machine -/
noncomputable def WM (m l : MachD) : Option (List Int) := if apC m l = 0 then some (apL m l) else none
theorem apC_good {m l : MachD} (gm : Good m) (gl : Good l) (hi : ins m = ins l) : apC m l = apartN m l 0 0 ∧ apL m l = apartL m l 0 0 :=
  ⟨by unfold apC; rw [if_neg (by simp [good_chk gm]), if_neg (by simp [good_chk gl]), if_neg (by simp [hi])], by unfold apL; rw [if_pos ⟨good_chk gm, good_chk gl, hi⟩]⟩
theorem WM_none {m l : MachD} (gm : Good m) (gl : Good l) (hi : ins m = ins l) (h : WM m l = none) : XEqv m 0 l 0 := by
  apply Classical.byContradiction
  intro hn
  obtain ⟨f, hf⟩ := first_ex hn
  have h1 := (apC_good gm gl hi).1
  rw [(apart_yes hf).2] at h1
  unfold WM at h
  rw [if_pos h1] at h
  cases h
theorem WM_some {m l : MachD} {t : List Int} (gm : Good m) (gl : Good l) (hi : ins m = ins l) (h : WM m l = some t) : First m l 0 0 t ∧ apC m l = 0 ∧ apL m l = t := by
  unfold WM at h
  split at h
  · rename_i h0
    injection h with h
    have hg := apC_good gm gl hi
    by_cases hx : XEqv m 0 l 0
    · rw [hg.1, (apart_no hx).2] at h0; omega
    · obtain ⟨f, hf⟩ := first_ex hx
      have h2 := (apart_yes hf).1
      rw [← hg.2, h] at h2
      subst h2
      exact ⟨hf, h0, h⟩
  · cases h
def LInvM (m : MachD) (a : Nat) (heads tails : List (List Int)) : Prop := ∀ r, ClosedL (TM m) tails (ins m) (heads ++ r) → a ≤ (heads ++ r).length
theorem TM_max {m : MachD} (gm : Good m) {tails hs : List (List Int)} (ht : TSz (ins m) tails) (hh : HeadsOk (TM m) tails (ins m) hs) : hs.length ≤ 6 := by
  have := heads_le (l := m) gm rfl rfl (fun _ _ => rfl) ht.ok hh
  have := gm.le
  omega
theorem ruleM {m : MachD} (gm : Good m) : Rule (TM m) (WM m) (ins m) (LInvM m) := by
  refine ⟨fun r _ => by simp, fun tails hs ht hh => TM_max gm ht hh, fun a heads tails r c l t hI ht hC hco hld hW => ?_⟩
  have g6 := TM_max gm ht hC.1
  have gd := machL_good (T := TM m) (tails := tails) (n := ins m) hC.1.one g6 gm.ins1 gm.ins3
  have lp := least_props gd hco hld
  have il : ins l = ins m := lp.2.1.trans (machL_ins hC.1.one)
  obtain ⟨hf, _, _⟩ := WM_some gm lp.1 il.symm hW
  have hlen := first_len (a := m) (b := l) gm lp.1 il.symm gm.pos lp.1.pos hf
  have hll : (machL (TM m) tails (heads ++ r) (ins m)).out.length ≤ 6 := by simpa [machL] using g6
  have hlet : ∀ x ∈ t, 0 ≤ x ∧ x < (ins m : Int) := fun x hx => hf.1 x hx
  refine ⟨by have := hI r hC; omega, by have := gm.le; have := lp.2.2.2; omega, hlet, fun r' hC' => ?_⟩
  have hne : tells m 0 t ≠ tells (machL (TM m) tails (heads ++ r) (ins m)) 0 t := by
    rw [lp.2.2.1 t (fun x hx => by
      unfold letter
      rw [machL_ins hC.1.one]
      exact hlet x hx)]
    exact hf.2.1
  have := grows rfl ht.ok hC hlet hne hC'
  have := hI r hC
  omega
/-- where nothing is wrong it is the least machine, and has as many states as one asked, or more -/
theorem learnt {m : MachD} (gm : Good m) {a : Nat} {heads tails r : List (List Int)} {c c' : List Int} {l l' : MachD} (hI : LInvM m a heads tails) (ht : TSz (ins m) tails) (hC : ClosedL (TM m) tails (ins m) (heads ++ r))
    (hco : ClassOf (machL (TM m) tails (heads ++ r) (ins m)) c) (hld : LeastD (machL (TM m) tails (heads ++ r) (ins m)) c l) (hW : WM m l = none) (hco' : ClassOf m c') (hld' : LeastD m c' l') : l = l' ∧ a ≤ l'.out.length := by
  have g6 := TM_max gm ht hC.1
  have gd := machL_good (T := TM m) (tails := tails) (n := ins m) hC.1.one g6 gm.ins1 gm.ins3
  have lp := least_props gd hco hld
  have lp' := least_props gm hco' hld'
  have il : ins l = ins m := lp.2.1.trans (machL_ins hC.1.one)
  have hx := WM_none gm lp.1 il.symm hW
  have hxm : XEqv (machL (TM m) tails (heads ++ r) (ins m)) 0 m 0 := fun w hw => by
    have hw' : word m w := fun x hx => by
      have := hw x hx
      unfold letter at *
      rw [machL_ins hC.1.one] at this
      exact this
    rw [lp.2.2.1 w hw, hx w hw']
  have e := least_one (machL_ins hC.1.one) gd gm hco hco' hxm hld hld'
  refine ⟨e, ?_⟩
  have h1 := heads_le (l := l') lp'.1 rfl lp'.2.1 lp'.2.2.1 ht.ok hC.1
  have h2 := hI r hC
  omega
end Go.Proofs.Ytkcggmhllijgcaa
