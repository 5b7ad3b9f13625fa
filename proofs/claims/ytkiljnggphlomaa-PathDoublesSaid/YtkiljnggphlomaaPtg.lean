/- What path.made computes, as a function of the edges; and that where edges are right it begins well. No conditions. -/
import Derived.Test.YtkiljnggphlomaaPti
import Derived.Test.YtkiljnggphlomaaEdg
namespace Go.Proofs.Ytkiljnggphlomaa
open Go.RowKit Go.Deep
def ptgt (l : EdgeL) (i : Nat) : List Int := (l.filter fun e => decide (e.1 = (i : Int))).map (·.2)
theorem ptgt_mem {l : EdgeL} {i : Nat} {y : Int} (h : y ∈ ptgt l i) : ((i : Int), y) ∈ l := by
  unfold ptgt at h
  simp only [List.mem_map, List.mem_filter, decide_eq_true_eq] at h
  obtain ⟨e, ⟨h1, h2⟩, h3⟩ := h
  have : e = ((i : Int), y) := Prod.ext h2 h3
  rwa [← this]
theorem ptgt_le (l : EdgeL) (i : Nat) : (ptgt l i).length ≤ l.length := by unfold ptgt; rw [List.length_map]; exact List.length_filter_le _ _
def ptgts (l : EdgeL) (N : Nat) : List (List Int) := (List.range N).map fun i => ptgt l i
theorem ptgts_len (l : EdgeL) (N : Nat) : (ptgts l N).length = N := by simp [ptgts]
theorem ptgts_at {l : EdgeL} {N i : Nat} (hi : i < N) : rowAt (ptgts l N) i = ptgt l i := by
  unfold ptgts rowAt; rw [List.getD_eq_getElem?_getD]; simp [hi]
theorem ptgts_take {l : EdgeL} {N j a : Nat} {y : Int} (hj : j < l.length) (h : eAt l j = ((a : Int), y)) : ptgts (l.take (j + 1)) N = (ptgts (l.take j) N).set a (ptgt (l.take j) a ++ [y]) := by
  apply List.ext_getElem?
  intro i
  rw [List.getElem?_set]
  unfold ptgts
  by_cases hi : i < N
  · by_cases e : a = i
    · subst e
      rw [if_pos rfl]
      simp [hi, ptgt, take_eAt hj, List.filter_append, h]
    · rw [if_neg e]
      have : ¬ (a : Int) = (i : Int) := by omega
      simp [hi, ptgt, take_eAt hj, List.filter_append, h, this]
  · by_cases e : a = i
    · subst e; simp [hi]
    · simp [hi, e]
def s0P (n : Nat) (l : EdgeL) : PSt := ⟨ptgts l n, List.replicate n (-1), List.replicate n false⟩
def allS (n : Nat) (s : PSt) : Nat → Option PSt
  | 0 => some s
  | j + 1 => (allS n s j).bind fun s' => cntS n (n + 1) s' j
def madeF (n : Nat) (l : EdgeL) : Option PSt := allS n (s0P n l) n
theorem allS_none {n : Nat} {s : PSt} : ∀ {j k : Nat}, j ≤ k → allS n s j = none → allS n s k = none
  | j, 0, hk, h => by
    obtain rfl : j = 0 := by omega
    exact h
  | j, k + 1, hk, h => by
    by_cases e : j = k + 1
    · subst e; exact h
    · have := allS_none (k := k) (by omega) h
      simp only [allS, this]; rfl
structure PFlow (n : Nat) (l : EdgeL) : Prop where
  lo : 1 ≤ n
  hi : n ≤ 12
  le : l.length ≤ 30
  rg : ∀ e ∈ l, 0 ≤ e.1 ∧ e.1 < (n : Int) ∧ 0 ≤ e.2 ∧ e.2 < (n : Int)
theorem pflow_ok {n : Int} {l : EdgeL} (h : flowC n l = 0) : ∃ N : Nat, n = N ∧ PFlow N l := by
  unfold flowC at h
  split at h
  · omega
  · split at h
    · omega
    · refine ⟨n.toNat, by omega, by omega, by omega, by omega, fun e he => ?_⟩
      unfold edgesC at h
      split at h
      · omega
      · rename_i hn
        rw [Bool.not_eq_true, List.any_eq_false] at hn
        have := hn e he
        simp only [Bool.or_eq_true, decide_eq_true_eq, not_or] at this
        omega
theorem at0_rep {n i : Nat} (hi : i < n) (x : Int) : at0 (List.replicate n x) i = x := by
  unfold at0; rw [List.getD_eq_getElem?_getD, List.getElem?_replicate, if_pos hi]; rfl
theorem PFlow.rgs {n : Nat} {l : EdgeL} (h : PFlow n l) : Rg n (s0P n l) := ⟨fun r hr => by
  obtain ⟨i, hi, rfl⟩ := List.getElem_of_mem hr
  have : (s0P n l).rows[i] = ptgt l i := by simp [s0P, ptgts]
  rw [this]
  refine ⟨by have := ptgt_le l i; have := h.le; omega, fun y hy => ?_⟩
  have := h.rg _ (ptgt_mem hy)
  exact ⟨this.2.2.1, this.2.2.2⟩⟩
theorem PFlow.start {n : Nat} {l : EdgeL} (h : PFlow n l) : PGood n (s0P n l) := by
  have nd : ∀ p, p < n → ¬ 0 ≤ at0 (s0P n l).pth p := fun p hp => by
    show ¬ 0 ≤ at0 (List.replicate n (-1)) p
    rw [at0_rep hp]; omega
  refine ⟨h.rgs, ⟨ptgts_len _ _, by simp [s0P], by simp [s0P], fun p => ?_⟩, fun _ => 0, ⟨fun p hp h0 => absurd h0 (nd p hp), fun p hp h0 => absurd h0 (nd p hp), fun p hp h0 => absurd h0 (nd p hp)⟩⟩
  by_cases hp : p < n
  · rw [show (s0P n l).rows = ptgts l n from rfl, ptgts_at hp]
    have := ptgt_le l p; have := h.le; omega
  · unfold rowAt
    rw [List.getD_eq_getElem?_getD, List.getElem?_eq_none (by rw [show (s0P n l).rows = ptgts l n from rfl, ptgts_len]; omega)]
    simp
theorem allS_good {n : Nat} {s : PSt} (h12 : n ≤ 12) (hg : PGood n s) : ∀ (j : Nat) (s' : PSt), j ≤ n → allS n s j = some s' → PGood n s' ∧ s'.opn = s.opn ∧ ∀ i, i < j → 0 ≤ at0 s'.pth i
  | 0, s', _, h => by
    simp only [allS] at h
    injection h with h
    subst h
    exact ⟨hg, rfl, fun i hi => by omega⟩
  | j + 1, s', hj, h => by
    simp only [allS] at h
    cases ha : allS n s j with
    | none => rw [ha] at h; cases h
    | some s1 =>
      rw [ha] at h
      have h : cntS n (n + 1) s1 j = some s' := h
      have h1 := allS_good h12 hg j s1 (by omega) ha
      have h2 := cntS_fine h12 (n + 1) s1 j s' (by omega) h1.1 h
      have h3 := cntS_kin n (n + 1) s1 j s' h
      refine ⟨h2.1, h3.ol.trans h1.2.1, fun i hi => ?_⟩
      by_cases e : i = j
      · subst e; exact h2.2.2
      · have h4 := h1.2.2 i (by omega)
        rw [(h2.2.1.pk i (by omega) h4).1]
        exact h4
theorem nOpen_rep (n : Nat) : nOpen (List.replicate n false) = 0 := by
  unfold nOpen; simp
end Go.Proofs.Ytkiljnggphlomaa
