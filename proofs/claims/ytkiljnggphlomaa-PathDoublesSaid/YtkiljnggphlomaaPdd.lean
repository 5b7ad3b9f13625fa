/- The graphs of PathDoubles: right, and with 2 paths, times 2, and so on. No conditions. -/
import Derived.Test.YtkiljnggphlomaaPth
namespace Go.Proofs.Ytkiljnggphlomaa
open Go.RowKit Go.Deep
/-- the search without its sort -/
def cntN (n : Nat) : Nat → PSt → Nat → Option PSt
  | 0, _, _ => none
  | f + 1, s, i =>
    if s.opn.getD i false = true then none else if 0 ≤ at0 s.pth i then some s else
      match goS (cntN n f) (rowAt s.rows i) ⟨s.rows, s.pth, s.opn.set i true⟩ (if i + 1 = n then 1 else 0) with
      | none => none
      | some (s', k) => some (leaveS s' i k)
def SortedS (s : PSt) : Prop := ∀ i, srt (rowAt s.rows i) = rowAt s.rows i
theorem set_rowAt (ll : List (List Int)) (i : Nat) : ll.set i (rowAt ll i) = ll := by
  apply List.ext_getElem?
  intro j
  rw [List.getElem?_set]
  by_cases e : i = j
  · subst e
    rw [if_pos rfl]
    split
    · rename_i h; unfold rowAt; rw [List.getD_eq_getElem?_getD, List.getElem?_eq_getElem h]; rfl
    · rename_i h; rw [List.getElem?_eq_none (by omega)]
  · rw [if_neg e]
theorem goS_congr {c c' : PSt → Nat → Option PSt} (h : ∀ s i, SortedS s → c s i = c' s i ∧ ∀ s', c' s i = some s' → SortedS s') : ∀ (js : List Int) (s : PSt) (k : Int), SortedS s → goS c js s k = goS c' js s k ∧ ∀ p, goS c' js s k = some p → SortedS p.1
  | [], s, k, hs => ⟨rfl, fun p hp => by simp only [goS] at hp; injection hp with hp; subst hp; exact hs⟩
  | j :: js, s, k, hs => by
    have h1 := h s j.toNat hs
    simp only [goS]
    rw [h1.1]
    cases hc : c' s j.toNat with
    | none => exact ⟨rfl, fun p hp => by cases hp⟩
    | some s' => exact goS_congr h js s' _ (h1.2 s' hc)
theorem cntS_N (n : Nat) : ∀ (f : Nat) (s : PSt) (i : Nat), SortedS s → cntS n f s i = cntN n f s i ∧ ∀ s', cntN n f s i = some s' → SortedS s'
  | 0, s, i, _ => ⟨rfl, fun s' h => by cases h⟩
  | f + 1, s, i, hs => by
    simp only [cntS, cntN]
    split
    · exact ⟨rfl, fun s' h => by cases h⟩
    · split
      · exact ⟨rfl, fun s' h => by injection h with h; subst h; exact hs⟩
      · have e : enterS s i = ⟨s.rows, s.pth, s.opn.set i true⟩ := by
          unfold enterS; rw [hs i, set_rowAt]
        rw [e, hs i]
        have g := goS_congr (cntS_N n f) (rowAt s.rows i) ⟨s.rows, s.pth, s.opn.set i true⟩ (if i + 1 = n then 1 else 0) hs
        rw [g.1]
        cases hg : goS (cntN n f) (rowAt s.rows i) ⟨s.rows, s.pth, s.opn.set i true⟩ (if i + 1 = n then 1 else 0) with
        | none => exact ⟨rfl, fun s' h => by cases h⟩
        | some p =>
          have := g.2 p hg
          refine ⟨rfl, fun s' h => ?_⟩
          injection h with h
          subst h
          exact this
def allN (n : Nat) (s : PSt) : Nat → Option PSt
  | 0 => some s
  | j + 1 => (allN n s j).bind fun s' => cntN n (n + 1) s' j
theorem allS_N (n : Nat) {s : PSt} (hs : SortedS s) : ∀ j, allS n s j = allN n s j ∧ ∀ s', allN n s j = some s' → SortedS s'
  | 0 => ⟨rfl, fun s' h => by simp only [allN] at h; injection h with h; subst h; exact hs⟩
  | j + 1 => by
    have h := allS_N n hs j
    simp only [allS, allN]
    rw [h.1]
    cases ha : allN n s j with
    | none => exact ⟨rfl, fun s' h => by cases h⟩
    | some s1 => exact cntS_N n (n + 1) s1 j (h.2 s1 ha)
def dblE : Nat → EdgeL
  | 0 => []
  | i + 1 => dblE i ++ [(3 * (i : Int), 3 * (i : Int) + 1), (3 * (i : Int), 3 * (i : Int) + 2), (3 * (i : Int) + 1, 3 * (i : Int) + 3), (3 * (i : Int) + 2, 3 * (i : Int) + 3)]
theorem dblE_len (i : Nat) : (dblE i).length = 4 * i := by
  induction i with
  | zero => rfl
  | succ i ih => simp only [dblE, List.length_append, ih, List.length_cons, List.length_nil]; omega
theorem dblE_wf {k : Nat} (hk : k ≤ 3) : ∀ e ∈ dblE k, wf64 e.1 ∧ wf64 e.2 := by
  match k, hk with
  | 0, _ => unfold wf64; decide
  | 1, _ => unfold wf64; decide
  | 2, _ => unfold wf64; decide
  | 3, _ => unfold wf64; decide
theorem sorted_of {n : Nat} {l : EdgeL} (h : ∀ r ∈ ptgts l n, r.Pairwise fun x y => decide (x ≤ y) = true) : SortedS (s0P n l) := by
  intro i
  show srt (rowAt (ptgts l n) i) = rowAt (ptgts l n) i
  unfold srt
  apply List.mergeSort_of_pairwise
  by_cases hi : i < (ptgts l n).length
  · have hm : rowAt (ptgts l n) i ∈ ptgts l n := by unfold rowAt; rw [List.getD_eq_getElem?_getD, List.getElem?_eq_getElem hi]; exact List.getElem_mem _
    exact h _ hm
  · have : rowAt (ptgts l n) i = [] := by unfold rowAt; rw [List.getD_eq_getElem?_getD, List.getElem?_eq_none (by omega)]; rfl
    rw [this]; exact List.Pairwise.nil
theorem madeN {n : Nat} {l : EdgeL} {x : Int} (h : ∀ r ∈ ptgts l n, r.Pairwise fun x y => decide (x ≤ y) = true) (hx : (allN n (s0P n l) n).map (fun s => at0 s.pth 0) = some x) : ∃ s, madeF n l = some s ∧ at0 s.pth 0 = x := by
  have h1 := (allS_N n (sorted_of h) n).1
  unfold madeF
  rw [h1]
  cases ha : allN n (s0P n l) n with
  | none => rw [ha] at hx; cases hx
  | some s =>
    rw [ha] at hx
    injection hx with hx
    exact ⟨s, rfl, hx⟩
theorem dup_no {l : EdgeL} (h : l.Nodup) : ¬ dupE l := by
  rintro ⟨i, hi, hm⟩
  have e : eAt l i = l[i] := by unfold eAt; rw [List.getD_eq_getElem?_getD, List.getElem?_eq_getElem hi]; rfl
  rw [e] at hm
  obtain ⟨j, hj, hj2⟩ := List.getElem_of_mem hm
  rw [List.length_take] at hj
  rw [List.getElem_take] at hj2
  exact List.pairwise_iff_getElem.1 h j i (by omega) hi (by omega) hj2
def pow2 : Nat → Int | 0 => 1 | 1 => 2 | 2 => 4 | _ => 8
set_option maxRecDepth 100000 in
theorem dbl_made {k : Nat} (hk : k ≤ 3) : flowC (((3 * k + 1 : Nat) : Nat) : Int) (dblE k) = 0 ∧ ¬ dupE (dblE k) ∧ ∃ s, madeF (3 * k + 1) (dblE k) = some s ∧ at0 s.pth 0 = pow2 k := by
  match k, hk with
  | 0, _ => exact ⟨by decide, dup_no (by decide), madeN (by decide) (by kernel_rfl)⟩
  | 1, _ => exact ⟨by decide, dup_no (by decide), madeN (by decide) (by kernel_rfl)⟩
  | 2, _ => exact ⟨by decide, dup_no (by decide), madeN (by decide) (by kernel_rfl)⟩
  | 3, _ => exact ⟨by decide, dup_no (by decide), madeN (by decide) (by kernel_rfl)⟩
theorem dbl_count {W : World} {k : Nat} {e : Ending} {w' : World} (hk : k ≤ 3) (h : CountPost W ((3 * k + 1 : Nat) : Int) (dblE k) e w') : Below W.heap.size W w' ∧ e = .returned (.tuple #[.int .i64 (pow2 k), .nilIface]) := by
  obtain ⟨hf, hd, s, hm, hs⟩ := dbl_made hk
  have h0 : pathC ((3 * k + 1 : Nat) : Int) (dblE k) = 0 := pathC_ok hf hd (by rw [Int.toNat_natCast]; exact hm)
  obtain ⟨hb, ⟨h1, _⟩ | ⟨_, s', hm', rfl⟩⟩ := h
  · exact absurd h0 h1
  · rw [Int.toNat_natCast, hm] at hm'
    injection hm' with hm'
    subst hm'
    rw [hs]
    exact ⟨hb, rfl⟩
end Go.Proofs.Ytkiljnggphlomaa
