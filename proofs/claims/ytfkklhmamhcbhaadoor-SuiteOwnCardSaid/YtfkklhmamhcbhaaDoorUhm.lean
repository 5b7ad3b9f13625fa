/- What hit.least and hit.Hits compute, over natural numbers: the least ones, in order; the least hitting sets, set by set. No program's walk in sight. No conditions but the sets' size. -/
import Derived.Test.YtfkklhmamhcbhaaDoorUle
import Derived.Test.YtfkklhmamhcbhaaDoorHtm
import Derived.Laws.BitsAll
namespace Go.Proofs.YtfkklhmamhcbhaaDoor
open Go.RowKit Go.Lib
def ofN (l : List Nat) : List Int := l.map Int.ofNat
theorem ofN_len (l : List Nat) : (ofN l).length = l.length := by unfold ofN; exact List.length_map _
theorem ofN_mem {l : List Nat} {z : Int} : z ∈ ofN l ↔ ∃ n ∈ l, (n : Int) = z := by unfold ofN; rw [List.mem_map]; rfl
theorem ofN_app (a b : List Nat) : ofN (a ++ b) = ofN a ++ ofN b := by unfold ofN; rw [List.map_append]
theorem ofN_at (l : List Nat) (i : Nat) : at0 (ofN l) i = ((l.getD i 0 : Nat) : Int) := by
  unfold at0 ofN
  rw [List.getD_eq_getElem?_getD, List.getD_eq_getElem?_getD, List.getElem?_map]
  cases l[i]? <;> rfl
theorem ofN_wf {l : List Nat} (h : ∀ x ∈ l, x < 4294967296) : ∀ z ∈ ofN l, (Lit.int .u32 z).wf = true := by
  intro z hz
  obtain ⟨n, hn, rfl⟩ := ofN_mem.1 hz
  have := h n hn
  exact WalkArith.wf_u32 (by omega)
theorem uless_iff {s t : Nat} (hs : s < 4294967296) (ht : t < 4294967296) : ulessP (s : Int) (t : Int) = true ↔ t ≠ s ∧ sub t s := by
  unfold ulessP sub
  rw [u32_and_nat t s ht hs, Bool.and_eq_true]
  constructor
  · rintro ⟨h1, h2⟩
    refine ⟨fun e => ?_, ?_⟩
    · subst e; simp at h1
    · have : ((t &&& s : Nat) : Int) = (t : Int) := by simpa using h2
      exact_mod_cast this
  · rintro ⟨h1, h2⟩
    refine ⟨?_, by rw [h2]; simp⟩
    have : ((t : Int) == (s : Int)) = false := by
      rw [beq_eq_false_iff_ne]; intro e; exact h1 (by exact_mod_cast e)
    rw [this]; rfl
theorem srt_sorted (zs : List Int) : (srt zs).Pairwise (· ≤ ·) := by
  unfold srt
  have := List.pairwise_mergeSort (le := fun (x y : Int) => decide (x ≤ y)) (fun a b c h1 h2 => by simp at h1 h2 ⊢; omega) (fun a b => by simp; omega) zs
  exact this.imp fun h => by simpa using h
theorem compact_asc {zs : List Int} (h : zs.Pairwise (· ≤ ·)) : (compact zs).Pairwise (· < ·) := by
  have le : ∀ i j, i ≤ j → j < zs.length → zs.toArray[i]! ≤ zs.toArray[j]! := by
    intro i j hij hj
    rw [getElem!_pos zs.toArray i (by simp; omega), getElem!_pos zs.toArray j (by simpa using hj)]
    simp only [List.getElem_toArray]
    rcases Nat.lt_or_ge i j with h1 | h1
    · exact List.pairwise_iff_getElem.1 h i j (by omega) hj h1
    · obtain rfl : i = j := by omega
      exact Int.le_refl _
  unfold compact compactUpTo
  rw [List.pairwise_map, List.pairwise_filter]
  have hr : (List.range zs.length).Pairwise (· < ·) := List.pairwise_lt_range
  rw [List.pairwise_iff_getElem] at hr ⊢
  intro i j hi hj hij _ kj
  have h0 := hr i j hi hj hij
  simp only [List.getElem_range] at kj h0 ⊢
  have hj' : j < zs.length := by simpa using hj
  unfold keeps at kj
  have kj' : j = 0 ∨ zs.toArray[j]! ≠ zs.toArray[j - 1]! := by simpa using kj
  have a1 := le i (j - 1) (by omega) (by omega)
  have a2 := le (j - 1) j (by omega) hj'
  rcases kj' with e | e
  · omega
  · omega
theorem compact_all_mem (zs : List Int) (x : Int) (hx : x ∈ zs) : x ∈ compact zs := by
  unfold compact compactUpTo
  simp only [List.mem_map, List.mem_filter, List.mem_range]
  obtain ⟨j, hj, rfl⟩ := List.getElem_of_mem hx
  clear hx
  induction j with
  | zero => exact ⟨0, ⟨hj, by simp [keeps]⟩, by simp [getElem!_pos, hj]⟩
  | succ j ih =>
    by_cases e : zs.toArray[j + 1]! = zs.toArray[j]!
    · obtain ⟨q, h1, h2⟩ := ih (by omega)
      refine ⟨q, h1, h2.trans ?_⟩
      have e1 : zs.toArray[j + 1]! = zs[j + 1] := by simp [getElem!_pos, hj]
      have e2 : zs.toArray[j]! = zs[j] := by simp [getElem!_pos, (by omega : j < zs.length)]
      rw [← e1, ← e2, e]
    · exact ⟨j + 1, ⟨hj, by unfold keeps; simpa using e⟩, by simp [getElem!_pos, hj]⟩
def leastN (l : List Nat) : List Nat := (leastL (ofN l)).map Int.toNat
theorem leastN_cast (l : List Nat) : leastL (ofN l) = ofN (leastN l) := by
  unfold leastN ofN
  rw [List.map_map]
  symm
  conv => rhs; rw [← List.map_id (leastL (List.map Int.ofNat l))]
  apply List.map_congr_left
  intro z hz
  obtain ⟨n, _, rfl⟩ := ofN_mem.1 (leastL_sub hz)
  rfl
theorem leastN_len (l : List Nat) : (leastN l).length ≤ l.length := by
  unfold leastN; rw [List.length_map]; exact Nat.le_trans (leastL_len _) (by rw [ofN_len]; exact Nat.le_refl _)
theorem leastN_asc (l : List Nat) : Asc (leastN l) := by
  have h : (leastL (ofN l)).Pairwise (· < ·) := by
    unfold leastL keepU
    exact (compact_asc (srt_sorted _)).filter _
  rw [leastN_cast] at h
  unfold ofN at h
  rw [List.pairwise_map] at h
  exact h.imp fun h => by simpa using h
theorem leastN_mem {l : List Nat} (hl : ∀ x ∈ l, x < 4294967296) (x : Nat) : x ∈ leastN l ↔ x ∈ l ∧ ∀ y ∈ l, sub y x → y = x := by
  have hm : ∀ z, z ∈ compact (srt (ofN l)) ↔ z ∈ ofN l := fun z => ⟨fun h => srt_mem.1 (compact_mem _ _ h), fun h => compact_all_mem _ _ (srt_mem.2 h)⟩
  have h1 : x ∈ leastN l ↔ (x : Int) ∈ leastL (ofN l) := by
    rw [leastN_cast, ofN_mem]
    constructor
    · exact fun h => ⟨x, h, rfl⟩
    · rintro ⟨n, hn, e⟩
      have : n = x := by exact_mod_cast e
      exact this ▸ hn
  have h2 : (x : Int) ∈ ofN l ↔ x ∈ l := by
    rw [ofN_mem]
    constructor
    · rintro ⟨n, hn, e⟩
      have : n = x := by exact_mod_cast e
      exact this ▸ hn
    · exact fun h => ⟨x, h, rfl⟩
  rw [h1]
  unfold leastL keepU
  rw [List.mem_filter, hm, h2]
  refine and_congr_right fun hx => ?_
  unfold uoverP
  rw [Bool.not_eq_true', List.any_eq_false]
  constructor
  · intro h y hy hs
    apply Classical.byContradiction
    intro hn
    exact h (y : Int) ((hm _).2 (ofN_mem.2 ⟨y, hy, rfl⟩)) ((uless_iff (hl x hx) (hl y hy)).2 ⟨hn, hs⟩)
  · intro h z hz hu
    obtain ⟨y, hy, rfl⟩ := ofN_mem.1 ((hm _).1 hz)
    obtain ⟨h3, h4⟩ := (uless_iff (hl x hx) (hl y hy)).1 hu
    exact h3 (h y hy h4)
/-- h with each of the first j bits that s has -/
def bitsN (s h j : Nat) : List Nat := ((List.range j).filter fun i => s.testBit i).map fun i => h ||| 2 ^ i
theorem bitsN_zero (s h : Nat) : bitsN s h 0 = [] := rfl
theorem bitsN_yes {s h j : Nat} (e : s.testBit j = true) : bitsN s h (j + 1) = bitsN s h j ++ [h ||| 2 ^ j] := by
  unfold bitsN; rw [List.range_succ, List.filter_append, List.map_append]; simp [e]
theorem bitsN_no {s h j : Nat} (e : s.testBit j = false) : bitsN s h (j + 1) = bitsN s h j := by
  unfold bitsN; rw [List.range_succ, List.filter_append, List.map_append]; simp [e]
theorem bitsN_end {s h j : Nat} (hs : s < 2 ^ j) : ∀ m, j ≤ m → bitsN s h m = bitsN s h j := by
  intro m hm
  induction m with
  | zero => obtain rfl : j = 0 := by omega
            rfl
  | succ m ih =>
    by_cases e : j = m + 1
    · rw [e]
    · rw [bitsN_no (Nat.testBit_lt_two_pow (Nat.lt_of_lt_of_le hs (Nat.pow_le_pow_right (by omega) (by omega)))), ih (by omega)]
theorem bitsN_len (s h j : Nat) : (bitsN s h j).length ≤ j := by
  unfold bitsN; rw [List.length_map]; exact Nat.le_trans (List.length_filter_le _ _) (by simp)
theorem bitsN_mem {s h j x : Nat} : x ∈ bitsN s h j ↔ ∃ i, i < j ∧ s.testBit i = true ∧ x = h ||| 2 ^ i := by
  unfold bitsN
  simp only [List.mem_map, List.mem_filter, List.mem_range]
  constructor
  · rintro ⟨i, ⟨h1, h2⟩, rfl⟩; exact ⟨i, h1, h2, rfl⟩
  · rintro ⟨i, h1, h2, rfl⟩; exact ⟨i, ⟨h1, h2⟩, rfl⟩
def oneN (s h : Nat) : List Nat := if h &&& s = 0 then bitsN s h 12 else [h]
def nextN (s : Nat) (out : List Nat) : List Nat := out.flatMap (oneN s)
theorem nextN_nil (s : Nat) : nextN s [] = [] := rfl
theorem nextN_snoc (s : Nat) (out : List Nat) (h : Nat) : nextN s (out ++ [h]) = nextN s out ++ oneN s h := by unfold nextN; simp
theorem nextN_len (s : Nat) (out : List Nat) : (nextN s out).length ≤ out.length * 12 := by
  induction out with
  | nil => simp [nextN]
  | cons h out ih =>
    have : (oneN s h).length ≤ 12 := by unfold oneN; split; exact bitsN_len _ _ _; simp
    unfold nextN at ih ⊢
    rw [List.flatMap_cons, List.length_append, List.length_cons]
    omega
theorem nextN_mem {s : Nat} (hs : s < 4096) {out : List Nat} {x : Nat} : x ∈ nextN s out ↔ Nxt out s x := by
  unfold nextN Nxt
  rw [List.mem_flatMap]
  constructor
  · rintro ⟨h, h1, h2⟩
    unfold oneN at h2
    by_cases e : h &&& s = 0
    · rw [if_pos e] at h2
      obtain ⟨i, _, h3, h4⟩ := bitsN_mem.1 h2
      exact .inr ⟨h, h1, e, i, h3, h4⟩
    · rw [if_neg e, List.mem_singleton] at h2
      subst h2
      exact .inl ⟨h1, e⟩
  · rintro (⟨h1, h2⟩ | ⟨h, h1, e, i, h3, h4⟩)
    · exact ⟨x, h1, by unfold oneN; rw [if_neg h2]; simp⟩
    · refine ⟨h, h1, ?_⟩
      unfold oneN
      rw [if_pos e]
      refine bitsN_mem.2 ⟨i, ?_, h3, h4⟩
      apply Classical.byContradiction
      intro hn
      have : s < 2 ^ i := Nat.lt_of_lt_of_le hs (show 2 ^ 12 ≤ 2 ^ i from Nat.pow_le_pow_right (by omega) (by omega))
      rw [Nat.testBit_lt_two_pow this] at h3
      cases h3
def hitsN (l : List Nat) : List Nat := l.foldl (fun out s => leastN (nextN s out)) [0]
theorem hitsN_nil : hitsN [] = [0] := rfl
theorem hitsN_snoc (l : List Nat) (s : Nat) : hitsN (l ++ [s]) = leastN (nextN s (hitsN l)) := by unfold hitsN; rw [List.foldl_append]; rfl
theorem list_snoc_ind {α : Type} {p : List α → Prop} (h0 : p []) (h1 : ∀ l a, p l → p (l ++ [a])) (l : List α) : p l := by
  have : ∀ r : List α, p r.reverse := by
    intro r
    induction r with
    | nil => exact h0
    | cons a r ih => rw [List.reverse_cons]; exact h1 _ _ ih
  have := this l.reverse
  rwa [List.reverse_reverse] at this
theorem hitsN_ok (l : List Nat) : (∀ s ∈ l, s < 4096) → (∀ x, x ∈ hitsN l ↔ MinHit l x) ∧ Asc (hitsN l) := by
  induction l using list_snoc_ind with
  | h0 =>
    intro _
    refine ⟨fun x => ?_, by unfold Asc; rw [hitsN_nil]; simp⟩
    rw [hitsN_nil, List.mem_singleton, min_nil]
  | h1 l s ih =>
    intro hl
    have hl1 : ∀ y ∈ l, y < 4096 := fun y hy => hl y (List.mem_append_left _ hy)
    have hs : s < 4096 := hl s (by simp)
    obtain ⟨i1, i2⟩ := ih hl1
    rw [hitsN_snoc]
    refine ⟨fun x => ?_, leastN_asc _⟩
    have small : ∀ y ∈ nextN s (hitsN l), y < 4294967296 := by
      intro y hy
      have hsm : ∀ h ∈ hitsN l, h < 2 ^ 12 := fun h hh => min_small (n := 12) hl1 ((i1 h).1 hh)
      rcases nextN_mem hs |>.1 hy with ⟨h1, _⟩ | ⟨h, h1, _, i, h3, rfl⟩
      · have := hsm y h1; omega
      · have hi : i < 12 := by
          apply Classical.byContradiction
          intro hn
          have : s < 2 ^ i := Nat.lt_of_lt_of_le hs (show 2 ^ 12 ≤ 2 ^ i from Nat.pow_le_pow_right (by omega) (by omega))
          rw [Nat.testBit_lt_two_pow this] at h3
          cases h3
        have : h ||| 2 ^ i < 2 ^ 12 := Nat.or_lt_two_pow (hsm h h1) (Nat.pow_lt_pow_right (by omega) hi)
        omega
    rw [leastN_mem small, step_min i1, nextN_mem hs]
    exact and_congr_right fun _ => forall_congr' fun y => imp_congr_left (nextN_mem hs)
theorem asc_len_from (n : Nat) : ∀ (l : List Nat) (lo : Nat), Asc l → (∀ x ∈ l, lo ≤ x ∧ x < n) → l.length ≤ n - lo
  | [], _, _, _ => by simp
  | a :: l, lo, h, hl => by
    unfold Asc at h
    rw [List.pairwise_cons] at h
    have h1 := hl a (by simp)
    have h2 := asc_len_from n l (a + 1) h.2 fun x hx => ⟨h.1 x hx, (hl x (by simp [hx])).2⟩
    rw [List.length_cons]
    omega
theorem asc_len {l : List Nat} (h : Asc l) {n : Nat} (hn : ∀ x ∈ l, x < n) : l.length ≤ n := asc_len_from n l 0 h fun x hx => ⟨Nat.zero_le _, hn x hx⟩
theorem hitsN_small {l : List Nat} (hl : ∀ s ∈ l, s < 4096) : (∀ x ∈ hitsN l, x < 4096) ∧ (hitsN l).length ≤ 4096 := by
  obtain ⟨h1, h2⟩ := hitsN_ok l hl
  have h3 : ∀ x ∈ hitsN l, x < 4096 := fun x hx => min_small (n := 12) hl ((h1 x).1 hx)
  exact ⟨h3, asc_len h2 h3⟩
/-- what is wrong with sets -/
def hitC (l : List Nat) : Int := if 20 < l.length then 4 else if l.all fun s => decide (s < 4096) then 0 else 1
theorem hitC_good {l : List Nat} (h : hitC l = 0) : l.length ≤ 20 ∧ ∀ s ∈ l, s < 4096 := by
  unfold hitC at h
  split at h
  · simp at h
  · split at h
    · rename_i h1 h2
      rw [List.all_eq_true] at h2
      exact ⟨by omega, fun s hs => by simpa using h2 s hs⟩
    · simp at h
end Go.Proofs.YtfkklhmamhcbhaaDoor
