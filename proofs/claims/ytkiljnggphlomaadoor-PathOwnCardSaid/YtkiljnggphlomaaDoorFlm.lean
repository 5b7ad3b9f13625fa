/- Who is met in a graph, by depth first, as mathematics. No program in sight. No conditions. -/
import Derived.Test.YtkiljnggphlomaaDoorMrow
namespace Go.Proofs.YtkiljnggphlomaaDoor
abbrev EdgeL := List (Int × Int)
def bAt (o : List Bool) (i : Nat) : Bool := o.getD i false
def vis (l : EdgeL) (but : Int) : Nat → List Bool → Int → List Bool
  | 0, o, _ => o
  | f + 1, o, i => if i = but ∨ bAt o i.toNat = true then o else l.foldl (fun o e => if e.1 = i then vis l but f o e.2 else o) (o.set i.toNat true)
theorem fold_rel {α : Type} (R : List Bool → List Bool → Prop) (hr : ∀ o, R o o) (ht : ∀ a b c, R a b → R b c → R a c) (g : List Bool → α → List Bool) : ∀ (l : List α) (_ : ∀ o, ∀ e ∈ l, R o (g o e)) (o : List Bool), R o (l.foldl g o)
  | [], _, o => hr o
  | e :: l, hg, o => ht _ _ _ (hg o e (by simp)) (fold_rel R hr ht g l (fun o e he => hg o e (by simp [he])) _)
theorem vis_rel (l : EdgeL) (but : Int) (hl : ∀ e ∈ l, 0 ≤ e.2) (R : List Bool → List Bool → Prop) (hr : ∀ o, R o o) (ht : ∀ a b c, R a b → R b c → R a c) (hs : ∀ o (i : Int), 0 ≤ i → i ≠ but → R o (o.set i.toNat true)) : ∀ (f : Nat) (o : List Bool) (i : Int), 0 ≤ i → R o (vis l but f o i)
  | 0, o, _, _ => hr o
  | f + 1, o, i, hi => by
    unfold vis
    split
    · exact hr o
    · rename_i h
      refine ht _ _ _ (hs o i hi fun e => h (.inl e)) (fold_rel R hr ht _ l (fun o e he => ?_) _)
      show R o (if e.1 = i then vis l but f o e.2 else o)
      split
      · exact vis_rel l but hl R hr ht hs f o e.2 (hl e he)
      · exact hr o
theorem bAt_set (o : List Bool) (i j : Nat) (h : bAt o j = true) : bAt (o.set i true) j = true := by
  unfold bAt at *
  rw [List.getD_eq_getElem?_getD] at *
  rw [List.getElem?_set]
  split
  · split
    · rfl
    · rename_i h1 h2; subst h1; rw [List.getElem?_eq_none (by omega)] at h; simp at h
  · exact h
theorem set_falses (o : List Bool) (i : Nat) (h : bAt o i = false) (hi : i < o.length) : (o.set i true).count false + 1 = o.count false := by
  have h1 : o[i] = false := by unfold bAt at h; rw [List.getD_eq_getElem?_getD, List.getElem?_eq_getElem hi] at h; exact h
  rw [List.count_set hi, h1]
  have : 0 < o.count false := List.count_pos_iff.2 (by rw [← h1]; exact List.getElem_mem _)
  simp; omega
section
variable (l : EdgeL) (but : Int) (hl : ∀ e ∈ l, 0 ≤ e.2)
include hl
theorem vis_len (f : Nat) (o : List Bool) (i : Int) (hi : 0 ≤ i) : (vis l but f o i).length = o.length :=
  vis_rel l but hl (fun a b => b.length = a.length) (fun _ => rfl) (fun _ _ _ h k => k.trans h) (fun o i _ _ => by simp) f o i hi
theorem vis_mono (f : Nat) (o : List Bool) (i : Int) (hi : 0 ≤ i) (j : Nat) (h : bAt o j = true) : bAt (vis l but f o i) j = true :=
  vis_rel l but hl (fun a b => ∀ j, bAt a j = true → bAt b j = true) (fun _ _ h => h) (fun _ _ _ h k j hj => k j (h j hj)) (fun o i _ _ j hj => bAt_set o i.toNat j hj) f o i hi j h
theorem vis_but (hb : 0 ≤ but) (f : Nat) (o : List Bool) (i : Int) (hi : 0 ≤ i) (h : bAt o but.toNat = false) : bAt (vis l but f o i) but.toNat = false := by
  refine vis_rel l but hl (fun a b => bAt a but.toNat = false → bAt b but.toNat = false) (fun _ h => h) (fun _ _ _ h k hj => k (h hj)) (fun o i hi hn h => ?_) f o i hi h
  unfold bAt at *
  rw [List.getD_eq_getElem?_getD] at *
  rw [List.getElem?_set_ne (by omega)]; exact h
theorem vis_falses (f : Nat) (o : List Bool) (i : Int) (hi : 0 ≤ i) : (vis l but f o i).count false ≤ o.count false := by
  refine vis_rel l but hl (fun a b => b.count false ≤ a.count false) (fun _ => Nat.le_refl _) (fun _ _ _ h k => Nat.le_trans k h) (fun o i _ _ => ?_) f o i hi
  by_cases h : i.toNat < o.length
  · rw [List.count_set h]; simp
  · rw [List.set_eq_of_length_le (by omega)]; exact Nat.le_refl _
theorem vis_hit (f : Nat) (o : List Bool) (i : Int) (hi : 0 ≤ i) (hn : i ≠ but) (h : i.toNat < o.length) : bAt (vis l but (f + 1) o i) i.toNat = true := by
  unfold vis
  split
  · rename_i h; exact h.resolve_left hn
  · refine fold_rel (fun a b => ∀ j, bAt a j = true → bAt b j = true) (fun _ _ h => h) (fun _ _ _ h k j hj => k j (h j hj)) _ l (fun o e he j hj => ?_) _ _ ?_
    · show bAt (if e.1 = i then vis l but f o e.2 else o) j = true
      split
      · exact vis_mono l but hl f o e.2 (hl e he) j hj
      · exact hj
    · unfold bAt; rw [List.getD_eq_getElem?_getD, List.getElem?_set_self h]; rfl
theorem vfold (f : Nat) (i : Int) (m : EdgeL) (hm : ∀ e ∈ m, 0 ≤ e.2) (o : List Bool) : (m.foldl (fun o e => if e.1 = i then vis l but f o e.2 else o) o).length = o.length ∧ (m.foldl (fun o e => if e.1 = i then vis l but f o e.2 else o) o).count false ≤ o.count false :=
  fold_rel (fun a b => b.length = a.length ∧ b.count false ≤ a.count false) (fun _ => ⟨rfl, Nat.le_refl _⟩) (fun _ _ _ h k => ⟨k.1.trans h.1, Nat.le_trans k.2 h.2⟩) _ m (fun o e he => by
    show (if e.1 = i then vis l but f o e.2 else o).length = o.length ∧ _
    split
    · exact ⟨vis_len l but hl f o e.2 (hm e he), vis_falses l but hl f o e.2 (hm e he)⟩
    · exact ⟨rfl, Nat.le_refl _⟩) o
end
def mets (n : Nat) (l : EdgeL) (but : Int) : List Bool := vis l but (n + 1) (List.replicate n false) 0
def edgesC (n : Int) (l : EdgeL) : Int := if l.any (fun e => decide (min e.1 e.2 < 0) || decide (n ≤ max e.1 e.2)) then 1 else 0
def flowC (n : Int) (l : EdgeL) : Int := if n < 1 ∨ 12 < n then 1 else if 30 < l.length then 4 else edgesC n l
def reachL (n : Nat) (l : EdgeL) : List Int := ((List.range n).filter fun i => bAt (mets n l (-1)) i).map Int.ofNat
def overL (n : Nat) (l : EdgeL) (i : Nat) : List Int := ((List.range n).filter fun k : Nat => !bAt (mets n l (k : Int)) i).map Int.ofNat
theorem mets_len (n : Nat) (l : EdgeL) (hl : ∀ e ∈ l, 0 ≤ e.2) (but : Int) : (mets n l but).length = n := by
  unfold mets; rw [vis_len l but hl _ _ _ (by decide)]; simp
theorem bAt_rep (n i : Nat) : bAt (List.replicate n false) i = false := by
  unfold bAt; rw [List.getD_eq_getElem?_getD, List.getElem?_replicate]; split <;> rfl
theorem mets_zero (n : Nat) (l : EdgeL) (i : Nat) : bAt (mets n l 0) i = false := by
  unfold mets vis; rw [if_pos (.inl rfl)]; exact bAt_rep n i
theorem mets_own (n : Nat) (l : EdgeL) (hl : ∀ e ∈ l, 0 ≤ e.2) (k : Nat) : bAt (mets n l k) k = false := by
  have := vis_but l k hl (by omega) (n + 1) (List.replicate n false) 0 (by decide) (bAt_rep n _)
  simpa [mets] using this
theorem mets_first (n : Nat) (l : EdgeL) (hl : ∀ e ∈ l, 0 ≤ e.2) (but : Int) (hb : but ≠ 0) (hn : 0 < n) : bAt (mets n l but) 0 = true := by
  have := vis_hit l but hl n (List.replicate n false) 0 (by decide) (fun e => hb e.symm) (by simpa using hn)
  simpa [mets] using this
theorem over_zero (n : Nat) (l : EdgeL) (hl : ∀ e ∈ l, 0 ≤ e.2) (hn : 0 < n) : overL n l 0 = [0] := by
  unfold overL
  have h : (List.range n).filter (fun k : Nat => !bAt (mets n l (k : Int)) 0) = [0] := by
    rw [show n = (n - 1) + 1 from by omega, List.range_succ_eq_map, List.filter_cons]
    have e : n - 1 + 1 = n := by omega
    rw [e]
    rw [if_pos (show (!bAt (mets n l ((0 : Nat) : Int)) 0) = true by rw [show ((0 : Nat) : Int) = 0 from rfl, mets_zero]; rfl)]
    rw [List.filter_eq_nil_iff.2]
    intro a ha
    simp only [List.mem_map] at ha
    obtain ⟨b, _, rfl⟩ := ha
    rw [mets_first n l hl _ (by omega) hn]
    simp
  rw [h]; rfl
theorem in_reach (n : Nat) (l : EdgeL) (i : Int) : i ∈ reachL n l ↔ (0 ≤ i ∧ i < n ∧ bAt (mets n l (-1)) i.toNat = true) := by
  unfold reachL
  simp only [List.mem_map, List.mem_filter, List.mem_range]
  constructor
  · rintro ⟨a, ⟨h1, h2⟩, rfl⟩
    exact ⟨Int.natCast_nonneg _, by simpa using h1, by simpa using h2⟩
  · rintro ⟨h0, h1, h2⟩
    exact ⟨i.toNat, ⟨by omega, h2⟩, by simp; omega⟩
theorem in_over (n : Nat) (l : EdgeL) (i k : Nat) : (k : Int) ∈ overL n l i ↔ (k < n ∧ bAt (mets n l k) i = false) := by
  unfold overL
  simp only [List.mem_map, List.mem_filter, List.mem_range]
  constructor
  · rintro ⟨a, ⟨h1, h2⟩, h⟩
    obtain rfl : a = k := by have h' : (a : Int) = (k : Int) := h; omega
    exact ⟨h1, by simpa using h2⟩
  · rintro ⟨h1, h2⟩
    exact ⟨k, ⟨h1, by simp [h2]⟩, rfl⟩
theorem over_both (n : Nat) (l : EdgeL) (hl : ∀ e ∈ l, 0 ≤ e.2) (i : Nat) (hi : i < n) : (0 : Int) ∈ overL n l i ∧ (i : Int) ∈ overL n l i :=
  ⟨(in_over n l i 0).2 ⟨by omega, mets_zero n l i⟩, (in_over n l i i).2 ⟨hi, mets_own n l hl i⟩⟩
end Go.Proofs.YtkiljnggphlomaaDoor
