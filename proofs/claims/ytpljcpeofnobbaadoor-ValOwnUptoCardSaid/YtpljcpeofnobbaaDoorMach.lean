/- Machines as plain lists: what is wrong with one, what one tells of a word, where it goes. No program in sight. No conditions. -/
import Derived.Test.YtpljcpeofnobbaaDoorLib
namespace Go.Proofs.YtpljcpeofnobbaaDoor
structure MachD where
  out : List (List Int)
  next : List (List Int)
def rowAt (l : List (List Int)) (i : Nat) : List Int := l.getD i []
def at0 (l : List Int) (i : Nat) : Int := l.getD i 0
def entryBad (n : Nat) (j : Int) : Bool := decide (j < 0) || decide ((n : Int) ≤ j)
def rowBad (m : MachD) (i : Nat) : Option Int :=
  if (rowAt m.out 0).length < 1 ∨ 3 < (rowAt m.out 0).length ∨ (rowAt m.out i).length ≠ (rowAt m.out 0).length ∨ (rowAt m.next i).length ≠ (rowAt m.out 0).length then some 3
  else if (rowAt m.next i).any (entryBad m.out.length) then some 1 else none
def chk (m : MachD) : Int :=
  if m.out.length < 1 ∨ 6 < m.out.length then 1
  else if m.next.length ≠ m.out.length then 3
  else ((List.range m.out.length).findSome? (rowBad m)).getD 0
theorem find_first {α : Type} (f : Nat → Option α) (n i : Nat) (c : α) (hi : i < n) (h : ∀ j, j < i → f j = none) (hc : f i = some c) : (List.range n).findSome? f = some c := by
  have e : List.range n = List.range i ++ (List.range' i (n - i)) := by
    have := List.range'_append (s := 0) (m := i) (n := n - i) (step := 1)
    simp only [Nat.zero_add, Nat.one_mul] at this
    rw [List.range_eq_range', List.range_eq_range', this, show i + (n - i) = n from by omega]
  rw [e, List.findSome?_append]
  have h1 : (List.range i).findSome? f = none := by
    rw [List.findSome?_eq_none_iff]; intro x hx; exact h x (by simpa using hx)
  rw [h1, show n - i = (n - i - 1) + 1 from by omega, List.range'_succ, List.findSome?_cons, hc]
  rfl
theorem find_none {α : Type} (f : Nat → Option α) (n : Nat) (h : ∀ j, j < n → f j = none) : (List.range n).findSome? f = none := by
  rw [List.findSome?_eq_none_iff]; intro x hx; exact h x (by simpa using hx)
def ins (m : MachD) : Nat := (rowAt m.out 0).length
/-- a right machine -/
structure Good (m : MachD) : Prop where
  pos : 1 ≤ m.out.length
  le : m.out.length ≤ 6
  next : m.next.length = m.out.length
  ins1 : 1 ≤ ins m
  ins3 : ins m ≤ 3
  rowO : ∀ i, i < m.out.length → (rowAt m.out i).length = ins m
  rowN : ∀ i, i < m.out.length → (rowAt m.next i).length = ins m
  goes : ∀ i, i < m.out.length → ∀ x, x < ins m → 0 ≤ at0 (rowAt m.next i) x ∧ at0 (rowAt m.next i) x < m.out.length
theorem chk_good {m : MachD} (h : chk m = 0) : Good m := by
  unfold chk at h
  split at h
  · simp at h
  · rename_i h1
    split at h
    · simp at h
    · rename_i h2
      have hn : (List.range m.out.length).findSome? (rowBad m) = none := by
        cases hf : (List.range m.out.length).findSome? (rowBad m) with
        | none => rfl
        | some c =>
          rw [hf] at h
          obtain ⟨i, _, hi⟩ := List.exists_of_findSome?_eq_some hf
          unfold rowBad at hi
          simp at h
          split at hi
          · simp at hi; omega
          · split at hi
            · simp at hi; omega
            · simp at hi
      rw [List.findSome?_eq_none_iff] at hn
      have hr : ∀ i, i < m.out.length → rowBad m i = none := fun i hi => hn i (by simpa using hi)
      have h0 := hr 0 (by omega)
      have key : ∀ i, i < m.out.length → (1 ≤ ins m ∧ ins m ≤ 3 ∧ (rowAt m.out i).length = ins m ∧ (rowAt m.next i).length = ins m) ∧ (rowAt m.next i).any (entryBad m.out.length) = false := by
        intro i hi
        have := hr i hi
        unfold rowBad at this
        split at this
        · simp at this
        · rename_i hh
          split at this
          · simp at this
          · rename_i hb
            refine ⟨⟨?_, ?_, ?_, ?_⟩, by simpa using hb⟩ <;> unfold ins <;> omega
      refine ⟨by omega, by omega, by omega, (key 0 (by omega)).1.1, (key 0 (by omega)).1.2.1, fun i hi => (key i hi).1.2.2.1, fun i hi => (key i hi).1.2.2.2, fun i hi x hx => ?_⟩
      have hb := (key i hi).2
      have hl := (key i hi).1.2.2.2
      rw [List.any_eq_false] at hb
      have hmem : at0 (rowAt m.next i) x ∈ rowAt m.next i := by
        unfold at0
        rw [List.getD_eq_getElem?_getD, List.getElem?_eq_getElem (by omega)]
        exact List.getElem_mem _
      have := hb _ hmem
      simp [entryBad] at this
      omega
theorem good_chk {m : MachD} (h : Good m) : chk m = 0 := by
  unfold chk
  have := h.pos; have := h.le; have := h.next
  rw [if_neg (by omega), if_neg (by omega), find_none]
  · rfl
  · intro i hi
    unfold rowBad
    have h1 := h.ins1; have h3 := h.ins3; have ho := h.rowO i hi; have hn := h.rowN i hi
    unfold ins at h1 h3 ho hn
    rw [if_neg (by omega), if_neg]
    rw [Bool.not_eq_true, List.any_eq_false]
    intro j hj
    obtain ⟨x, hx, rfl⟩ := List.getElem_of_mem hj
    have hg := h.goes i hi x (by unfold ins; omega)
    have e : at0 (rowAt m.next i) x = (rowAt m.next i)[x] := by
      unfold at0; rw [List.getD_eq_getElem?_getD, List.getElem?_eq_getElem hx]; rfl
    rw [e] at hg
    simp [entryBad]; omega
theorem good_iff (m : MachD) : Good m ↔ chk m = 0 := ⟨good_chk, chk_good⟩
def outAt (m : MachD) (s : Nat) (x : Int) : Int := at0 (rowAt m.out s) x.toNat
def nextAt (m : MachD) (s : Nat) (x : Int) : Nat := (at0 (rowAt m.next s) x.toNat).toNat
def tells (m : MachD) : Nat → List Int → List Int
  | _, [] => []
  | s, x :: w => outAt m s x :: tells m (nextAt m s x) w
def goes (m : MachD) : Nat → List Int → Nat
  | s, [] => s
  | s, x :: w => goes m (nextAt m s x) w
theorem tells_append (m : MachD) : ∀ (v : List Int) (s : Nat) (w : List Int), tells m s (v ++ w) = tells m s v ++ tells m (goes m s v) w
  | [], _, _ => rfl
  | x :: v, s, w => by simp [tells, goes, tells_append m v]
theorem goes_append (m : MachD) : ∀ (v : List Int) (s : Nat) (w : List Int), goes m s (v ++ w) = goes m (goes m s v) w
  | [], _, _ => rfl
  | x :: v, s, w => by simp [goes, goes_append m v]
theorem tells_length (m : MachD) : ∀ (w : List Int) (s : Nat), (tells m s w).length = w.length
  | [], _ => rfl
  | x :: w, s => by simp [tells, tells_length m w]
/-- a letter is one of the machine's -/
def letter (m : MachD) (x : Int) : Prop := 0 ≤ x ∧ x < ins m
def word (m : MachD) (w : List Int) : Prop := ∀ x ∈ w, letter m x
theorem nextAt_lt {m : MachD} (h : Good m) {s : Nat} (hs : s < m.out.length) {x : Int} (hx : letter m x) : nextAt m s x < m.out.length := by
  have := h.goes s hs x.toNat (by have := hx.1; have := hx.2; omega)
  unfold nextAt; omega
theorem nextAt_eq {m : MachD} (h : Good m) {s : Nat} (hs : s < m.out.length) {x : Int} (hx : letter m x) : at0 (rowAt m.next s) x.toNat = (nextAt m s x : Nat) := by
  have := h.goes s hs x.toNat (by have := hx.1; have := hx.2; omega)
  unfold nextAt; omega
theorem goes_lt {m : MachD} (h : Good m) : ∀ (w : List Int) (s : Nat), s < m.out.length → word m w → goes m s w < m.out.length
  | [], _, hs, _ => hs
  | x :: w, s, hs, hw => goes_lt h w _ (nextAt_lt h hs (hw x (by simp))) (fun y hy => hw y (by simp [hy]))
end Go.Proofs.YtpljcpeofnobbaaDoor
