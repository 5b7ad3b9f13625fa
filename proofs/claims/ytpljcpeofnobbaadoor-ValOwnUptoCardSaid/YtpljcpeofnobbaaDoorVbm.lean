/- The brackets of a value's text: as many as lists, balanced, and no other sign but of numbers. No program in sight. No conditions. -/
import Derived.Test.YtpljcpeofnobbaaDoorVty
namespace Go.Proofs.YtpljcpeofnobbaaDoor
open Go.RowKit
def okB (b : UInt8) : Bool := b == 40 || b == 41 || b == 32 || b == 45 || (decide (48 ≤ b.toNat) && decide (b.toNat ≤ 57))
structure Bal (l : List UInt8) : Prop where
  same : l.count 40 = l.count 41
  pre : ∀ k, (l.take k).count 41 ≤ (l.take k).count 40
  ok : ∀ b ∈ l, okB b = true
theorem bal_plain {l : List UInt8} (h : ∀ b ∈ l, okB b = true ∧ b ≠ 40 ∧ b ≠ 41) : Bal l ∧ l.count 40 = 0 := by
  have c0 : l.count 40 = 0 := List.count_eq_zero.2 fun hm => (h _ hm).2.1 rfl
  have c1 : l.count 41 = 0 := List.count_eq_zero.2 fun hm => (h _ hm).2.2 rfl
  refine ⟨⟨by rw [c0, c1], fun k => ?_, fun b hb => (h b hb).1⟩, c0⟩
  have : (l.take k).count 41 = 0 := List.count_eq_zero.2 fun hm => (h _ (List.mem_of_mem_take hm)).2.2 rfl
  omega
theorem bal_app {a b : List UInt8} (ha : Bal a) (hb : Bal b) : Bal (a ++ b) := by
  refine ⟨?_, fun k => ?_, fun x hx => ?_⟩
  · rw [List.count_append, List.count_append, ha.same, hb.same]
  · rw [List.take_append, List.count_append, List.count_append]
    have h1 := ha.pre k
    have h2 := hb.pre (k - a.length)
    omega
  · rcases List.mem_append.1 hx with hx | hx
    · exact ha.ok x hx
    · exact hb.ok x hx
theorem bal_wrap {a : List UInt8} (ha : Bal a) : Bal ([40] ++ a ++ [41]) ∧ ([40] ++ a ++ [41]).count 40 = a.count 40 + 1 := by
  have e1 : ([40] ++ a ++ [41] : List UInt8).count 40 = a.count 40 + 1 := by
    rw [List.count_append, List.count_append]; simp; omega
  have e2 : ([40] ++ a ++ [41] : List UInt8).count 41 = a.count 41 + 1 := by
    rw [List.count_append, List.count_append]; simp
  refine ⟨⟨by rw [e1, e2, ha.same], fun k => ?_, fun x hx => ?_⟩, e1⟩
  · rw [List.append_assoc, List.take_append, List.take_append, List.count_append, List.count_append, List.count_append, List.count_append]
    cases k with
    | zero => simp
    | succ k =>
      have h1 := ha.pre k
      have e3 : ([40] : List UInt8).take (k + 1) = [40] := by simp
      have e4 : k + 1 - ([40] : List UInt8).length = k := by simp
      rw [e3, e4]
      have h2 : (([41] : List UInt8).take (k - a.length)).count 40 = 0 := List.count_eq_zero.2 fun hm => by
        have := List.mem_of_mem_take hm; simp at this
      rcases Nat.eq_zero_or_pos (k - a.length) with h0 | h0
      · rw [h0]; simp; omega
      · have h3 : (([41] : List UInt8).take (k - a.length)).count 41 ≤ 1 := Nat.le_trans List.count_le_length (by rw [List.length_take]; simp; omega)
        have h4 : ([40] : List UInt8).count 40 = 1 := by decide
        have h5 : ([40] : List UInt8).count 41 = 0 := by decide
        omega
  · simp only [List.mem_append, List.mem_singleton] at hx
    rcases hx with (rfl | hx) | rfl
    · decide
    · exact ha.ok x hx
    · decide
theorem wrap_small (n : Nat) (h : n ≤ 1000000000000) : wrap64 ((n : Int) + 1) = ((n + 1 : Nat) : Int) := by unfold wrap64; omega
theorem bal_step {t : List UInt8} (h : Bal t) {i z : Nat} (hi : i < t.length) (hz : (t[i]).toNat = z) :
    (z = 40 ∧ (t.take (i + 1)).count 40 = (t.take i).count 40 + 1 ∧ (t.take (i + 1)).count 41 = (t.take i).count 41 ∧ (t.take i).count 41 ≤ (t.take i).count 40 + 1) ∨
    (z = 41 ∧ (t.take (i + 1)).count 40 = (t.take i).count 40 ∧ (t.take (i + 1)).count 41 = (t.take i).count 41 + 1 ∧ (t.take i).count 41 + 1 ≤ (t.take i).count 40) ∨
    ((z = 32 ∨ z = 45 ∨ (48 ≤ z ∧ z ≤ 57)) ∧ (t.take (i + 1)).count 40 = (t.take i).count 40 ∧ (t.take (i + 1)).count 41 = (t.take i).count 41 ∧ (t.take i).count 41 ≤ (t.take i).count 40) := by
  have OKB := h.ok _ (List.getElem_mem hi)
  have PRE := h.pre (i + 1)
  have tk : t.take (i + 1) = t.take i ++ [t[i]] := List.take_succ_eq_append_getElem hi
  generalize t[i] = b at *
  have n40 : (t.take (i + 1)).count 40 = (t.take i).count 40 + [b].count 40 := by rw [tk, List.count_append]
  have n41 : (t.take (i + 1)).count 41 = (t.take i).count 41 + [b].count 41 := by rw [tk, List.count_append]
  rw [n40, n41] at PRE ⊢
  unfold okB at OKB
  simp only [Bool.or_eq_true, beq_iff_eq, Bool.and_eq_true, decide_eq_true_eq] at OKB
  have out : ∀ c : UInt8, b ≠ c → [b].count c = 0 := fun c hc => List.count_eq_zero.2 fun hm => hc (by simpa using (List.mem_singleton.1 hm).symm)
  rcases OKB with (((rfl | rfl) | rfl) | rfl) | hd
  · left
    have e1 : ([40] : List UInt8).count 40 = 1 := by decide
    have e2 : ([40] : List UInt8).count 41 = 0 := by decide
    rw [e1, e2] at PRE ⊢
    exact ⟨hz.symm, rfl, rfl, by omega⟩
  · right; left
    have e1 : ([41] : List UInt8).count 40 = 0 := by decide
    have e2 : ([41] : List UInt8).count 41 = 1 := by decide
    rw [e1, e2] at PRE ⊢
    exact ⟨hz.symm, rfl, rfl, by omega⟩
  · right; right
    have e1 : ([32] : List UInt8).count 40 = 0 := by decide
    have e2 : ([32] : List UInt8).count 41 = 0 := by decide
    rw [e1, e2] at PRE ⊢
    exact ⟨.inl hz.symm, rfl, rfl, by omega⟩
  · right; right
    have e1 : ([45] : List UInt8).count 40 = 0 := by decide
    have e2 : ([45] : List UInt8).count 41 = 0 := by decide
    rw [e1, e2] at PRE ⊢
    exact ⟨.inr (.inl hz.symm), rfl, rfl, by omega⟩
  · right; right
    have e1 := out 40 fun e => by subst e; revert hd; decide
    have e2 := out 41 fun e => by subst e; revert hd; decide
    rw [e1, e2] at PRE ⊢
    exact ⟨.inr (.inr (by omega)), rfl, rfl, by omega⟩
mutual
/-- how many lists -/
def Va.lists : Va → Nat
  | .mk l _ s => (if l then 1 else 0) + Vas.lists s
def Vas.lists : List Va → Nat
  | [] => 0
  | y :: r => y.lists + Vas.lists r
end
theorem digit_ok (d : Nat) (h : d < 10) : okB (UInt8.ofNat (48 + d)) = true ∧ UInt8.ofNat (48 + d) ≠ 40 ∧ UInt8.ofNat (48 + d) ≠ 41 := by
  have : ∀ d, d < 10 → okB (UInt8.ofNat (48 + d)) = true ∧ UInt8.ofNat (48 + d) ≠ 40 ∧ UInt8.ofNat (48 + d) ≠ 41 := by decide
  exact this d h
theorem dec_ok : ∀ (u : Nat), ∀ b ∈ Lib.decDigits u, okB b = true ∧ b ≠ 40 ∧ b ≠ 41 := by
  intro u
  induction u using Nat.strongRecOn with
  | ind u ih =>
    intro b hb
    rw [Lib.decDigits] at hb
    split at hb
    · rename_i h
      rw [List.mem_singleton] at hb
      subst hb
      exact digit_ok u h
    · rcases List.mem_append.1 hb with hb | hb
      · exact ih (u / 10) (by omega) b hb
      · rw [List.mem_singleton] at hb
        subst hb
        exact digit_ok (u % 10) (by omega)
theorem itoa_ok (n : Int) : ∀ b ∈ Lib.itoa n, okB b = true ∧ b ≠ 40 ∧ b ≠ 41 := by
  intro b hb
  unfold Lib.itoa at hb
  split at hb
  · rcases List.mem_cons.1 hb with rfl | hb
    · decide
    · exact dec_ok _ b hb
  · exact dec_ok _ b hb
theorem bal_tail : ∀ (s : List Va), (∀ y ∈ s, Bal y.text ∧ y.text.count 40 = y.lists) → Bal (Lib.joinTail [32] (Vas.texts s)) ∧ (Lib.joinTail [32] (Vas.texts s)).count 40 = Vas.lists s
  | [], _ => by
    have e : Lib.joinTail [32] (Vas.texts []) = [] := by simp [Vas.texts, Lib.joinTail]
    rw [e]
    exact ⟨(bal_plain (l := []) fun b hb => by cases hb).1, by simp [Vas.lists]⟩
  | y :: r, h => by
    obtain ⟨h1, h2⟩ := bal_tail r fun z hz => h z (by simp [hz])
    obtain ⟨h3, h4⟩ := h y (by simp)
    have e : Lib.joinTail [32] (Vas.texts (y :: r)) = [32] ++ y.text ++ Lib.joinTail [32] (Vas.texts r) := by simp [Vas.texts, Lib.joinTail]
    have hb : Bal [32] := (bal_plain (l := [32]) fun b hb => by rw [List.mem_singleton] at hb; subst hb; decide).1
    rw [e, Vas.lists]
    refine ⟨bal_app (bal_app hb h3) h1, ?_⟩
    rw [List.count_append, List.count_append, h2, h4]
    have : ([32] : List UInt8).count 40 = 0 := by decide
    omega
theorem bal_join (s : List Va) (h : ∀ y ∈ s, Bal y.text ∧ y.text.count 40 = y.lists) : Bal (Lib.join (Vas.texts s) [32]) ∧ (Lib.join (Vas.texts s) [32]).count 40 = Vas.lists s := by
  cases s with
  | nil => exact bal_tail [] (fun _ h => by cases h)
  | cons y r =>
    rw [Vas.texts, Lib.join_cons, Vas.lists]
    obtain ⟨h1, h2⟩ := bal_tail r fun z hz => h z (by simp [hz])
    obtain ⟨h3, h4⟩ := h y (by simp)
    exact ⟨bal_app h3 h1, by rw [List.count_append, h2, h4]⟩
theorem verr_parts {s : List Va} {d : Nat} (h : Vas.err s d = 0) : ∀ y ∈ s, y.err d = 0 := by
  induction s with
  | nil => intro y hy; cases hy
  | cons x r ih =>
    rw [Vas.err] at h
    by_cases hx : x.err d = 0
    · rw [if_neg (by simp [hx])] at h
      intro y hy
      rcases List.mem_cons.1 hy with rfl | hy
      · exact hx
      · exact ih h y hy
    · rw [if_pos hx] at h; exact absurd h hx
/-- a right value's text: as many brackets as lists -/
theorem text_bal : ∀ v : Va, ∀ d, v.err d = 0 → Bal v.text ∧ v.text.count 40 = v.lists := by
  refine Va.ind fun l n s ih d he => ?_
  rw [Va.err] at he
  split at he
  · cases he
  · rename_i hb
    split at he
    · cases he
    · have hp := verr_parts he
      rw [Va.text, Va.lists]
      cases l with
      | false =>
        have hs : s.length = 0 := by simp [badV] at hb; simpa using hb
        have hs' : s = [] := List.length_eq_zero_iff.1 hs
        subst hs'
        have := bal_plain (itoa_ok n)
        exact ⟨this.1, by simpa [Vas.lists] using this.2⟩
      | true =>
        obtain ⟨h1, h2⟩ := bal_join s fun y hy => ih y hy (d + 1) (hp y hy)
        obtain ⟨h3, h4⟩ := bal_wrap h1
        refine ⟨by simpa using h3, ?_⟩
        rw [if_pos rfl, h4, h2, if_pos rfl]
        omega
mutual
theorem lists_le : ∀ v : Va, v.lists ≤ v.size
  | .mk l n s => by
    have := lists_leS s
    rw [Va.lists, Va.size]
    split <;> omega
theorem lists_leS : ∀ s : List Va, Vas.lists s ≤ Vas.size s
  | [] => by simp [Vas.lists]
  | y :: r => by
    have h1 := lists_le y
    have h2 := lists_leS r
    rw [Vas.lists, Vas.size]; omega
end
def listsTo (s : List Va) (i : Nat) : Nat := Vas.lists (s.take i)
theorem lists_app : ∀ (a : List Va) (y : Va), Vas.lists (a ++ [y]) = Vas.lists a + y.lists
  | [], y => by simp [Vas.lists]
  | x :: r, y => by rw [List.cons_append, Vas.lists, Vas.lists, lists_app r y]; omega
theorem listsTo_succ (s : List Va) (i : Nat) (h : i < s.length) : listsTo s (i + 1) = listsTo s i + s[i].lists := by
  unfold listsTo
  rw [List.take_succ_eq_append_getElem h, lists_app]
theorem listsTo_le (s : List Va) (i : Nat) : listsTo s i ≤ Vas.size s := by
  have h1 := lists_leS (s.take i)
  have h2 : Vas.size (s.take i) ≤ Vas.size s := by
    have : ∀ (s : List Va) (i : Nat), Vas.size (s.take i) ≤ Vas.size s := by
      intro s
      induction s with
      | nil => intro i; simp
      | cons y r ih =>
        intro i
        cases i with
        | zero => simp [Vas.size]
        | succ i => rw [List.take_succ_cons, Vas.size, Vas.size]; have := ih i; omega
    exact this s i
  unfold listsTo; omega
end Go.Proofs.YtpljcpeofnobbaaDoor
