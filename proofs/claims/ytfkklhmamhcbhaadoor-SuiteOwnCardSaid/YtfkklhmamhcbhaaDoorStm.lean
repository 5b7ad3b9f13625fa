/- The fewest tests as mathematics: what the search with bounds computes is a cover, and no cover is shorter. No program in sight. No conditions. -/
import Derived.Test.YtfkklhmamhcbhaaDoorStc
namespace Go.Proofs.YtfkklhmamhcbhaaDoor
/-- o without what t passes -/
def minusN (o t : Nat) : Nat := o &&& (4294967295 - t)
theorem minusN_bit {o t : Nat} (ho : o < 4294967296) (ht : t < 4294967296) (i : Nat) : (minusN o t).testBit i = (o.testBit i && !t.testBit i) := by
  unfold minusN
  rw [Nat.testBit_and, show 4294967295 - t = 2 ^ 32 - (t + 1) by omega, Nat.testBit_two_pow_sub_succ (by omega)]
  by_cases hi : i < 32
  · simp [hi]
  · have : o.testBit i = false := Nat.testBit_lt_two_pow (Nat.lt_of_lt_of_le ho (show 2 ^ 32 ≤ 2 ^ i from Nat.pow_le_pow_right (by omega) (by omega)))
    simp [this]
theorem minusN_lt {o t : Nat} (ho : o < 4294967296) : minusN o t < 4294967296 := by
  unfold minusN
  exact Nat.lt_of_le_of_lt Nat.and_le_left ho
def updF (t : List Nat) : Option (List Nat) → Option (List Nat)
  | none => some t
  | some l => if t.length < l.length then some t else some l
def roomF (t : List Nat) : Option (List Nat) → Bool
  | none => true
  | some l => decide (t.length + 1 < l.length)
/-- the search's loop: f more tests to try, from number i on -/
def loopF (ts : List Nat) : Nat → Nat → Nat → List Nat → Option (List Nat) → Option (List Nat)
  | 0, _, _, _, b => b
  | f + 1, i, o, t, b => loopF ts f (i + 1) o t
      (if minusN o (ts.getD i 0) = 0 then updF (t ++ [i]) b else if roomF (t ++ [i]) b then loopF ts f (i + 1) (minusN o (ts.getD i 0)) (t ++ [i]) b else b)
def lookF (ts : List Nat) (f i o : Nat) (t : List Nat) (b : Option (List Nat)) : Option (List Nat) :=
  if o = 0 then updF t b else if roomF t b then loopF ts f i o t b else b
theorem loopF_succ (ts : List Nat) (f i o : Nat) (t : List Nat) (b : Option (List Nat)) : loopF ts (f + 1) i o t b = loopF ts f (i + 1) o t (lookF ts f (i + 1) (minusN o (ts.getD i 0)) (t ++ [i]) b) := rfl
/-- at least as short -/
def LeO (b b' : Option (List Nat)) : Prop := ∀ l, b = some l → ∃ l', b' = some l' ∧ l'.length ≤ l.length
theorem LeO.refl (b : Option (List Nat)) : LeO b b := fun l h => ⟨l, h, Nat.le_refl _⟩
theorem LeO.trans {a b c : Option (List Nat)} (h : LeO a b) (k : LeO b c) : LeO a c := fun l hl => by
  obtain ⟨l1, h1, h2⟩ := h l hl
  obtain ⟨l2, h3, h4⟩ := k l1 h1
  exact ⟨l2, h3, by omega⟩
theorem upd_le (t : List Nat) (b : Option (List Nat)) : LeO b (updF t b) := by
  rintro l rfl
  unfold updF
  simp only []
  split
  · exact ⟨t, rfl, by omega⟩
  · exact ⟨l, rfl, Nat.le_refl _⟩
theorem loop_le (ts : List Nat) : ∀ (f i o : Nat) (t : List Nat) (b : Option (List Nat)), LeO b (loopF ts f i o t b)
  | 0, _, _, _, b => LeO.refl b
  | f + 1, i, o, t, b => by
    rw [loopF_succ]
    refine LeO.trans ?_ (loop_le ts f (i + 1) o t _)
    unfold lookF
    split
    · exact upd_le _ _
    · split
      · exact loop_le ts f _ _ _ _
      · exact LeO.refl b
/-- from number i on, in order: all that is open is passed -/
def Cov (ts : List Nat) (i o : Nat) (c : List Nat) : Prop := Asc c ∧ (∀ x ∈ c, i ≤ x ∧ x < ts.length) ∧ ∀ k, o.testBit k = true → ∃ x ∈ c, (ts.getD x 0).testBit k = true
theorem bit_of_pos {o : Nat} (h : o ≠ 0) : ∃ k, o.testBit k = true := by
  have := (meet_iff (a := o) (b := o)).1 (by rw [Nat.and_self]; exact h)
  obtain ⟨k, h1, _⟩ := this
  exact ⟨k, h1⟩
theorem cov_tail {ts : List Nat} {i o : Nat} {c : List Nat} (ho : o < 4294967296) (hts : ∀ s ∈ ts, s < 4294967296) (hi : i < ts.length) (h : Cov ts i o (i :: c)) : Cov ts (i + 1) (minusN o (ts.getD i 0)) c := by
  obtain ⟨h1, h2, h3⟩ := h
  unfold Asc at h1
  rw [List.pairwise_cons] at h1
  refine ⟨h1.2, fun x hx => ⟨h1.1 x hx, (h2 x (by simp [hx])).2⟩, fun k hk => ?_⟩
  rw [minusN_bit ho (hts _ (getD_mem hi)), Bool.and_eq_true] at hk
  obtain ⟨x, hx, hb⟩ := h3 k hk.1
  rcases List.mem_cons.1 hx with rfl | hx
  · rw [hb] at hk; simp at hk
  · exact ⟨x, hx, hb⟩
theorem cov_cons {ts : List Nat} {i o : Nat} {c : List Nat} (ho : o < 4294967296) (hts : ∀ s ∈ ts, s < 4294967296) (hi : i < ts.length) (h : Cov ts (i + 1) (minusN o (ts.getD i 0)) c) : Cov ts i o (i :: c) := by
  obtain ⟨h1, h2, h3⟩ := h
  refine ⟨?_, fun x hx => ?_, fun k hk => ?_⟩
  · unfold Asc at h1 ⊢
    rw [List.pairwise_cons]
    exact ⟨fun x hx => (h2 x hx).1, h1⟩
  · rcases List.mem_cons.1 hx with rfl | hx
    · exact ⟨Nat.le_refl _, hi⟩
    · have := h2 x hx; omega
  · by_cases e : (ts.getD i 0).testBit k = true
    · exact ⟨i, by simp, e⟩
    · obtain ⟨x, hx, hb⟩ := h3 k (by rw [minusN_bit ho (hts _ (getD_mem hi)), hk]; simpa using e)
      exact ⟨x, by simp [hx], hb⟩
theorem cov_later {ts : List Nat} {i o : Nat} {c : List Nat} (h : Cov ts (i + 1) o c) : Cov ts i o c := ⟨h.1, fun x hx => by have := h.2.1 x hx; omega, h.2.2⟩
theorem upd_at (t : List Nat) (b : Option (List Nat)) : ∃ l, updF t b = some l ∧ l.length ≤ t.length := by
  cases b with
  | none => exact ⟨t, rfl, Nat.le_refl _⟩
  | some l =>
    unfold updF
    simp only []
    split
    · exact ⟨t, rfl, Nat.le_refl _⟩
    · exact ⟨l, rfl, by omega⟩
theorem look_at (ts : List Nat) (hts : ∀ s ∈ ts, s < 4294967296) : ∀ f : Nat,
    (∀ (i o : Nat) (t : List Nat) (b : Option (List Nat)) (c : List Nat), f + i = ts.length → o < 4294967296 → o ≠ 0 → Cov ts i o c → ∃ l, loopF ts f i o t b = some l ∧ l.length ≤ t.length + c.length) ∧
    (∀ (i o : Nat) (t : List Nat) (b : Option (List Nat)) (c : List Nat), f + i = ts.length → o < 4294967296 → Cov ts i o c → ∃ l, lookF ts f i o t b = some l ∧ l.length ≤ t.length + c.length) := by
  intro f
  induction f with
  | zero =>
    have loop : ∀ (i o : Nat) (t : List Nat) (b : Option (List Nat)) (c : List Nat), 0 + i = ts.length → o < 4294967296 → o ≠ 0 → Cov ts i o c → ∃ l, loopF ts 0 i o t b = some l ∧ l.length ≤ t.length + c.length := by
      intro i o t b c hf _ h0 hc
      obtain ⟨k, hk⟩ := bit_of_pos h0
      obtain ⟨x, hx, _⟩ := hc.2.2 k hk
      have := hc.2.1 x hx
      omega
    refine ⟨loop, fun i o t b c hf ho hc => ?_⟩
    unfold lookF
    by_cases h0 : o = 0
    · rw [if_pos h0]
      obtain ⟨l, h1, h2⟩ := upd_at t b
      exact ⟨l, h1, by omega⟩
    · obtain ⟨l, h1, _⟩ := loop i o t b c hf ho h0 hc
      exfalso
      obtain ⟨k, hk⟩ := bit_of_pos h0
      obtain ⟨x, hx, _⟩ := hc.2.2 k hk
      have := hc.2.1 x hx
      omega
  | succ f ih =>
    have loop : ∀ (i o : Nat) (t : List Nat) (b : Option (List Nat)) (c : List Nat), f + 1 + i = ts.length → o < 4294967296 → o ≠ 0 → Cov ts i o c → ∃ l, loopF ts (f + 1) i o t b = some l ∧ l.length ≤ t.length + c.length := by
      intro i o t b c hf ho h0 hc
      rw [loopF_succ]
      obtain ⟨k, hk⟩ := bit_of_pos h0
      obtain ⟨x, hx, _⟩ := hc.2.2 k hk
      cases c with
      | nil => cases hx
      | cons y c =>
        have hy := hc.2.1 y (by simp)
        by_cases e : y = i
        · subst e
          have hc' := cov_tail ho hts hy.2 hc
          obtain ⟨l, h1, h2⟩ := ih.2 (y + 1) _ (t ++ [y]) b c (by omega) (minusN_lt ho) hc'
          obtain ⟨l', h3, h4⟩ := loop_le ts f (y + 1) o t _ l h1
          refine ⟨l', h3, ?_⟩
          rw [List.length_append] at h2
          simp only [List.length_cons, List.length_nil] at h2 ⊢
          omega
        · refine ih.1 (i + 1) o t _ (y :: c) (by omega) ho h0 ⟨hc.1, fun z hz => ⟨?_, (hc.2.1 z hz).2⟩, hc.2.2⟩
          have ha := hc.1
          unfold Asc at ha
          rw [List.pairwise_cons] at ha
          rcases List.mem_cons.1 hz with rfl | hz
          · omega
          · have := ha.1 z hz; omega
    refine ⟨loop, fun i o t b c hf ho hc => ?_⟩
    unfold lookF
    by_cases h0 : o = 0
    · rw [if_pos h0]
      obtain ⟨l, h1, h2⟩ := upd_at t b
      exact ⟨l, h1, by omega⟩
    · rw [if_neg h0]
      by_cases hr : roomF t b = true
      · rw [if_pos hr]
        exact loop i o t b c hf ho h0 hc
      · rw [if_neg hr]
        cases b with
        | none => exact absurd rfl hr
        | some l =>
          unfold roomF at hr
          simp at hr
          obtain ⟨k, hk⟩ := bit_of_pos h0
          obtain ⟨x, hx, _⟩ := hc.2.2 k hk
          have : 0 < c.length := List.length_pos_of_mem hx
          exact ⟨l, rfl, by omega⟩
theorem look_from (ts : List Nat) (hts : ∀ s ∈ ts, s < 4294967296) : ∀ f : Nat,
    (∀ (i o : Nat) (t : List Nat) (b : Option (List Nat)) (l : List Nat), f + i = ts.length → o < 4294967296 → loopF ts f i o t b = some l → b = some l ∨ ∃ c, l = t ++ c ∧ Cov ts i o c) ∧
    (∀ (i o : Nat) (t : List Nat) (b : Option (List Nat)) (l : List Nat), f + i = ts.length → o < 4294967296 → lookF ts f i o t b = some l → b = some l ∨ ∃ c, l = t ++ c ∧ Cov ts i o c) := by
  intro f
  have look : (∀ (i o : Nat) (t : List Nat) (b : Option (List Nat)) (l : List Nat), f + i = ts.length → o < 4294967296 → loopF ts f i o t b = some l → b = some l ∨ ∃ c, l = t ++ c ∧ Cov ts i o c) →
      ∀ (i o : Nat) (t : List Nat) (b : Option (List Nat)) (l : List Nat), f + i = ts.length → o < 4294967296 → lookF ts f i o t b = some l → b = some l ∨ ∃ c, l = t ++ c ∧ Cov ts i o c := by
    intro loop i o t b l hf ho h
    unfold lookF at h
    by_cases h0 : o = 0
    · rw [if_pos h0] at h
      have hnil : ∃ c, t = t ++ c ∧ Cov ts i o c := ⟨[], by simp, by unfold Asc; simp, by simp, fun k hk => by rw [h0, Nat.zero_testBit] at hk; cases hk⟩
      cases b with
      | none =>
        injection h with h
        subst h
        exact .inr hnil
      | some l0 =>
        unfold updF at h
        simp only [] at h
        split at h
        · injection h with h
          subst h
          exact .inr hnil
        · exact .inl h
    · rw [if_neg h0] at h
      by_cases hr : roomF t b = true
      · rw [if_pos hr] at h
        exact loop i o t b l hf ho h
      · rw [if_neg hr] at h
        exact .inl h
  induction f with
  | zero =>
    have loop : ∀ (i o : Nat) (t : List Nat) (b : Option (List Nat)) (l : List Nat), 0 + i = ts.length → o < 4294967296 → loopF ts 0 i o t b = some l → b = some l ∨ ∃ c, l = t ++ c ∧ Cov ts i o c := fun i o t b l _ _ h => .inl h
    exact ⟨loop, look loop⟩
  | succ f ih =>
    have loop : ∀ (i o : Nat) (t : List Nat) (b : Option (List Nat)) (l : List Nat), f + 1 + i = ts.length → o < 4294967296 → loopF ts (f + 1) i o t b = some l → b = some l ∨ ∃ c, l = t ++ c ∧ Cov ts i o c := by
      intro i o t b l hf ho h
      rw [loopF_succ] at h
      obtain ⟨ihl, ihk⟩ := ih (by
        intro loop i o t b l hf ho h
        unfold lookF at h
        by_cases h0 : o = 0
        · rw [if_pos h0] at h
          have hnil : ∃ c, t = t ++ c ∧ Cov ts i o c := ⟨[], by simp, by unfold Asc; simp, by simp, fun k hk => by rw [h0, Nat.zero_testBit] at hk; cases hk⟩
          cases b with
          | none =>
            injection h with h
            subst h
            exact .inr hnil
          | some l0 =>
            unfold updF at h
            simp only [] at h
            split at h
            · injection h with h
              subst h
              exact .inr hnil
            · exact .inl h
        · rw [if_neg h0] at h
          by_cases hr : roomF t b = true
          · rw [if_pos hr] at h
            exact loop i o t b l hf ho h
          · rw [if_neg hr] at h
            exact .inl h)
      rcases ihl (i + 1) o t _ l (by omega) ho h with h1 | ⟨c, h1, h2⟩
      · rcases ihk (i + 1) _ (t ++ [i]) b l (by omega) (minusN_lt ho) h1 with h3 | ⟨c, h3, h4⟩
        · exact .inl h3
        · exact .inr ⟨i :: c, by rw [h3]; simp, cov_cons ho hts (by omega) h4⟩
      · exact .inr ⟨c, h1, cov_later h2⟩
    exact ⟨loop, look loop⟩
/-- the fewest tests -/
def leastT (ts : List Nat) : Option (List Nat) := lookF ts ts.length 0 (unionN ts) [] none
theorem cov_all {ts : List Nat} : Cov ts 0 (unionN ts) (List.range ts.length) := by
  refine ⟨List.pairwise_lt_range, fun x hx => ⟨Nat.zero_le _, List.mem_range.1 hx⟩, fun k hk => ?_⟩
  obtain ⟨s, hs, hb⟩ := unionN_bit.1 hk
  obtain ⟨x, hx, rfl⟩ := List.getElem_of_mem hs
  exact ⟨x, List.mem_range.2 hx, by rw [List.getD_eq_getElem?_getD, List.getElem?_eq_getElem hx]; exact hb⟩
theorem leastT_ok {ts : List Nat} (hts : ∀ s ∈ ts, s < 4294967296) : ∃ l, leastT ts = some l ∧ Cov ts 0 (unionN ts) l ∧ ∀ c, Cov ts 0 (unionN ts) c → l.length ≤ c.length := by
  have hu := unionN_lt hts
  obtain ⟨l, h1, _⟩ := (look_at ts hts ts.length).2 0 (unionN ts) [] none _ rfl hu cov_all
  refine ⟨l, h1, ?_, fun c hc => ?_⟩
  · rcases (look_from ts hts ts.length).2 0 (unionN ts) [] none l rfl hu h1 with h | ⟨c, h2, h3⟩
    · cases h
    · rw [h2]; simpa using h3
  · obtain ⟨l', h2, h3⟩ := (look_at ts hts ts.length).2 0 (unionN ts) [] none c rfl hu hc
    have : l' = l := by
      have := h1.symm.trans h2
      injection this with this
      exact this.symm
    subst this
    simpa using h3
end Go.Proofs.YtfkklhmamhcbhaaDoor
