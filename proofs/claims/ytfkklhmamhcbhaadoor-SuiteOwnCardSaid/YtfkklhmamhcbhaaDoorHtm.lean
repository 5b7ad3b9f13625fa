/- Least hitting sets as mathematics: sets are numbers, bit by bit. No conditions. -/
import Derived.Test.YtfkklhmamhcbhaaDoorRows
namespace Go.Proofs.YtfkklhmamhcbhaaDoor
/-- t lies within s -/
def sub (t s : Nat) : Prop := t &&& s = t
theorem sub_iff {t s : Nat} : sub t s ↔ ∀ i, t.testBit i = true → s.testBit i = true := by
  constructor
  · intro h i hi
    have := congrArg (fun n => n.testBit i) h
    simp only [Nat.testBit_and, hi, Bool.true_and] at this
    exact this
  · intro h
    apply Nat.eq_of_testBit_eq
    intro i
    rw [Nat.testBit_and]
    cases hi : t.testBit i
    · simp
    · simp [h i hi]
theorem sub_refl (t : Nat) : sub t t := Nat.and_self t
theorem sub_trans {a b c : Nat} (h : sub a b) (k : sub b c) : sub a c := sub_iff.2 fun i hi => sub_iff.1 k i (sub_iff.1 h i hi)
theorem sub_le {a b : Nat} (h : sub a b) : a ≤ b := by
  have := Nat.and_le_right (n := a) (m := b)
  unfold sub at h
  omega
theorem sub_anti {a b : Nat} (h : sub a b) (k : sub b a) : a = b := Nat.le_antisymm (sub_le h) (sub_le k)
/-- they have something in common -/
theorem meet_iff {a b : Nat} : a &&& b ≠ 0 ↔ ∃ i, a.testBit i = true ∧ b.testBit i = true := by
  constructor
  · intro h
    apply Classical.byContradiction
    intro hn
    apply h
    apply Nat.eq_of_testBit_eq
    intro i
    rw [Nat.testBit_and, Nat.zero_testBit]
    cases h1 : a.testBit i
    · simp
    · cases h2 : b.testBit i
      · simp
      · exact absurd ⟨i, h1, h2⟩ hn
  · rintro ⟨i, h1, h2⟩ h
    have := congrArg (fun n => n.testBit i) h
    simp [Nat.testBit_and, h1, h2] at this
theorem meet_mono {a b s : Nat} (h : sub a b) (k : a &&& s ≠ 0) : b &&& s ≠ 0 := by
  obtain ⟨i, h1, h2⟩ := meet_iff.1 k
  exact meet_iff.2 ⟨i, sub_iff.1 h i h1, h2⟩
def Hit (l : List Nat) (h : Nat) : Prop := ∀ s ∈ l, h &&& s ≠ 0
theorem Hit.mono {l : List Nat} {a b : Nat} (h : sub a b) (k : Hit l a) : Hit l b := fun s hs => meet_mono h (k s hs)
/-- it hits each, and nothing within it does -/
def MinHit (l : List Nat) (h : Nat) : Prop := Hit l h ∧ ∀ g, sub g h → Hit l g → g = h
theorem min_below {l : List Nat} : ∀ (h : Nat), Hit l h → ∃ g, sub g h ∧ MinHit l g := by
  intro h
  induction h using Nat.strongRecOn with
  | _ h ih =>
    intro hh
    by_cases hm : ∃ g, sub g h ∧ Hit l g ∧ g ≠ h
    · obtain ⟨g, h1, h2, h3⟩ := hm
      have := sub_le h1
      obtain ⟨k, k1, k2⟩ := ih g (by omega) h2
      exact ⟨k, sub_trans k1 h1, k2⟩
    · exact ⟨h, sub_refl h, hh, fun g h1 h2 => Classical.byContradiction fun h3 => hm ⟨g, h1, h2, h3⟩⟩
theorem min_nil {x : Nat} : MinHit [] x ↔ x = 0 := by
  constructor
  · intro h
    exact (h.2 0 (by unfold sub; simp) (fun s hs => (by cases hs))).symm
  · rintro rfl
    refine ⟨fun s hs => (by cases hs), fun g h1 _ => ?_⟩
    have := sub_le h1; omega
/-- what one more set makes of those that were -/
def Nxt (out : List Nat) (s x : Nat) : Prop := (x ∈ out ∧ x &&& s ≠ 0) ∨ ∃ h ∈ out, h &&& s = 0 ∧ ∃ i, s.testBit i = true ∧ x = h ||| 2 ^ i
theorem sub_or_left (a b : Nat) : sub a (a ||| b) := sub_iff.2 fun i hi => by rw [Nat.testBit_or, hi]; rfl
theorem or_sub {a b c : Nat} (h : sub a c) (k : sub b c) : sub (a ||| b) c := sub_iff.2 fun i hi => by
  rw [Nat.testBit_or, Bool.or_eq_true] at hi
  exact hi.elim (sub_iff.1 h i) (sub_iff.1 k i)
theorem bit_sub {c i : Nat} (h : c.testBit i = true) : sub (2 ^ i) c := sub_iff.2 fun j hj => by
  rw [Nat.testBit_two_pow] at hj
  rw [← (by simpa using hj : i = j)]; exact h
theorem hit_snoc {l : List Nat} {s x : Nat} : Hit (l ++ [s]) x ↔ Hit l x ∧ x &&& s ≠ 0 := by
  unfold Hit
  constructor
  · exact fun h => ⟨fun y hy => h y (List.mem_append_left _ hy), h s (by simp)⟩
  · rintro ⟨h1, h2⟩ y hy
    rcases List.mem_append.1 hy with hy | hy
    · exact h1 y hy
    · rw [List.mem_singleton.1 hy]; exact h2
theorem nxt_hit {l out : List Nat} {s x : Nat} (ho : ∀ x, x ∈ out ↔ MinHit l x) (h : Nxt out s x) : Hit (l ++ [s]) x := by
  rcases h with ⟨h1, h2⟩ | ⟨h, h1, h2, i, h3, rfl⟩
  · exact hit_snoc.2 ⟨((ho x).1 h1).1, h2⟩
  · refine hit_snoc.2 ⟨((ho h).1 h1).1.mono (sub_or_left _ _), meet_iff.2 ⟨i, ?_, h3⟩⟩
    rw [Nat.testBit_or, Nat.testBit_two_pow]; simp
/-- below each that hits lies one that the step makes -/
theorem nxt_below {l out : List Nat} {s x : Nat} (ho : ∀ x, x ∈ out ↔ MinHit l x) (h : Hit (l ++ [s]) x) : ∃ y, Nxt out s y ∧ sub y x := by
  obtain ⟨h1, h2⟩ := hit_snoc.1 h
  obtain ⟨g, g1, g2⟩ := min_below x h1
  by_cases hg : g &&& s = 0
  · obtain ⟨i, i1, i2⟩ := meet_iff.1 h2
    exact ⟨g ||| 2 ^ i, .inr ⟨g, (ho g).2 g2, hg, i, i2, rfl⟩, or_sub g1 (bit_sub i1)⟩
  · exact ⟨g, .inl ⟨(ho g).2 g2, hg⟩, g1⟩
theorem step_min {l out : List Nat} {s : Nat} (ho : ∀ x, x ∈ out ↔ MinHit l x) (x : Nat) : MinHit (l ++ [s]) x ↔ Nxt out s x ∧ ∀ y, Nxt out s y → sub y x → y = x := by
  constructor
  · rintro ⟨h1, h2⟩
    obtain ⟨y, y1, y2⟩ := nxt_below ho h1
    have := h2 y y2 (nxt_hit ho y1)
    subst this
    exact ⟨y1, fun z z1 z2 => h2 z z2 (nxt_hit ho z1)⟩
  · rintro ⟨h1, h2⟩
    refine ⟨nxt_hit ho h1, fun g g1 g2 => ?_⟩
    obtain ⟨y, y1, y2⟩ := nxt_below ho g2
    have := h2 y y1 (sub_trans y2 g1)
    subst this
    exact sub_anti g1 y2
theorem more_within {l m : List Nat} {b : Nat} (h : MinHit (l ++ m) b) : ∃ a, MinHit l a ∧ sub a b := by
  obtain ⟨a, a1, a2⟩ := min_below (l := l) b fun s hs => h.1 s (List.mem_append_left _ hs)
  exact ⟨a, a2, a1⟩
theorem more_same {l m : List Nat} (hm : ∀ y ∈ m, ∃ k ∈ l, sub k y) (x : Nat) : MinHit (l ++ m) x ↔ MinHit l x := by
  have he : ∀ g, Hit (l ++ m) g ↔ Hit l g := fun g => by
    constructor
    · exact fun h s hs => h s (List.mem_append_left _ hs)
    · intro h s hs
      rcases List.mem_append.1 hs with hs | hs
      · exact h s hs
      · obtain ⟨k, k1, k2⟩ := hm s hs
        obtain ⟨i, i1, i2⟩ := meet_iff.1 (h k k1)
        exact meet_iff.2 ⟨i, i1, sub_iff.1 k2 i i2⟩
  unfold MinHit
  rw [he]
  exact and_congr_right fun _ => forall_congr' fun g => imp_congr_right fun _ => by rw [he]
/-- within so many bits -/
theorem min_small {l : List Nat} {n : Nat} (hl : ∀ s ∈ l, s < 2 ^ n) {x : Nat} (h : MinHit l x) : x < 2 ^ n := by
  have hs : sub (x % 2 ^ n) x := sub_iff.2 fun i hi => by
    rw [Nat.testBit_mod_two_pow, Bool.and_eq_true] at hi
    exact hi.2
  have hh : Hit l (x % 2 ^ n) := fun s hs2 => by
    obtain ⟨i, i1, i2⟩ := meet_iff.1 (h.1 s hs2)
    refine meet_iff.2 ⟨i, ?_, i2⟩
    rw [Nat.testBit_mod_two_pow, i1, Bool.and_true, decide_eq_true_iff]
    apply Classical.byContradiction
    intro hn
    have : s < 2 ^ i := Nat.lt_of_lt_of_le (hl s hs2) (Nat.pow_le_pow_right (by omega) (by omega))
    rw [Nat.testBit_lt_two_pow this] at i2
    cases i2
  have := h.2 _ hs hh
  rw [← this]
  exact Nat.mod_lt _ (Nat.two_pow_pos n)
/-- in order, each once -/
def Asc (l : List Nat) : Prop := l.Pairwise (· < ·)
theorem asc_ext : ∀ {a b : List Nat}, Asc a → Asc b → (∀ x, x ∈ a ↔ x ∈ b) → a = b
  | [], [], _, _, _ => rfl
  | [], y :: b, _, _, h => absurd ((h y).2 (by simp)) (by simp)
  | x :: a, [], _, _, h => absurd ((h x).1 (by simp)) (by simp)
  | x :: a, y :: b, ha, hb, h => by
    unfold Asc at ha hb
    rw [List.pairwise_cons] at ha hb
    have e : x = y := by
      rcases List.mem_cons.1 ((h x).1 (by simp)) with e | e
      · exact e
      · rcases List.mem_cons.1 ((h y).2 (by simp)) with e2 | e2
        · exact e2.symm
        · have h1 := hb.1 x e
          have h2 := ha.1 y e2
          omega
    subst e
    have : a = b := asc_ext ha.2 hb.2 fun z => by
      have hz := h z
      simp only [List.mem_cons] at hz
      constructor
      · intro k
        have h1 := ha.1 z k
        rcases hz.1 (.inr k) with e | e
        · omega
        · exact e
      · intro k
        have h1 := hb.1 z k
        rcases hz.2 (.inr k) with e | e
        · omega
        · exact e
    rw [this]
end Go.Proofs.YtfkklhmamhcbhaaDoor
