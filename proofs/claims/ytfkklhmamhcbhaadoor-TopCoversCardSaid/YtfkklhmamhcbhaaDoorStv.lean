/- The fewest tests are the smallest hits of the lines' sets: mathematics. No program in sight. No conditions but the sizes. -/
import Derived.Test.YtfkklhmamhcbhaaDoorStm
namespace Go.Proofs.YtfkklhmamhcbhaaDoor
/-- which of the first j tests pass line k, as bits -/
def lineN (ts : List Nat) (k : Nat) : Nat → Nat
  | 0 => 0
  | j + 1 => if (ts.getD j 0).testBit k then lineN ts k j ||| 2 ^ j else lineN ts k j
theorem lineN_bit (ts : List Nat) (k : Nat) : ∀ (j i : Nat), (lineN ts k j).testBit i = true ↔ i < j ∧ (ts.getD i 0).testBit k = true
  | 0, i => by simp [lineN]
  | j + 1, i => by
    have ih := lineN_bit ts k j i
    rw [lineN]
    by_cases e : (ts.getD j 0).testBit k = true
    · rw [if_pos e, Nat.testBit_or, Bool.or_eq_true, ih, Nat.testBit_two_pow]
      constructor
      · rintro (⟨h1, h2⟩ | h)
        · exact ⟨by omega, h2⟩
        · have : j = i := by simpa using h
          subst this; exact ⟨by omega, e⟩
      · rintro ⟨h1, h2⟩
        by_cases hj : i = j
        · exact .inr (by simp [hj])
        · exact .inl ⟨by omega, h2⟩
    · rw [if_neg e, ih]
      constructor
      · rintro ⟨h1, h2⟩; exact ⟨by omega, h2⟩
      · rintro ⟨h1, h2⟩
        by_cases hj : i = j
        · subst hj; exact absurd h2 e
        · exact ⟨by omega, h2⟩
theorem lineN_lt (ts : List Nat) (k : Nat) : ∀ j, lineN ts k j < 2 ^ j
  | 0 => by simp [lineN]
  | j + 1 => by
    have ih := lineN_lt ts k j
    have h1 : (2 : Nat) ^ j < 2 ^ (j + 1) := Nat.pow_lt_pow_right (by omega) (by omega)
    rw [lineN]
    split
    · exact Nat.or_lt_two_pow (by omega) h1
    · omega
/-- the lines' sets, but for the empty ones, of the first j lines -/
def setsN (ts : List Nat) : Nat → List Nat
  | 0 => []
  | j + 1 => if lineN ts j ts.length = 0 then setsN ts j else setsN ts j ++ [lineN ts j ts.length]
theorem setsN_mem {ts : List Nat} {s : Nat} : ∀ {n : Nat}, s ∈ setsN ts n ↔ s ≠ 0 ∧ ∃ k, k < n ∧ s = lineN ts k ts.length
  | 0 => by simp [setsN]
  | n + 1 => by
    have ih := @setsN_mem ts s n
    rw [setsN]
    by_cases e : lineN ts n ts.length = 0
    · rw [if_pos e, ih]
      constructor
      · rintro ⟨h, k, h1, h2⟩; exact ⟨h, k, by omega, h2⟩
      · rintro ⟨h, k, h1, h2⟩
        by_cases hk : k = n
        · subst hk; exact absurd (h2.trans e) h
        · exact ⟨h, k, by omega, h2⟩
    · rw [if_neg e, List.mem_append, ih, List.mem_singleton]
      constructor
      · rintro (⟨h, k, h1, h2⟩ | h)
        · exact ⟨h, k, by omega, h2⟩
        · exact ⟨by rw [h]; exact e, n, by omega, h⟩
      · rintro ⟨h, k, h1, h2⟩
        by_cases hk : k = n
        · subst hk; exact .inr h2
        · exact .inl ⟨h, k, by omega, h2⟩
theorem setsN_len (ts : List Nat) : ∀ n, (setsN ts n).length ≤ n
  | 0 => by simp [setsN]
  | n + 1 => by
    have := setsN_len ts n
    rw [setsN]
    split
    · omega
    · rw [List.length_append]; simp; omega
def popN (h : Nat) : Nat := (List.range 12).countP fun i => h.testBit i
def bestN (hs : List Nat) : Nat := hs.foldl (fun b h => min b (popN h)) 32
theorem bestN_snoc (hs : List Nat) (h : Nat) : bestN (hs ++ [h]) = min (bestN hs) (popN h) := by unfold bestN; rw [List.foldl_append]; rfl
theorem bestN_ge {m : Nat} (hm : m ≤ 32) (hs : List Nat) : (∀ h ∈ hs, m ≤ popN h) → m ≤ bestN hs := by
  induction hs using list_snoc_ind with
  | h0 => intro _; exact hm
  | h1 hs h ih =>
    intro k
    rw [bestN_snoc]
    have := ih fun x hx => k x (List.mem_append_left _ hx)
    have := k h (by simp)
    omega
theorem bestN_le {m : Nat} (hs : List Nat) : (∃ h ∈ hs, popN h ≤ m) → bestN hs ≤ m := by
  induction hs using list_snoc_ind with
  | h0 => rintro ⟨h, hh, _⟩; cases hh
  | h1 hs h ih =>
    rintro ⟨x, hx, k⟩
    rw [bestN_snoc]
    rcases List.mem_append.1 hx with hx | hx
    · have := ih ⟨x, hx, k⟩; omega
    · rw [List.mem_singleton] at hx; subst hx; omega
theorem bits_of (l : List Nat) (i : Nat) : (unionN (l.map fun x => 2 ^ x)).testBit i = true ↔ i ∈ l := by
  rw [unionN_bit]
  constructor
  · rintro ⟨s, hs, hb⟩
    obtain ⟨x, hx, rfl⟩ := List.mem_map.1 hs
    rw [Nat.testBit_two_pow] at hb
    have : x = i := by simpa using hb
    exact this ▸ hx
  · intro h
    exact ⟨2 ^ i, List.mem_map.2 ⟨i, h, rfl⟩, by rw [Nat.testBit_two_pow]; simp⟩
theorem covers_hits {ts : List Nat} {n : Nat} (h12 : ts.length ≤ 12) (hts : ∀ s ∈ ts, s < 2 ^ n) (hn : n ≤ 20) {l : List Nat} (hl : Cov ts 0 (unionN ts) l) (hmin : ∀ c, Cov ts 0 (unionN ts) c → l.length ≤ c.length) :
    hitC (setsN ts n) = 0 ∧ hitsN (setsN ts n) ≠ [] ∧ bestN (hitsN (setsN ts n)) = l.length := by
  have small : ∀ s ∈ setsN ts n, s < 4096 := by
    intro s hs
    obtain ⟨_, k, _, rfl⟩ := setsN_mem.1 hs
    exact Nat.lt_of_lt_of_le (lineN_lt ts k _) (pow_le12 h12)
  have hC : hitC (setsN ts n) = 0 := by
    unfold hitC
    have := setsN_len ts n
    rw [if_neg (by omega), if_pos]
    rw [List.all_eq_true]
    intro s hs
    simpa using small s hs
  obtain ⟨ok, _⟩ := hitsN_ok _ small
  have hit0 : Hit (setsN ts n) (unionN (l.map fun x => 2 ^ x)) := by
    intro s hs
    obtain ⟨h0, k, hk, rfl⟩ := setsN_mem.1 hs
    obtain ⟨i, hi⟩ := bit_of_pos h0
    obtain ⟨i1, i2⟩ := (lineN_bit ts k _ i).1 hi
    obtain ⟨x, hx, hb⟩ := hl.2.2 k (unionN_bit.2 ⟨_, getD_mem i1, i2⟩)
    exact meet_iff.2 ⟨x, (bits_of l x).2 hx, (lineN_bit ts k _ x).2 ⟨(hl.2.1 x hx).2, hb⟩⟩
  obtain ⟨g, g1, g2⟩ := min_below _ hit0
  have l12 : l.length ≤ 12 := Nat.le_trans (asc_len hl.1 (n := ts.length) fun x hx => (hl.2.1 x hx).2) h12
  have pop0 : popN (unionN (l.map fun x => 2 ^ x)) = l.length := by
    unfold popN
    rw [List.countP_eq_length_filter]
    congr 1
    refine asc_ext (List.Pairwise.filter _ List.pairwise_lt_range) hl.1 fun x => ?_
    rw [List.mem_filter, List.mem_range, bits_of]
    constructor
    · exact fun h => h.2
    · exact fun h => ⟨by have := (hl.2.1 x h).2; omega, h⟩
  refine ⟨hC, List.ne_nil_of_mem ((ok g).2 g2), Nat.le_antisymm ?_ ?_⟩
  · refine bestN_le _ ⟨g, (ok g).2 g2, ?_⟩
    rw [← pop0]
    unfold popN
    exact List.countP_mono_left fun x _ hx => sub_iff.1 g1 x hx
  · refine bestN_ge (by omega) _ fun h hh => ?_
    have hm := (ok h).1 hh
    have hc : Cov ts 0 (unionN ts) ((List.range ts.length).filter fun i => h.testBit i) := by
      refine ⟨List.Pairwise.filter _ List.pairwise_lt_range, fun x hx => ⟨Nat.zero_le _, List.mem_range.1 (List.mem_filter.1 hx).1⟩, fun k hk => ?_⟩
      obtain ⟨s, hs, hb⟩ := unionN_bit.1 hk
      have kn : k < n := by
        apply Classical.byContradiction
        intro hn
        have : s < 2 ^ k := Nat.lt_of_lt_of_le (hts s hs) (Nat.pow_le_pow_right (by omega) (by omega))
        rw [Nat.testBit_lt_two_pow this] at hb
        cases hb
      obtain ⟨y, hy, rfl⟩ := List.getElem_of_mem hs
      have hyb : (lineN ts k ts.length).testBit y = true := (lineN_bit ts k _ y).2 ⟨hy, by rw [List.getD_eq_getElem?_getD, List.getElem?_eq_getElem hy]; exact hb⟩
      have hs0 : lineN ts k ts.length ∈ setsN ts n := setsN_mem.2 ⟨(by intro e; rw [e, Nat.zero_testBit] at hyb; cases hyb), k, kn, rfl⟩
      obtain ⟨i, i1, i2⟩ := meet_iff.1 (hm.1 _ hs0)
      obtain ⟨i3, i4⟩ := (lineN_bit ts k _ i).1 i2
      exact ⟨i, List.mem_filter.2 ⟨List.mem_range.2 i3, i1⟩, i4⟩
    refine Nat.le_trans (hmin _ hc) ?_
    rw [← List.countP_eq_length_filter]
    unfold popN
    obtain ⟨d, hd⟩ : ∃ d, 12 = ts.length + d := ⟨12 - ts.length, by omega⟩
    rw [hd, List.range_add, List.countP_append]
    omega
end Go.Proofs.YtfkklhmamhcbhaaDoor
