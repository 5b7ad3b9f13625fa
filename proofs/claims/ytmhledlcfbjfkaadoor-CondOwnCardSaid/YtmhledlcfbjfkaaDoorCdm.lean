/- Decisions of at most six conditions as plain lists: the pair of a condition, whether it matters, whether tests cover; tests that cover are one more than conditions that matter. No program in sight. No conditions. -/
import Derived.Test.YtmhledlcfbjfkaaDoorSrt
import Derived.Lib.SlicesCompact
namespace Go.Proofs.YtmhledlcfbjfkaaDoor
open Go.RowKit Go.Lib
def bz (t i : Nat) : Bool := t / 2 ^ i % 2 == 0
def up (t i : Nat) : Nat := t + 2 ^ i
def flN (t i : Nat) : Nat := if bz t i then t + 2 ^ i else t - 2 ^ i
def fl (t : Int) (i : Nat) : Int := (flN t.toNat i : Nat)
def bat (f : List Bool) (t : Nat) : Bool := f.getD t false
theorem bit_all {P : Nat → Nat → Prop} [∀ t i, Decidable (P t i)] (h : (List.range 64).all (fun t => (List.range 6).all fun i => decide (P t i)) = true) : ∀ t i, t < 64 → i < 6 → P t i := by
  intro t i ht hi
  rw [List.all_eq_true] at h
  have h1 := h t (List.mem_range.2 ht)
  rw [List.all_eq_true] at h1
  exact of_decide_eq_true (h1 i (List.mem_range.2 hi))
theorem and_bit : ∀ (t i : Nat), t < 64 → i < 6 → bits .and .i64 (t : Int) ((2 ^ i : Nat) : Int) = if bz t i then 0 else ((2 ^ i : Nat) : Int) := bit_all (by decide +kernel)
theorem or_bit : ∀ (t i : Nat), t < 64 → i < 6 → bits .or .i64 (t : Int) ((2 ^ i : Nat) : Int) = if bz t i then ((up t i : Nat) : Int) else (t : Int) := bit_all (by decide +kernel)
theorem xor_bit : ∀ (t i : Nat), t < 64 → i < 6 → bits .xor .i64 (t : Int) ((2 ^ i : Nat) : Int) = ((flN t i : Nat) : Int) := bit_all (by decide +kernel)
theorem fl_lt : ∀ n, n ≤ 6 → ∀ (t i : Nat), t < 64 → i < 6 → t < 2 ^ n → i < n → flN t i < 2 ^ n ∧ (bz t i = true → flN t i = up t i) := by
  intro n hn
  have : n = 0 ∨ n = 1 ∨ n = 2 ∨ n = 3 ∨ n = 4 ∨ n = 5 ∨ n = 6 := by omega
  rcases this with rfl | rfl | rfl | rfl | rfl | rfl | rfl <;> exact bit_all (by decide +kernel)
theorem fl_bit : ∀ (t i : Nat), t < 64 → i < 6 → bz (flN t i) i = !bz t i ∧ flN t i < 64 := bit_all (by decide +kernel)
theorem fl_other : ∀ (t i : Nat), t < 64 → i < 6 → (List.range 6).all (fun j => decide (j ≠ i → bz (flN t j) i = bz t i)) = true := bit_all (by decide +kernel)
theorem pow_le6 {n : Nat} (h : n ≤ 6) : 2 ^ n ≤ 64 := Nat.pow_le_pow_right (by omega) h
def goodP (f : List Bool) (i t : Nat) : Bool := bz t i && (bat f t != bat f (up t i))
def pairF (f : List Bool) (i : Nat) : Option Nat := (List.range f.length).find? (goodP f i)
def mat (f : List Bool) (i : Nat) : Bool := (pairF f i).isSome
def hasPt (f : List Bool) (T : List Int) (i : Nat) (t : Int) : Bool := (bat f t.toNat != bat f (fl t i).toNat) && decide (fl t i ∈ T)
def hasP (f : List Bool) (T : List Int) (i : Nat) : Bool := T.any (hasPt f T i)
def wantT (f : List Bool) (T : List Int) (b : Bool) : Bool := decide (b ∈ f) && decide ((!b) ∈ f) && !(T.any fun t => bat f t.toNat == b)
def cov (n : Nat) (f : List Bool) (T : List Int) : Bool := (List.range n).all (fun i => !mat f i || hasP f T i) && (!wantT f T false && !wantT f T true)
def InR (n : Nat) (T : List Int) : Prop := ∀ t ∈ T, 0 ≤ t ∧ t < ((2 ^ n : Nat) : Int)
def out0 (f : List Bool) : Nat → List Int
  | 0 => []
  | n + 1 => out0 f n ++ (match pairF f n with | some t => [(t : Int), ((up t n : Nat) : Int)] | none => [])
def dropF (n : Nat) (f : List Bool) : Nat → List Int → List Int
  | 0, T => T
  | i + 1, T => if cov n f (T.take i ++ T.drop (i + 1)) then dropF n f i (T.take i ++ T.drop (i + 1)) else dropF n f i T
def testsF (n : Nat) (f : List Bool) : List Int := dropF n f (compact (srt (out0 f n))).length (compact (srt (out0 f n)))
theorem pairF_some {f : List Bool} {i t : Nat} (h : pairF f i = some t) : t < f.length ∧ bz t i = true ∧ bat f t ≠ bat f (up t i) := by
  unfold pairF at h
  have h1 := List.find?_some h
  have h2 := List.mem_of_find?_eq_some h
  unfold goodP at h1
  simp at h1
  exact ⟨List.mem_range.1 h2, h1.1, h1.2⟩
/-- the places of a cube: as many as directions in which two of them lie side by side, and one -/
theorem lower : ∀ (k : Nat) (D : List Nat) (T : List Int), D.length ≤ k → (∀ i ∈ D, i < 6) → D.Nodup → InR 6 T → T ≠ [] → (∀ i ∈ D, ∃ t ∈ T, fl t i ∈ T) → D.length + 1 ≤ T.length := by
  intro k
  induction k with
  | zero =>
    intro D T hk _ _ _ hT _
    have : 0 < T.length := List.length_pos_iff.2 hT
    omega
  | succ k ih =>
    intro D T hk h6 hn hr hT hp
    match D with
    | [] =>
      have : 0 < T.length := List.length_pos_iff.2 hT
      simp; omega
    | i :: D =>
      rw [List.nodup_cons] at hn
      have i6 := h6 i (by simp)
      have hlen : T.length = (T.filter fun t => bz t.toNat i).length + (T.filter fun t => !bz t.toNat i).length := by
        clear hr hT hp
        induction T with
        | nil => rfl
        | cons t r ih2 => cases hb : bz t.toNat i <;> simp [hb, ih2] <;> omega
      have nat_of : ∀ t ∈ T, t.toNat < 64 := fun t ht => by have := hr t ht; omega
      have fln : ∀ (t : Int) (j : Nat), (fl t j).toNat = flN t.toNat j := fun t j => rfl
      have key : ∀ (b : Bool), ∃ T', (T' = T.filter fun t => bz t.toNat i == b) ∧ T' ≠ [] ∧ InR 6 T' := fun b => by
        refine ⟨_, rfl, ?_, fun t ht => hr t (List.mem_filter.1 ht).1⟩
        obtain ⟨t, h1, h2⟩ := hp i (by simp)
        have hb := (fl_bit t.toNat i (nat_of t h1) i6).1
        intro hnil
        by_cases hc : bz t.toNat i = b
        · have : t ∈ T.filter fun t => bz t.toNat i == b := List.mem_filter.2 ⟨h1, by simp [hc]⟩
          rw [hnil] at this; cases this
        · have : fl t i ∈ T.filter fun t => bz t.toNat i == b := List.mem_filter.2 ⟨h2, by
            rw [fln, hb]
            cases hq : bz t.toNat i <;> cases b <;> simp_all⟩
          rw [hnil] at this; cases this
      obtain ⟨T0, e0, n0, r0⟩ := key true
      obtain ⟨T1, e1, n1, r1⟩ := key false
      have l0 : T0.length = (T.filter fun t => bz t.toNat i).length := by rw [e0]; congr 2; funext t; simp
      have l1 : T1.length = (T.filter fun t => !bz t.toNat i).length := by rw [e1]; congr 2; funext t; cases bz t.toNat i <;> rfl
      have side : ∀ j ∈ D, (∃ t ∈ T0, fl t j ∈ T0) ∨ (∃ t ∈ T1, fl t j ∈ T1) := fun j hj => by
        obtain ⟨t, h1, h2⟩ := hp j (by simp [hj])
        have hne : j ≠ i := fun e => hn.1 (e ▸ hj)
        have ho := fl_other t.toNat i (nat_of t h1) i6
        rw [List.all_eq_true] at ho
        have ho2 := of_decide_eq_true (ho j (List.mem_range.2 (h6 j (by simp [hj])))) hne
        cases hq : bz t.toNat i with
        | true => exact .inl ⟨t, by rw [e0]; exact List.mem_filter.2 ⟨h1, by simp [hq]⟩, by rw [e0]; exact List.mem_filter.2 ⟨h2, by rw [fln, ho2, hq]; rfl⟩⟩
        | false => exact .inr ⟨t, by rw [e1]; exact List.mem_filter.2 ⟨h1, by simp [hq]⟩, by rw [e1]; exact List.mem_filter.2 ⟨h2, by rw [fln, ho2, hq]; rfl⟩⟩
      have hD : D.length = (D.filter fun j => T0.any fun t => decide (fl t j ∈ T0)).length + (D.filter fun j => !(T0.any fun t => decide (fl t j ∈ T0))).length := by
        clear side hp h6 hk hn
        induction D with
        | nil => rfl
        | cons t r ih2 => cases hb : (T0.any fun u => decide (fl u t ∈ T0)) <;> simp [hb, ih2] <;> omega
      have hk' : D.length ≤ k := by simp at hk; omega
      have a0 := ih (D.filter fun j => T0.any fun t => decide (fl t j ∈ T0)) T0 (Nat.le_trans (List.length_filter_le _ _) hk') (fun j hj => h6 j (by simp [(List.mem_filter.1 hj).1])) (hn.2.filter _) r0 n0 fun j hj => by
        have := (List.mem_filter.1 hj).2
        rw [List.any_eq_true] at this
        obtain ⟨t, h1, h2⟩ := this
        exact ⟨t, h1, of_decide_eq_true h2⟩
      have a1 := ih (D.filter fun j => !(T0.any fun t => decide (fl t j ∈ T0))) T1 (Nat.le_trans (List.length_filter_le _ _) hk') (fun j hj => h6 j (by simp [(List.mem_filter.1 hj).1])) (hn.2.filter _) r1 n1 fun j hj => by
        have h := List.mem_filter.1 hj
        rcases side j h.1 with h3 | h3
        · obtain ⟨t, h1, h2⟩ := h3
          have h4 := h.2
          have : (T0.any fun t => decide (fl t j ∈ T0)) = true := List.any_eq_true.2 ⟨t, h1, decide_eq_true h2⟩
          rw [this] at h4; cases h4
        · exact h3
      simp only [List.length_cons]
      omega
/-- the conditions that matter -/
def mats (n : Nat) (f : List Bool) : List Nat := (List.range n).filter (mat f)
theorem bound {n : Nat} {f : List Bool} {T : List Int} (hn : n ≤ 6) (hr : InR n T) (hp : ∀ i, i < n → mat f i = true → hasP f T i = true) (h0 : mats n f ≠ []) : (mats n f).length < T.length := by
  have hr6 : InR 6 T := fun t ht => by have := hr t ht; have := pow_le6 hn; omega
  have hpp : ∀ i ∈ mats n f, ∃ t ∈ T, fl t i ∈ T := fun i hi => by
    obtain ⟨h1, h2⟩ := List.mem_filter.1 hi
    have h3 := hp i (List.mem_range.1 h1) h2
    unfold hasP at h3
    rw [List.any_eq_true] at h3
    obtain ⟨t, h4, h5⟩ := h3
    unfold hasPt at h5
    simp at h5
    exact ⟨t, h4, h5.2⟩
  have hT : T ≠ [] := by
    obtain ⟨i, r, e⟩ := List.exists_cons_of_ne_nil h0
    obtain ⟨t, h1, _⟩ := hpp i (by rw [e]; simp)
    exact List.ne_nil_of_mem h1
  exact lower _ (mats n f) T (Nat.le_refl _) (fun i hi => by have := List.mem_range.1 (List.mem_filter.1 hi).1; omega) (List.nodup_range.filter _) hr6 hT hpp
theorem compact_mem (zs : List Int) (x : Int) : x ∈ compact zs ↔ x ∈ zs := by
  unfold compact compactUpTo
  simp only [List.mem_map, List.mem_filter, List.mem_range]
  constructor
  · rintro ⟨j, ⟨h1, _⟩, rfl⟩
    have : zs.toArray[j]! = zs[j] := by simp [getElem!_pos, h1]
    rw [this]; exact List.getElem_mem h1
  · intro hx
    obtain ⟨j, hj, rfl⟩ := List.getElem_of_mem hx
    clear hx
    induction j with
    | zero => exact ⟨0, ⟨hj, by simp [keeps]⟩, by simp [getElem!_pos, hj]⟩
    | succ j ih =>
      by_cases e : zs.toArray[j + 1]! = zs.toArray[j]!
      · obtain ⟨q, h1, h2⟩ := ih (by omega)
        refine ⟨q, h1, h2.trans ?_⟩
        have e1 : zs.toArray[j + 1]! = zs[j + 1] := by simp [getElem!_pos, hj]
        have e2 : zs.toArray[j]! = zs[j] := by simp [getElem!_pos, (by omega : j < zs.length)]
        rw [← e1, ← e2, e]
      · exact ⟨j + 1, ⟨hj, keeps_pos (by simpa using e)⟩, by simp [getElem!_pos, hj]⟩
theorem out0_mem {n : Nat} {f : List Bool} (hn : n ≤ 6) (hf : f.length = 2 ^ n) : ∀ k, k ≤ n → ∀ x ∈ out0 f k, 0 ≤ x ∧ x < ((2 ^ n : Nat) : Int) := by
  intro k
  induction k with
  | zero => intro _ x hx; rw [out0] at hx; cases hx
  | succ k ih =>
    intro hk x hx
    rw [out0] at hx
    rcases List.mem_append.1 hx with h | h
    · exact ih (by omega) x h
    · split at h
      · rename_i t ht
        obtain ⟨h1, h2, _⟩ := pairF_some ht
        have p6 := pow_le6 hn
        obtain ⟨h4, h5⟩ := fl_lt n hn t k (by omega) (by omega) (by omega) (by omega)
        rw [h5 h2] at h4
        simp at h
        rcases h with rfl | rfl <;> omega
      · cases h
theorem out0_pair {f : List Bool} {i t : Nat} (h : pairF f i = some t) : ∀ k, i < k → (t : Int) ∈ out0 f k ∧ ((up t i : Nat) : Int) ∈ out0 f k := by
  intro k
  induction k with
  | zero => intro h; omega
  | succ k ih =>
    intro hk
    rw [out0]
    by_cases e : i = k
    · subst e; rw [h]; simp
    · have := ih (by omega)
      exact ⟨List.mem_append_left _ this.1, List.mem_append_left _ this.2⟩
theorem cov_has {n : Nat} {f : List Bool} {T : List Int} (h : cov n f T = true) : ∀ i, i < n → mat f i = true → hasP f T i = true := by
  intro i hi hm
  unfold cov at h
  rw [Bool.and_eq_true, List.all_eq_true] at h
  have := h.1 i (List.mem_range.2 hi)
  rw [hm] at this
  simpa using this
structure TOk (n : Nat) (f : List Bool) (T : List Int) : Prop where
  inR : InR n T
  has : ∀ i, i < n → mat f i = true → hasP f T i = true
theorem dropF_ok {n : Nat} {f : List Bool} : ∀ (i : Nat) (T : List Int), TOk n f T → TOk n f (dropF n f i T)
  | 0, T, h => by rw [dropF]; exact h
  | i + 1, T, h => by
    rw [dropF]
    split
    · rename_i hc
      refine dropF_ok i _ ⟨fun t ht => ?_, cov_has hc⟩
      rcases List.mem_append.1 ht with ht | ht
      · exact h.inR t (List.mem_of_mem_take ht)
      · exact h.inR t (List.mem_of_mem_drop ht)
    · exact dropF_ok i T h
theorem start_ok {n : Nat} {f : List Bool} (hn : n ≤ 6) (hf : f.length = 2 ^ n) : TOk n f (compact (srt (out0 f n))) where
  inR := fun t ht => by
    rw [compact_mem, srt_mem] at ht
    exact out0_mem hn hf n (Nat.le_refl _) t ht
  has := fun i hi hm => by
    unfold mat at hm
    obtain ⟨t, ht⟩ := Option.isSome_iff_exists.1 hm
    obtain ⟨h1, h2⟩ := out0_pair ht n hi
    obtain ⟨h3, h4, h5⟩ := pairF_some ht
    have p6 := pow_le6 hn
    have h6 := (fl_lt n hn t i (by omega) (by omega) (by omega) hi).2 h4
    have e : fl (t : Int) i = ((up t i : Nat) : Int) := by unfold fl; rw [Int.toNat_natCast, h6]
    unfold hasP
    rw [List.any_eq_true]
    refine ⟨(t : Int), by rw [compact_mem, srt_mem]; exact h1, ?_⟩
    unfold hasPt
    rw [e, Int.toNat_natCast, Int.toNat_natCast]
    simp only [Bool.and_eq_true, bne_iff_ne, ne_eq, decide_eq_true_eq]
    exact ⟨h5, by rw [compact_mem, srt_mem]; exact h2⟩
theorem tests_ok {n : Nat} {f : List Bool} (hn : n ≤ 6) (hf : f.length = 2 ^ n) : TOk n f (testsF n f) := dropF_ok _ _ (start_ok hn hf)
theorem out0_nil {n : Nat} {f : List Bool} (h : mats n f = []) : ∀ k, k ≤ n → out0 f k = [] := by
  intro k
  induction k with
  | zero => intro _; rfl
  | succ k ih =>
    intro hk
    have hm : mat f k = false := by
      cases hq : mat f k with
      | false => rfl
      | true =>
        have : k ∈ mats n f := List.mem_filter.2 ⟨List.mem_range.2 (by omega), hq⟩
        rw [h] at this; cases this
    unfold mat at hm
    rw [out0, ih (by omega)]
    cases hq : pairF f k with
    | none => rfl
    | some t => rw [hq] at hm; cases hm
theorem tests_nil {n : Nat} {f : List Bool} (h : mats n f = []) : testsF n f = [] := by
  unfold testsF
  rw [out0_nil h n (Nat.le_refl _)]
  have : srt [] = [] := List.eq_nil_of_length_eq_zero (by rw [srt_len]; rfl)
  rw [this]
  rfl
end Go.Proofs.YtmhledlcfbjfkaaDoor
