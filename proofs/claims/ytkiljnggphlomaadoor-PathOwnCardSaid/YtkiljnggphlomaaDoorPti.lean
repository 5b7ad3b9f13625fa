/- What the counting search leaves: for each node that is done all that follow it are done before, and its number is the sum of theirs. No conditions. -/
import Derived.Test.YtkiljnggphlomaaDoorPtv
namespace Go.Proofs.YtkiljnggphlomaaDoor
open Go.RowKit Go.Deep
def sumP (p : List Int) : List Int → Int
  | [] => 0
  | j :: js => at0 p j.toNat + sumP p js
theorem sumP_snoc (p : List Int) : ∀ (a : List Int) (j : Int), sumP p (a ++ [j]) = sumP p a + at0 p j.toNat
  | [], j => by simp [sumP]
  | x :: a, j => by simp only [List.cons_append, sumP]; rw [sumP_snoc p a j]; omega
theorem sumP_eq {p q : List Int} : ∀ {js : List Int}, (∀ j ∈ js, at0 q j.toNat = at0 p j.toNat) → sumP q js = sumP p js
  | [], _ => rfl
  | j :: js, h => by
    simp only [sumP]
    rw [h j (by simp), sumP_eq (fun x hx => h x (by simp [hx]))]
theorem sumP_nn {p : List Int} : ∀ {js : List Int}, (∀ j ∈ js, 0 ≤ at0 p j.toNat) → 0 ≤ sumP p js
  | [], _ => by simp [sumP]
  | j :: js, h => by
    simp only [sumP]
    have h1 := h j (by simp)
    have h2 := sumP_nn (p := p) (js := js) (fun x hx => h x (by simp [hx]))
    omega
theorem sumP_le {p : List Int} {b : Int} : ∀ {js : List Int}, (∀ j ∈ js, at0 p j.toNat ≤ b) → sumP p js ≤ js.length * b
  | [], _ => by simp [sumP]
  | j :: js, h => by
    simp only [sumP, List.length_cons]
    have h1 := h j (by simp)
    have h2 := sumP_le (p := p) (b := b) (js := js) (fun x hx => h x (by simp [hx]))
    have : ((js.length + 1 : Nat) : Int) * b = js.length * b + b := by rw [Int.natCast_add, Int.add_mul]; simp
    omega
def base (n i : Nat) : Int := if i + 1 = n then 1 else 0
/-- how many nodes are done -/
def nDone (p : List Int) : Nat := (p.filter fun x => decide (0 ≤ x)).length
theorem nDone_le (p : List Int) : nDone p ≤ p.length := List.length_filter_le _ _
theorem nDone_set : ∀ (p : List Int) (i : Nat) (k : Int), i < p.length → at0 p i < 0 → 0 ≤ k → nDone (p.set i k) = nDone p + 1
  | [], i, k, h, _, _ => by simp at h
  | x :: p, 0, k, _, h2, h3 => by
    have h2 : x < 0 := h2
    have : ¬ 0 ≤ x := by omega
    simp [nDone, h3, this]
  | x :: p, i + 1, k, h, h2, h3 => by
    have := nDone_set p i k (by simpa using h) (by simpa [at0] using h2) h3
    unfold nDone at this ⊢
    rw [List.set_cons_succ, List.filter_cons, List.filter_cons]
    split <;> simp [this]
theorem at0_set' (p : List Int) (i j : Nat) (k : Int) (hi : i < p.length) : at0 (p.set i k) j = if i = j then k else at0 p j := by
  unfold at0
  rw [List.getD_eq_getElem?_getD, List.getD_eq_getElem?_getD, List.getElem?_set]
  by_cases e : i = j
  · subst e; simp [hi]
  · simp [e]
/-- what holds of nodes that are done -/
structure Fin_ (n : Nat) (r : Nat → Nat) (s : PSt) : Prop where
  nx : ∀ p, p < n → 0 ≤ at0 s.pth p → ∀ j ∈ rowAt s.rows p, 0 ≤ at0 s.pth j.toNat ∧ r j.toNat < r p
  sm : ∀ p, p < n → 0 ≤ at0 s.pth p → at0 s.pth p = base n p + sumP s.pth (rowAt s.rows p)
  le : ∀ p, p < n → 0 ≤ at0 s.pth p → at0 s.pth p ≤ 31 ^ r p ∧ r p < nDone s.pth
/-- what was done stays as it was -/
structure Keeps (n : Nat) (s s' : PSt) : Prop where
  pk : ∀ p, p < n → 0 ≤ at0 s.pth p → at0 s'.pth p = at0 s.pth p ∧ rowAt s'.rows p = rowAt s.rows p
  rk : ∀ p, (rowAt s'.rows p).length = (rowAt s.rows p).length
theorem Keeps.refl (n : Nat) (s : PSt) : Keeps n s s := ⟨fun _ _ _ => ⟨rfl, rfl⟩, fun _ => rfl⟩
theorem Keeps.trans {n : Nat} {a b c : PSt} (h : Keeps n a b) (k : Keeps n b c) : Keeps n a c := ⟨fun p hp h0 => by
  have h1 := h.pk p hp h0
  have h2 := k.pk p hp (by rw [h1.1]; exact h0)
  exact ⟨h2.1.trans h1.1, h2.2.trans h1.2⟩, fun p => (k.rk p).trans (h.rk p)⟩
structure Sz (n : Nat) (s : PSt) : Prop where
  rl : s.rows.length = n
  pl : s.pth.length = n
  ol : s.opn.length = n
  r30 : ∀ p, (rowAt s.rows p).length ≤ 30
def PGood (n : Nat) (s : PSt) : Prop := Rg n s ∧ Sz n s ∧ ∃ r, Fin_ n r s
def Fine (n : Nat) (i : Nat) (s s' : PSt) : Prop := PGood n s' ∧ Keeps n s s' ∧ 0 ≤ at0 s'.pth i
theorem pow31 (a b : Nat) (h : a ≤ b) : (31 : Int) ^ a ≤ 31 ^ b := by
  have : (31 : Nat) ^ a ≤ 31 ^ b := Nat.pow_le_pow_right (by omega) h
  exact_mod_cast this
theorem Fin_.small {n : Nat} {r : Nat → Nat} {s : PSt} (h : Fin_ n r s) (hs : Sz n s) (h12 : n ≤ 12) {p : Nat} (hp : p < n) (h0 : 0 ≤ at0 s.pth p) : at0 s.pth p ≤ 31 ^ (nDone s.pth - 1) ∧ 1 ≤ nDone s.pth ∧ nDone s.pth ≤ 12 := by
  have h1 := h.le p hp h0
  have h2 := pow31 (r p) (nDone s.pth - 1) (by omega)
  have h3 := nDone_le s.pth
  rw [hs.pl] at h3
  exact ⟨by omega, by omega, by omega⟩
theorem row_mem {n : Nat} {s : PSt} (hr : Rg n s) {i : Nat} (hi : i < s.rows.length) : ∀ y ∈ rowAt s.rows i, 0 ≤ y ∧ y < (n : Int) := by
  have hm : rowAt s.rows i ∈ s.rows := by unfold rowAt; rw [List.getD_eq_getElem?_getD, List.getElem?_eq_getElem hi]; exact List.getElem_mem _
  exact (hr.rg _ hm).2
theorem goS_fine {n : Nat} (h12 : n ≤ 12) {c : PSt → Nat → Option PSt} (hc : ∀ s i s', i < n → PGood n s → c s i = some s' → Fine n i s s') (k0 : Int) (hk : 0 ≤ k0 ∧ k0 ≤ 1) : ∀ (js done : List Int) (s : PSt) (p : PSt × Int), (done ++ js).length ≤ 30 → (∀ y ∈ done ++ js, 0 ≤ y ∧ y < (n : Int)) → PGood n s → (∀ y ∈ done, 0 ≤ at0 s.pth y.toNat) →
    goS c js s (k0 + sumP s.pth done) = some p → PGood n p.1 ∧ Keeps n s p.1 ∧ (∀ y ∈ done ++ js, 0 ≤ at0 p.1.pth y.toNat) ∧ p.2 = k0 + sumP p.1.pth (done ++ js) ∧ p.2 ≤ 31 ^ nDone p.1.pth ∧ 0 ≤ p.2
  | [], done, s, p, hl, hy, hg, hd, h => by
    simp only [goS] at h
    injection h with h
    subst h
    refine ⟨hg, Keeps.refl _ _, by simpa using hd, by simp, ?_⟩
    obtain ⟨_, hs, r, hr⟩ := hg
    have h0 := sumP_nn hd
    refine ⟨?_, by show 0 ≤ k0 + sumP s.pth done; omega⟩
    show k0 + sumP s.pth done ≤ 31 ^ nDone s.pth
    cases hdn : done with
    | nil =>
      have := pow31 0 (nDone s.pth) (Nat.zero_le _)
      simp only [sumP]; simp at this; omega
    | cons y ys =>
      rw [← hdn]
      have hy0 : y ∈ done := by rw [hdn]; simp
      have h9 := hr.small hs h12 (p := y.toNat) (by have := hy y (by simp [hy0]); omega) (hd y hy0)
      have h1 : sumP s.pth done ≤ done.length * 31 ^ (nDone s.pth - 1) := sumP_le fun j hj => (hr.small hs h12 (p := j.toNat) (by have := hy j (by simp [hj]); omega) (hd j hj)).1
      have h3 : (done.length : Int) * 31 ^ (nDone s.pth - 1) ≤ 30 * 31 ^ (nDone s.pth - 1) := Int.mul_le_mul_of_nonneg_right (by simp at hl; omega) (by exact_mod_cast Nat.zero_le (31 ^ (nDone s.pth - 1)))
      have h4 : (31 : Int) ^ nDone s.pth = 31 ^ (nDone s.pth - 1) * 31 := by
        rw [← Int.pow_succ]; congr 1; omega
      have h5 := pow31 0 (nDone s.pth - 1) (Nat.zero_le _)
      simp at h5
      omega
  | j :: js, done, s, p, hl, hy, hg, hd, h => by
    simp only [goS] at h
    have hj := hy j (by simp)
    cases hcj : c s j.toNat with
    | none => rw [hcj] at h; cases h
    | some s' =>
      rw [hcj] at h
      obtain ⟨hg', hk', hj0⟩ := hc s j.toNat s' (by omega) hg hcj
      have ed : sumP s'.pth done = sumP s.pth done := sumP_eq fun y hy' => (hk'.pk y.toNat (by have := hy y (by simp [hy']); omega) (hd y hy')).1
      have hd' : ∀ y ∈ done ++ [j], 0 ≤ at0 s'.pth y.toNat := fun y hy' => by
        rcases List.mem_append.1 hy' with h1 | h1
        · rw [(hk'.pk y.toNat (by have := hy y (by simp [h1]); omega) (hd y h1)).1]; exact hd y h1
        · rw [List.mem_singleton.1 h1]; exact hj0
      have hb : k0 + sumP s'.pth (done ++ [j]) ≤ 1 + 30 * 31 ^ 11 ∧ 0 ≤ k0 + sumP s'.pth (done ++ [j]) := by
        obtain ⟨_, hs, r, hr⟩ := hg'
        have h1 : sumP s'.pth (done ++ [j]) ≤ (done ++ [j]).length * 31 ^ 11 := sumP_le fun y hy' => by
          have h2 := hy y (by rcases List.mem_append.1 hy' with h3 | h3 <;> simp_all)
          have h3 := hr.small hs h12 (p := y.toNat) (by omega) (hd' y hy')
          have h4 := pow31 (nDone s'.pth - 1) 11 (by omega)
          omega
        have h2 := sumP_nn hd'
        have h3 : (((done ++ [j]).length : Nat) : Int) ≤ 30 := by simp at hl ⊢; omega
        have h4 : (((done ++ [j]).length : Nat) : Int) * 31 ^ 11 ≤ 30 * 31 ^ 11 := Int.mul_le_mul_of_nonneg_right h3 (by decide)
        omega
      have ek : IntKind.i64.wrap (k0 + sumP s.pth done + at0 s'.pth j.toNat) = k0 + sumP s'.pth (done ++ [j]) := by
        rw [sumP_snoc, ed] at hb ⊢
        have e : k0 + (sumP s.pth done + at0 s'.pth j.toNat) = k0 + sumP s.pth done + at0 s'.pth j.toNat := by omega
        rw [e] at hb ⊢
        rw [IntKind.wrap_i64]
        have : (1 : Int) + 30 * 31 ^ 11 < 9223372036854775807 := by decide
        omega
      simp only [] at h
      rw [ek] at h
      have := goS_fine h12 hc k0 hk js (done ++ [j]) s' p (by simpa using hl) (by simpa using hy) hg' hd' h
      rw [List.append_assoc] at this
      exact ⟨this.1, hk'.trans this.2.1, this.2.2⟩
theorem enter_good {n : Nat} {s : PSt} (hg : PGood n s) {i : Nat} (hi : i < n) (h0 : at0 s.pth i < 0) : PGood n (enterS s i) ∧ Keeps n s (enterS s i) := by
  obtain ⟨hr, hs, r, hf⟩ := hg
  have ke : ∀ p, p ≠ i → rowAt (enterS s i).rows p = rowAt s.rows p := fun p hp => by simp only [enterS]; rw [rowAt_set' _ _ _ _ (Ne.symm hp)]
  have kl : ∀ p, (rowAt (enterS s i).rows p).length = (rowAt s.rows p).length := fun p => by
    by_cases e : p = i
    · subst e
      simp only [enterS]
      have : rowAt (s.rows.set p (srt (rowAt s.rows p))) p = srt (rowAt s.rows p) := by
        unfold rowAt; rw [List.getD_eq_getElem?_getD, List.getElem?_set_self (by rw [hs.rl]; exact hi)]; rfl
      rw [this, srt_len]
    · rw [ke p e]
  have nd : ∀ p, 0 ≤ at0 s.pth p → p ≠ i := fun p hp e => by subst e; omega
  refine ⟨⟨hr.enter (by rw [hs.rl]; exact hi), ⟨by simp only [enterS, List.length_set]; exact hs.rl, hs.pl, by simp only [enterS, List.length_set]; exact hs.ol, fun p => by rw [kl p]; exact hs.r30 p⟩, r, ⟨fun p hp hp0 j hj => ?_, fun p hp hp0 => ?_, fun p hp hp0 => hf.le p hp hp0⟩⟩, ⟨fun p hp hp0 => ⟨rfl, ke p (nd p hp0)⟩, kl⟩⟩
  · rw [ke p (nd p hp0)] at hj
    exact hf.nx p hp hp0 j hj
  · rw [ke p (nd p hp0)]
    exact hf.sm p hp hp0
theorem leave_good {n : Nat} {s : PSt} (hg : PGood n s) {i : Nat} {k : Int} (hi : i < n) (h0 : at0 s.pth i < 0) (hd : ∀ y ∈ rowAt s.rows i, 0 ≤ at0 s.pth y.toNat) (hk : k = base n i + sumP s.pth (rowAt s.rows i)) (hb : k ≤ 31 ^ nDone s.pth ∧ 0 ≤ k) : Fine n i s (leaveS s i k) := by
  obtain ⟨hr, hs, r, hf⟩ := hg
  have ip : i < s.pth.length := by rw [hs.pl]; exact hi
  have nd : ∀ p, 0 ≤ at0 s.pth p → i ≠ p := fun p hp e => by subst e; omega
  have ka : ∀ p, 0 ≤ at0 s.pth p → at0 (s.pth.set i k) p = at0 s.pth p := fun p hp => by rw [at0_set' _ _ _ _ ip, if_neg (nd p hp)]
  have ks : at0 (s.pth.set i k) i = k := by rw [at0_set' _ _ _ _ ip, if_pos rfl]
  have dn := nDone_set s.pth i k ip h0 hb.2
  refine ⟨⟨⟨hr.rg⟩, ⟨hs.rl, by simp only [leaveS, List.length_set]; exact hs.pl, by simp only [leaveS, List.length_set]; exact hs.ol, hs.r30⟩, fun p => if p = i then nDone s.pth else r p, ⟨fun p hp hp0 j hj => ?_, fun p hp hp0 => ?_, fun p hp hp0 => ?_⟩⟩, ⟨fun p hp hp0 => ⟨ka p hp0, rfl⟩, fun _ => rfl⟩, by show 0 ≤ at0 (s.pth.set i k) i; rw [ks]; exact hb.2⟩
  · show 0 ≤ at0 (s.pth.set i k) j.toNat ∧ _
    have hj : j ∈ rowAt s.rows p := hj
    have hj9 := row_mem hr (by rw [hs.rl]; exact hp) j hj
    by_cases e : p = i
    · subst e
      have h1 := hd j hj
      rw [ka _ h1]
      refine ⟨h1, ?_⟩
      rw [if_pos rfl, if_neg (fun e => nd _ h1 e.symm)]
      exact (hf.le _ (by omega) h1).2
    · have hp1 : 0 ≤ at0 s.pth p := by
        have : 0 ≤ at0 (s.pth.set i k) p := hp0
        rwa [at0_set' _ _ _ _ ip, if_neg (fun e2 => e e2.symm)] at this
      have h1 := hf.nx p hp hp1 j hj
      rw [ka _ h1.1]
      refine ⟨h1.1, ?_⟩
      rw [if_neg e, if_neg (fun e => nd _ h1.1 e.symm)]
      exact h1.2
  · show at0 (s.pth.set i k) p = base n p + sumP (s.pth.set i k) (rowAt s.rows p)
    by_cases e : p = i
    · subst e
      rw [ks, sumP_eq (p := s.pth) fun j hj => ka _ (hd j hj)]
      exact hk
    · have hp1 : 0 ≤ at0 s.pth p := by
        have : 0 ≤ at0 (s.pth.set i k) p := hp0
        rwa [at0_set' _ _ _ _ ip, if_neg (fun e2 => e e2.symm)] at this
      rw [ka p hp1, sumP_eq (p := s.pth) fun j hj => ka _ (hf.nx p hp hp1 j hj).1]
      exact hf.sm p hp hp1
  · show at0 (s.pth.set i k) p ≤ 31 ^ (if p = i then nDone s.pth else r p) ∧ (if p = i then nDone s.pth else r p) < nDone (s.pth.set i k)
    rw [dn]
    by_cases e : p = i
    · subst e
      rw [ks, if_pos rfl]
      exact ⟨hb.1, by omega⟩
    · have hp1 : 0 ≤ at0 s.pth p := by
        have : 0 ≤ at0 (s.pth.set i k) p := hp0
        rwa [at0_set' _ _ _ _ ip, if_neg (fun e2 => e e2.symm)] at this
      rw [ka p hp1, if_neg e]
      have := hf.le p hp hp1
      exact ⟨this.1, by omega⟩
theorem cntS_fine {n : Nat} (h12 : n ≤ 12) : ∀ (f : Nat) (s : PSt) (i : Nat) (s' : PSt), i < n → PGood n s → cntS n f s i = some s' → Fine n i s s'
  | 0, s, i, s', _, _, h => by simp [cntS] at h
  | f + 1, s, i, s', hi, hg, h => by
    simp only [cntS] at h
    split at h
    · cases h
    · split at h
      · rename_i h0
        injection h with h
        subst h
        exact ⟨hg, Keeps.refl _ _, h0⟩
      · rename_i h0
        have h0 : at0 s.pth i < 0 := by omega
        have he := enter_good hg hi h0
        obtain ⟨hr, hs, r, hf⟩ := hg
        have hL : (srt (rowAt s.rows i)).length ≤ 30 := by rw [srt_len]; exact hs.r30 i
        have hR : ∀ y ∈ srt (rowAt s.rows i), 0 ≤ y ∧ y < (n : Int) := fun y hy => row_mem hr (by rw [hs.rl]; exact hi) y (srt_mem.1 hy)
        cases hgo : goS (cntS n f) (srt (rowAt s.rows i)) (enterS s i) (if i + 1 = n then 1 else 0) with
        | none => rw [hgo] at h; cases h
        | some p =>
          rw [hgo] at h
          injection h with h
          subst h
          have kin := goS_kin (cntS_kin n f) _ _ _ _ hgo
          have hb : (0 : Int) ≤ base n i ∧ base n i ≤ 1 := by unfold base; split <;> omega
          have H := goS_fine h12 (fun s i s' hi hg h => cntS_fine h12 f s i s' hi hg h) (base n i) hb (srt (rowAt s.rows i)) [] (enterS s i) p (by simpa using hL) (by simpa using hR) he.1 (by simp) (by simpa [sumP, base] using hgo)
          simp only [List.nil_append] at H
          obtain ⟨hg1, hk1, hd1, hs1, hb1⟩ := H
          have hop : (enterS s i).opn.getD i false = true := by
            simp only [enterS]
            rw [open_set, if_pos ⟨rfl, by rw [hs.ol]; exact hi⟩]
          have er : rowAt (enterS s i).rows i = srt (rowAt s.rows i) := by
            simp only [enterS]
            unfold rowAt; rw [List.getD_eq_getElem?_getD, List.getElem?_set_self (by rw [hs.rl]; exact hi)]; rfl
          have e1 := (kin.rk i hop).trans er
          have e2 : at0 p.1.pth i < 0 := by rw [kin.pk i hop]; exact h0
          have L := leave_good hg1 hi e2 (by rw [e1]; exact hd1) (by rw [e1]; exact hs1) hb1
          exact ⟨L.1, he.2.trans (hk1.trans L.2.1), L.2.2⟩
end Go.Proofs.YtkiljnggphlomaaDoor
