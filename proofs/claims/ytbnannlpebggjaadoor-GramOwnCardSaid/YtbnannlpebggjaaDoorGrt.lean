/- The first word that a name makes: gram.Short as a function, and why it ends. No program in sight. No conditions. -/
import Derived.Test.YtbnannlpebggjaaDoorGra
import Derived.Test.YtbnannlpebggjaaDoorRcy
namespace Go.Proofs.YtbnannlpebggjaaDoor
open Go.RowKit
abbrev Sh := List (List Int) × List Bool
def sAt (s : List Bool) (k : Nat) : Bool := s.getD k false
def pieceW (best : List (List Int)) (x : Int) : List Int := if x < 0 then rowAt best (-1 - x).toNat else [x]
/-- the word of a rule -/
def sumR (best : List (List Int)) (r : List Int) : List Int := r.flatMap (pieceW best)
def lackB (s : List Bool) (x : Int) : Bool := decide (x < 0) && !sAt s (-1 - x).toNat
def betterB (st : Sh) (k : Nat) (r : List Int) : Bool := !sAt st.2 k || tlessB (sumR st.1 r) (rowAt st.1 k)
def shStep (st : Sh × Bool) (k : Nat) (r : List Int) : Sh × Bool := if r.any (lackB st.1.2) then st else if betterB st.1 k r then ((st.1.1.set k (sumR st.1.1 r), st.1.2.set k true), true) else st
def shR (rules : List (List Int)) (k : Nat) (st : Sh × Bool) : Nat → Sh × Bool
  | 0 => st
  | m + 1 => shStep (shR rules k st m) k (rowAt rules m)
def shG (g : Gr) (st : Sh × Bool) : Nat → Sh × Bool
  | 0 => st
  | m + 1 => shR (gAt g m) m (shG g st m) (gAt g m).length
def shIter (g : Gr) : Nat → Sh → Sh
  | 0, st => st
  | n + 1, st => if (shG g (st, false) g.length).2 then shIter g n (shG g (st, false) g.length).1 else (shG g (st, false) g.length).1
/-- more than the rank of any word that may come -/
def bigP (n : Nat) : Nat := 1002 ^ n
theorem bigP_le {a b : Nat} (h : a ≤ b) : bigP a ≤ bigP b := Nat.pow_le_pow_right (by omega) h
def bigR : Nat := bigP 1025
def muS : List (List Int) → List Bool → Nat
  | b :: bs, s :: ss => (if s then rkT b else bigR) + muS bs ss
  | _, _ => 0
theorem rk_big {l : List Int} (h : l.length ≤ 1024) (hz : ∀ z ∈ l, 0 ≤ z ∧ z ≤ 1000) : rkT l < bigR := by
  have h1 : rkT l < bigP l.length := rk_hi l hz
  exact Nat.lt_of_lt_of_le h1 (bigP_le (Nat.le_trans h (by decide)))
theorem muS_set : ∀ (bs : List (List Int)) (ss : List Bool) (k : Nat) (w : List Int), k < bs.length → k < ss.length → muS (bs.set k w) (ss.set k true) + (if sAt ss k then rkT (rowAt bs k) else bigR) = muS bs ss + rkT w
  | [], _, _, _, h, _ => by simp at h
  | _ :: _, [], _, _, _, h => by simp at h
  | b :: bs, s :: ss, 0, w, _, _ => by
    have e1 : muS (w :: bs) (true :: ss) = rkT w + muS bs ss := rfl
    have e2 : muS (b :: bs) (s :: ss) = (if s then rkT b else bigR) + muS bs ss := rfl
    have e3 : sAt (s :: ss) 0 = s := rfl
    have e4 : rowAt (b :: bs) 0 = b := rfl
    rw [List.set_cons_zero, List.set_cons_zero, e1, e2, e3, e4]
    omega
  | b :: bs, s :: ss, k + 1, w, h1, h2 => by
    have := muS_set bs ss k w (by simpa using h1) (by simpa using h2)
    have e1 : muS (b :: bs.set k w) (s :: ss.set k true) = (if s then rkT b else bigR) + muS (bs.set k w) (ss.set k true) := rfl
    have e2 : muS (b :: bs) (s :: ss) = (if s then rkT b else bigR) + muS bs ss := rfl
    have e3 : sAt (s :: ss) (k + 1) = sAt ss k := rfl
    have e4 : rowAt (b :: bs) (k + 1) = rowAt bs k := rfl
    rw [List.set_cons_succ, List.set_cons_succ, e1, e2, e3, e4]
    omega
/-- so many names have a word; each word is short, of right letters -/
structure ShOk (n : Nat) (st : Sh) : Prop where
  b : st.1.length = n
  s : st.2.length = n
  len : ∀ k, k < n → (rowAt st.1 k).length ≤ 4 ^ st.2.count true
  let_ : ∀ k, k < n → ∀ z ∈ rowAt st.1 k, 0 ≤ z ∧ z ≤ 2
theorem cnt_le (s : List Bool) : s.count true ≤ s.length := List.count_le_length
theorem set_cntT : ∀ (o : List Bool) (i : Nat), o[i]? = some false → (o.set i true).count true = o.count true + 1
  | [], i, h => by simp at h
  | b :: r, 0, h => by simp at h; subst h; simp
  | b :: r, i + 1, h => by
    have := set_cntT r i (by simpa using h)
    rw [List.set_cons_succ, List.count_cons, List.count_cons]
    omega
theorem set_hadT : ∀ (o : List Bool) (i : Nat), o[i]? = some true → o.set i true = o
  | [], i, h => by simp at h
  | b :: r, 0, h => by simp at h; subst h; simp
  | b :: r, i + 1, h => by rw [List.set_cons_succ, set_hadT r i (by simpa using h)]
theorem sAt_get {s : List Bool} {k : Nat} (h : k < s.length) : s[k]? = some (sAt s k) := by unfold sAt; rw [List.getD_eq_getElem?_getD, List.getElem?_eq_getElem h]; rfl
theorem rowAt_set {l : List (List Int)} {k j : Nat} {w : List Int} (hk : k < l.length) : rowAt (l.set k w) j = if k = j then w else rowAt l j := by
  unfold rowAt
  rw [List.getD_eq_getElem?_getD, List.getD_eq_getElem?_getD, List.getElem?_set]
  by_cases h : k = j
  · subst h; simp [hk]
  · simp [h]
theorem ShOk.small {n : Nat} {st : Sh} (h : ShOk n st) (hn : n ≤ 5) {k : Nat} (hk : k < n) : (rowAt st.1 k).length ≤ 1024 := by
  have h1 := h.len k hk
  have h2 := cnt_le st.2
  have h3 : 4 ^ st.2.count true ≤ 4 ^ 5 := Nat.pow_le_pow_right (by omega) (by have := h.s; omega)
  exact Nat.le_trans h1 h3
structure RuleOk (n : Nat) (r : List Int) : Prop where
  len : r.length ≤ 4
  sym : ∀ x ∈ r, -(n : Int) ≤ x ∧ x ≤ 2
theorem piece_len {n : Nat} {st : Sh} (h : ShOk n st) {x : Int} (hx : -(n : Int) ≤ x) : (pieceW st.1 x).length ≤ 4 ^ st.2.count true := by
  unfold pieceW
  by_cases h0 : x < 0
  · rw [if_pos h0]; exact h.len _ (by omega)
  · rw [if_neg h0]
    have : 1 ≤ 4 ^ st.2.count true := Nat.pow_pos (by omega)
    simpa using this
theorem piece_let {n : Nat} {st : Sh} (h : ShOk n st) {x : Int} (hx : -(n : Int) ≤ x ∧ x ≤ 2) : ∀ z ∈ pieceW st.1 x, 0 ≤ z ∧ z ≤ 2 := by
  unfold pieceW
  by_cases h0 : x < 0
  · rw [if_pos h0]; exact h.let_ _ (by omega)
  · rw [if_neg h0]; intro z hz; simp at hz; subst hz; omega
theorem sum_len {n : Nat} {st : Sh} (h : ShOk n st) : ∀ {r : List Int}, (∀ x ∈ r, -(n : Int) ≤ x ∧ x ≤ 2) → (sumR st.1 r).length ≤ r.length * 4 ^ st.2.count true
  | [], _ => by simp [sumR]
  | x :: r, hr => by
    have h1 := piece_len h (hr x (by simp)).1
    have h2 := sum_len h (r := r) fun y hy => hr y (by simp [hy])
    unfold sumR at h2 ⊢
    rw [List.flatMap_cons, List.length_append, List.length_cons, Nat.add_mul]
    omega
theorem sum_let {n : Nat} {st : Sh} (h : ShOk n st) {r : List Int} (hr : ∀ x ∈ r, -(n : Int) ≤ x ∧ x ≤ 2) : ∀ z ∈ sumR st.1 r, 0 ≤ z ∧ z ≤ 2 := fun z hz => by
  unfold sumR at hz
  obtain ⟨x, hx, hz⟩ := List.mem_flatMap.1 hz
  exact piece_let h (hr x hx) z hz
theorem sum_small {n : Nat} {st : Sh} (h : ShOk n st) (hn : n ≤ 5) {r : List Int} (hr : RuleOk n r) : (sumR st.1 r).length ≤ 4096 := by
  have h1 := sum_len h hr.sym
  have h2 := cnt_le st.2
  have h3 : 4 ^ st.2.count true ≤ 4 ^ 5 := Nat.pow_le_pow_right (by omega) (by have := h.s; omega)
  have h4 : r.length * 4 ^ st.2.count true ≤ 4 * 4 ^ 5 := Nat.mul_le_mul hr.len h3
  exact Nat.le_trans h1 h4
/-- a word is found: all stays right, and what is left is less -/
theorem sh_found {n k : Nat} {st : Sh} (h : ShOk n st) (hn : n ≤ 5) (hk : k < n) {r : List Int} (hr : RuleOk n r) (hb : betterB st k r = true) : ShOk n (st.1.set k (sumR st.1 r), st.2.set k true) ∧ muS (st.1.set k (sumR st.1 r)) (st.2.set k true) < muS st.1 st.2 := by
  have hkb : k < st.1.length := by rw [h.b]; exact hk
  have hks : k < st.2.length := by rw [h.s]; exact hk
  have e1 := sAt_get hks
  have hl := sum_len h hr.sym
  have hz := sum_let h hr.sym
  have p1 : 1 ≤ 4 ^ st.2.count true := Nat.pow_pos (by omega)
  have hcl := cnt_le st.2
  have hcl2 := cnt_le (st.2.set k true)
  rw [List.length_set] at hcl2
  have hsn := h.s
  have L : (sumR st.1 r).length ≤ 4 ^ (st.2.set k true).count true ∧ (∀ j, j < n → (rowAt st.1 j).length ≤ 4 ^ (st.2.set k true).count true) := by
    cases hs : sAt st.2 k with
    | true =>
      rw [hs] at e1
      rw [set_hadT _ _ e1]
      refine ⟨?_, h.len⟩
      unfold betterB at hb
      rw [hs] at hb
      have hb2 : tlessB (sumR st.1 r) (rowAt st.1 k) = true := by simpa using hb
      have h5 := h.len k hk
      unfold tlessB at hb2
      split at hb2
      · rename_i e; omega
      · have := of_decide_eq_true hb2; omega
    | false =>
      rw [hs] at e1
      rw [set_cntT _ _ e1, Nat.pow_succ]
      refine ⟨?_, fun j hj => ?_⟩
      · have : r.length * 4 ^ st.2.count true ≤ 4 * 4 ^ st.2.count true := Nat.mul_le_mul_right _ hr.len
        omega
      · have := h.len j hj; omega
  have small : (sumR st.1 r).length ≤ 1024 := by
    have h3 : 4 ^ (st.2.set k true).count true ≤ 4 ^ 5 := Nat.pow_le_pow_right (by omega) (by omega)
    exact Nat.le_trans L.1 h3
  refine ⟨⟨by rw [List.length_set]; exact h.b, by rw [List.length_set]; exact h.s, fun j hj => ?_, fun j hj => ?_⟩, ?_⟩
  · show (rowAt (st.1.set k (sumR st.1 r)) j).length ≤ _
    rw [rowAt_set hkb]
    by_cases e : k = j
    · rw [if_pos e]; exact L.1
    · rw [if_neg e]; exact L.2 j hj
  · show ∀ z ∈ rowAt (st.1.set k (sumR st.1 r)) j, _
    rw [rowAt_set hkb]
    by_cases e : k = j
    · rw [if_pos e]; exact hz
    · rw [if_neg e]; exact h.let_ j hj
  · have hm := muS_set st.1 st.2 k (sumR st.1 r) hkb hks
    have w1000 : ∀ z ∈ sumR st.1 r, 0 ≤ z ∧ z ≤ 1000 := fun z hz' => by have := hz z hz'; omega
    cases hs : sAt st.2 k with
    | true =>
      unfold betterB at hb
      rw [hs] at hb
      have hb2 : tlessB (sumR st.1 r) (rowAt st.1 k) = true := by simpa using hb
      have := rk_less w1000 (fun z hz' => by have := h.let_ k hk z hz'; omega) hb2
      rw [hs, if_pos rfl] at hm
      omega
    | false =>
      have := rk_big small w1000
      rw [hs, if_neg (by decide)] at hm
      omega
def ShLe (n : Nat) (a b : Sh × Bool) : Prop := ShOk n b.1 ∧ muS b.1.1 b.1.2 ≤ muS a.1.1 a.1.2 ∧ (b.2 = true → a.2 = true ∨ muS b.1.1 b.1.2 < muS a.1.1 a.1.2)
theorem ShLe.refl {n : Nat} {a : Sh × Bool} (h : ShOk n a.1) : ShLe n a a := ⟨h, Nat.le_refl _, fun h => .inl h⟩
theorem ShLe.trans {n : Nat} {a b c : Sh × Bool} (h : ShLe n a b) (k : ShLe n b c) : ShLe n a c := ⟨k.1, Nat.le_trans k.2.1 h.2.1, fun e => by
  have h2 := h.2.1
  have k2 := k.2.1
  rcases k.2.2 e with e | e
  · rcases h.2.2 e with e | e
    · exact .inl e
    · exact .inr (by omega)
  · exact .inr (by omega)⟩
theorem shStep_le {n k : Nat} {st : Sh × Bool} (h : ShOk n st.1) (hn : n ≤ 5) (hk : k < n) {r : List Int} (hr : RuleOk n r) : ShLe n st (shStep st k r) := by
  unfold shStep
  split
  · exact ShLe.refl h
  · split
    · rename_i hb
      obtain ⟨h1, h2⟩ := sh_found h hn hk hr hb
      exact ⟨h1, Nat.le_of_lt h2, fun _ => .inr h2⟩
    · exact ShLe.refl h
theorem shR_le {n k : Nat} {rules : List (List Int)} {st : Sh × Bool} (h : ShOk n st.1) (hn : n ≤ 5) (hk : k < n) (hr : ∀ i, i < rules.length → RuleOk n (rowAt rules i)) : ∀ m, m ≤ rules.length → ShLe n st (shR rules k st m)
  | 0, _ => ShLe.refl h
  | m + 1, hm => by
    have h1 := shR_le h hn hk hr m (by omega)
    exact h1.trans (shStep_le h1.1 hn hk (hr m (by omega)))
theorem gram_rule {g : Gr} (hg : GramOk g) {m : Nat} (hm : m < g.length) : ∀ i, i < (gAt g m).length → RuleOk g.length (rowAt (gAt g m) i) := fun i hi => ⟨hg.len m hm i hi, hg.sym m hm i hi⟩
theorem shG_le {g : Gr} {st : Sh × Bool} (hg : GramOk g) (h : ShOk g.length st.1) : ∀ m, m ≤ g.length → ShLe g.length st (shG g st m)
  | 0, _ => ShLe.refl h
  | m + 1, hm => by
    have h1 := shG_le hg h m (by omega)
    exact h1.trans (shR_le h1.1 hg.hi (by omega) (gram_rule hg (by omega)) _ (Nat.le_refl _))
def sh0 (n : Nat) : Sh := (List.replicate n [], List.replicate n false)
/-- where it ends -/
def shFin (g : Gr) : Sh := shIter g (muS (sh0 g.length).1 (sh0 g.length).2 + 1) (sh0 g.length)
def ShInv (g : Gr) (fin st : Sh) (ch : Bool) : Prop := ShOk g.length st ∧ if ch then ∃ f, muS st.1 st.2 < f ∧ fin = shIter g f st else fin = st
theorem shOk0 (n : Nat) : ShOk n (sh0 n) := ⟨by simp [sh0], by simp [sh0], fun k hk => by simp [sh0, rowAt, List.getD_eq_getElem?_getD, hk], fun k hk z hz => by simp [sh0, rowAt, List.getD_eq_getElem?_getD, hk] at hz⟩
theorem shInv_start (g : Gr) : ShInv g (shFin g) (sh0 g.length) true := ⟨shOk0 _, by rw [if_pos rfl]; exact ⟨_, Nat.lt_succ_self _, rfl⟩⟩
theorem shInv_step {g : Gr} {fin st : Sh} (hg : GramOk g) (h : ShInv g fin st true) : ShInv g fin (shG g (st, false) g.length).1 (shG g (st, false) g.length).2 ∧ ((shG g (st, false) g.length).2 = true → muS (shG g (st, false) g.length).1.1 (shG g (st, false) g.length).1.2 < muS st.1 st.2) := by
  obtain ⟨h1, h2⟩ := h
  rw [if_pos rfl] at h2
  obtain ⟨f, h3, h4⟩ := h2
  have L := shG_le (st := (st, false)) hg h1 g.length (Nat.le_refl _)
  have L3 : (shG g (st, false) g.length).2 = true → muS (shG g (st, false) g.length).1.1 (shG g (st, false) g.length).1.2 < muS st.1 st.2 := fun e => by
    rcases L.2.2 e with e | e
    · cases e
    · exact e
  refine ⟨⟨L.1, ?_⟩, L3⟩
  match f, h3, h4 with
  | f + 1, h3, h4 =>
    rw [shIter] at h4
    cases hc : (shG g (st, false) g.length).2 with
    | true =>
      rw [hc, if_pos rfl] at h4
      rw [if_pos rfl]
      exact ⟨f, by have := L3 hc; omega, h4⟩
    | false =>
      rw [hc] at h4
      simpa using h4
def shortE (g : Gr) (i : Int) : Int := if gramE g ≠ 0 then gramE g else if i < 0 ∨ (g.length : Int) ≤ i then 1 else if sAt (shFin g).2 i.toNat = false then 2 else if 1000 < (rowAt (shFin g).1 i.toNat).length then 4 else 0
def shortF (g : Gr) (i : Int) : List Int := if shortE g i = 0 then rowAt (shFin g).1 i.toNat else []
end Go.Proofs.YtbnannlpebggjaaDoor
