/- Tours as mathematics: who is reached; where as many go as come, all sources are reached just if they are in the edges turned round; what the search leaves. No program in sight. No conditions. -/
import Derived.Test.YtkiljnggphlomaaDoorFlm
namespace Go.Proofs.YtkiljnggphlomaaDoor
inductive Rch (l : EdgeL) : Int → Prop
  | zero : Rch l 0
  | step {u v : Int} : Rch l u → (u, v) ∈ l → Rch l v
def turn (l : EdgeL) : EdgeL := l.map fun e => (e.2, e.1)
theorem turn_turn (l : EdgeL) : turn (turn l) = l := by
  unfold turn; rw [List.map_map]; conv => rhs; rw [← List.map_id l]
  rfl
theorem mem_turn {l : EdgeL} {u v : Int} : (u, v) ∈ turn l ↔ (v, u) ∈ l := by
  unfold turn
  rw [List.mem_map]
  constructor
  · rintro ⟨⟨a, b⟩, h, e⟩; simp only [Prod.mk.injEq] at e; rw [← e.1, ← e.2]; exact h
  · intro h; exact ⟨(v, u), h, rfl⟩
def conn (l : EdgeL) : Prop := ∀ e ∈ l, Rch l e.1
def outN (l : EdgeL) (i : Nat) : Nat := (l.filter fun e => decide (e.1 = (i : Int))).length
def offAt (l : EdgeL) (i : Nat) : Int := (outN l i : Int) - (outN (turn l) i : Int)
theorem outN_turn (l : EdgeL) (i : Nat) : outN (turn l) i = (l.filter fun e => decide (e.2 = (i : Int))).length := by
  unfold outN turn; rw [List.filter_map, List.length_map]; rfl
theorem offAt_turn (l : EdgeL) (i : Nat) : offAt (turn l) i = - offAt l i := by unfold offAt; rw [turn_turn]; omega
def sumR (f : Nat → Nat) : Nat → Nat
  | 0 => 0
  | n + 1 => sumR f n + f n
theorem sumR_congr {f g : Nat → Nat} : ∀ n, (∀ i, i < n → f i = g i) → sumR f n = sumR g n
  | 0, _ => rfl
  | n + 1, h => by simp only [sumR]; rw [sumR_congr n fun i hi => h i (by omega), h n (by omega)]
theorem sumR_add (f g : Nat → Nat) : ∀ n, sumR (fun i => f i + g i) n = sumR f n + sumR g n
  | 0 => rfl
  | n + 1 => by simp only [sumR]; rw [sumR_add f g n]; omega
theorem sumR_zero : ∀ n, sumR (fun _ => 0) n = 0
  | 0 => rfl
  | n + 1 => by simp only [sumR]; rw [sumR_zero n]
theorem sumR_one (c k : Nat) : ∀ n, k < n → sumR (fun i => if k = i then c else 0) n = c
  | 0, h => by omega
  | n + 1, h => by
    simp only [sumR]
    by_cases e : k = n
    · subst e
      rw [if_pos rfl, sumR_congr k (g := fun _ => 0) fun i hi => if_neg (by omega), sumR_zero]; omega
    · rw [if_neg e, sumR_one c k n (by omega)]; rfl
theorem sumR_pos {f : Nat → Nat} : ∀ n, sumR f n = 0 → ∀ i, i < n → f i = 0
  | 0, _, i, h => by omega
  | n + 1, h, i, hi => by
    simp only [sumR] at h
    by_cases e : i = n
    · subst e; omega
    · exact sumR_pos n (by omega) i (by omega)
theorem cnt_src (s : Int → Bool) (n : Nat) : ∀ l : EdgeL, (∀ e ∈ l, 0 ≤ e.1 ∧ e.1 < (n : Int)) → (l.filter fun e => s e.1).length = sumR (fun i => if s (i : Int) = true then outN l i else 0) n
  | [], _ => by
    simp only [List.filter_nil, List.length_nil, outN]
    rw [sumR_congr n (g := fun _ => 0) fun i _ => by split <;> rfl, sumR_zero]
  | e :: l, h => by
    have ih := cnt_src s n l fun x hx => h x (by simp [hx])
    have he := h e (by simp)
    obtain ⟨k, hk⟩ : ∃ k : Nat, e.1 = (k : Int) := ⟨e.1.toNat, by omega⟩
    have hkn : k < n := by omega
    have hout : ∀ i, outN (e :: l) i = outN l i + (if k = i then 1 else 0) := fun i => by
      unfold outN
      rw [List.filter_cons, hk]
      by_cases hki : k = i
      · subst hki; simp
      · have hc : ¬ ((k : Int) = (i : Int)) := by omega
        simp [hki, hc]
    have hf : sumR (fun i => if s (i : Int) = true then outN (e :: l) i else 0) n = sumR (fun i => (if s (i : Int) = true then outN l i else 0) + (if k = i then (if s (k : Int) = true then 1 else 0) else 0)) n := by
      refine sumR_congr n fun i _ => ?_
      rw [hout]
      by_cases hki : k = i
      · subst hki; split <;> simp [*]
      · simp [hki]
    rw [hf, sumR_add, ← ih, sumR_one _ k n hkn, List.filter_cons, hk]
    by_cases hs : s (k : Int) = true <;> simp [hs]
theorem filter_eq_of_len {p q : Int × Int → Bool} : ∀ l : EdgeL, (∀ e ∈ l, q e = true → p e = true) → (l.filter p).length = (l.filter q).length → ∀ e ∈ l, p e = true → q e = true
  | [], _, _, e, he, _ => by simp at he
  | x :: l, h, hl, e, he, hp => by
    have mono : (l.filter q).length ≤ (l.filter p).length := by
      clear hl he hp e
      induction l with
      | nil => simp
      | cons y l ih =>
        have := ih fun z hz => h z (by simp at hz ⊢; rcases hz with h1 | h1 <;> simp [h1])
        rw [List.filter_cons, List.filter_cons]
        have hy := h y (by simp)
        by_cases hq : q y = true
        · rw [if_pos hq, if_pos (hy hq)]; simp; omega
        · rw [if_neg hq]; split <;> simp <;> omega
    have hx := h x (by simp)
    rw [List.filter_cons, List.filter_cons] at hl
    by_cases hq : q x = true
    · rw [if_pos hq, if_pos (hx hq)] at hl
      rcases List.mem_cons.1 he with rfl | he
      · exact hq
      · exact filter_eq_of_len l (fun z hz => h z (by simp [hz])) (by simpa using hl) e he hp
    · rw [if_neg hq] at hl
      by_cases hpx : p x = true
      · rw [if_pos hpx] at hl; simp at hl; omega
      · rw [if_neg hpx] at hl
        rcases List.mem_cons.1 he with rfl | he
        · exact absurd hp hpx
        · exact filter_eq_of_len l (fun z hz => h z (by simp [hz])) hl e he hp
theorem conn_turn {l : EdgeL} {n : Nat} (hr : ∀ e ∈ l, (0 ≤ e.1 ∧ e.1 < (n : Int)) ∧ 0 ≤ e.2 ∧ e.2 < (n : Int)) (hb : ∀ i, i < n → offAt l i = 0) (hc : conn l) : conn (turn l) := by
  classical
  let s : Int → Bool := fun v => decide (Rch (turn l) v)
  have h1 := cnt_src s n l fun e he => (hr e he).1
  have h2 := cnt_src s n (turn l) fun e he => by
    obtain ⟨a, b⟩ := e
    exact (hr _ (mem_turn.1 he)).2
  have h3 : ((turn l).filter fun e => s e.1).length = (l.filter fun e => s e.2).length := by
    unfold turn; rw [List.filter_map, List.length_map]; rfl
  have h4 : sumR (fun i => if s (i : Int) = true then outN l i else 0) n = sumR (fun i => if s (i : Int) = true then outN (turn l) i else 0) n := by
    refine sumR_congr n fun i hi => ?_
    have := hb i hi
    unfold offAt at this
    rw [show outN l i = outN (turn l) i by omega]
  have h5 : (l.filter fun e => s e.1).length = (l.filter fun e => s e.2).length := by rw [h1, h4, ← h2, h3]
  have hin : ∀ e ∈ l, s e.2 = true → s e.1 = true := fun e he h => by
    have h := of_decide_eq_true h
    exact decide_eq_true (Rch.step h (mem_turn.2 he))
  have hout := filter_eq_of_len l hin h5
  have hsub : ∀ v, Rch l v → s v = true := fun v hv => by
    induction hv with
    | zero => exact decide_eq_true Rch.zero
    | step _ he ih => exact hout _ he ih
  intro e he
  obtain ⟨a, b⟩ := e
  have hm := mem_turn.1 he
  exact of_decide_eq_true (hout _ hm (hsub _ (hc _ hm)))
def tgt (l : EdgeL) (i : Nat) : List Int := (l.filter fun e => decide (e.1 = (i : Int))).map (·.2)
theorem tgt_mem {l : EdgeL} {i : Nat} {y : Int} : y ∈ tgt l i ↔ ((i : Int), y) ∈ l := by
  unfold tgt
  simp only [List.mem_map, List.mem_filter, decide_eq_true_eq]
  constructor
  · rintro ⟨⟨a, b⟩, ⟨h, rfl⟩, rfl⟩; exact h
  · intro h; exact ⟨_, ⟨h, rfl⟩, rfl⟩
theorem tgt_len (l : EdgeL) (i : Nat) : (tgt l i).length = outN l i := by unfold tgt outN; rw [List.length_map]
theorem sum_out {l : EdgeL} {n : Nat} (hr : ∀ e ∈ l, 0 ≤ e.1 ∧ e.1 < (n : Int)) : sumR (fun i => outN l i) n = l.length := by
  have h := cnt_src (fun _ => true) n l hr
  simp only [if_true] at h
  rw [← h]; simp
/-- the search: rows of what is not gone, the stack, what is told -/
structure TInv (l : EdgeL) (n : Nat) (rows : List (List Int)) (st out : List Int) : Prop where
  len : rows.length = n
  pre : ∀ i, i < n → ∃ rest, tgt l i = rows.getD i [] ++ rest ∧ (∀ y ∈ rest, y ∈ st ∨ y ∈ out) ∧ (rest ≠ [] → (i : Int) ∈ st ∨ (i : Int) ∈ out)
  done : ∀ x ∈ out, rows.getD x.toNat [] = []
  rng : ∀ x, (x ∈ st ∨ x ∈ out) → 0 ≤ x ∧ x < (n : Int)
  rch : ∀ x, (x ∈ st ∨ x ∈ out) → Rch l x
  tot : out.length + st.length + sumR (fun i => (rows.getD i []).length) n = l.length + 1
  zero : (0 : Int) ∈ st ∨ (0 : Int) ∈ out
section
variable {l : EdgeL} {n : Nat} {rows : List (List Int)} {st out : List Int}
theorem TInv.start (hn : 0 < n) (hr : ∀ e ∈ l, 0 ≤ e.1 ∧ e.1 < (n : Int)) (hl : rows.length = n) (he : ∀ i, i < n → rows.getD i [] = tgt l i) : TInv l n rows [0] [] :=
  ⟨hl, fun i hi => ⟨[], by rw [he i hi]; simp, by simp, by simp⟩, by simp, fun x hx => by simp at hx; subst hx; omega, fun x hx => by simp at hx; subst hx; exact Rch.zero, by
    rw [sumR_congr n (g := fun i => outN l i) fun i hi => by rw [he i hi, tgt_len], sum_out hr]; simp; omega, by simp⟩
theorem getD_set (rows : List (List Int)) (i j : Nat) (x : List Int) (hi : i < rows.length) : (rows.set i x).getD j [] = if i = j then x else rows.getD j [] := by
  rw [List.getD_eq_getElem?_getD, List.getD_eq_getElem?_getD, List.getElem?_set]
  by_cases e : i = j
  · subst e; simp [hi]
  · simp [e]
theorem TInv.push {i : Nat} {r : List Int} {y : Int} (h : TInv l n rows (st ++ [(i : Int)]) out) (hrow : rows.getD i [] = r ++ [y]) (hy : 0 ≤ y ∧ y < (n : Int)) : TInv l n (rows.set i r) (st ++ [(i : Int)] ++ [y]) out := by
  have hi : i < n := by have := h.rng i (.inl (by simp)); omega
  have hil : i < rows.length := by rw [h.len]; exact hi
  obtain ⟨rest, e1, e2, e3⟩ := h.pre i hi
  have hye : ((i : Int), y) ∈ l := tgt_mem.1 (by rw [e1, hrow]; simp)
  have hry : Rch l y := Rch.step (h.rch i (.inl (by simp))) hye
  refine ⟨by rw [List.length_set]; exact h.len, fun j hj => ?_, fun x hx => ?_, fun x hx => ?_, fun x hx => ?_, ?_, ?_⟩
  · rw [getD_set rows i j r hil]
    by_cases e : i = j
    · subst e
      rw [if_pos rfl]
      refine ⟨y :: rest, by rw [e1, hrow]; simp, fun z hz => ?_, fun _ => .inl (by simp)⟩
      rcases List.mem_cons.1 hz with rfl | hz
      · exact .inl (by simp)
      · rcases e2 z hz with h1 | h1
        · exact .inl (by rw [List.mem_append]; exact .inl h1)
        · exact .inr h1
    · rw [if_neg e]
      obtain ⟨rest, f1, f2, f3⟩ := h.pre j hj
      refine ⟨rest, f1, fun z hz => ?_, fun hne => ?_⟩
      · rcases f2 z hz with h1 | h1
        · exact .inl (by rw [List.mem_append]; exact .inl h1)
        · exact .inr h1
      · rcases f3 hne with h1 | h1
        · exact .inl (by rw [List.mem_append]; exact .inl h1)
        · exact .inr h1
  · rw [getD_set rows i _ r hil]
    have hd := h.done x hx
    by_cases e : i = x.toNat
    · rw [← e, hrow] at hd; simp at hd
    · rw [if_neg e]; exact hd
  · rw [List.mem_append] at hx
    rcases hx with (hx | hx) | hx
    · exact h.rng x (.inl hx)
    · simp at hx; subst hx; exact hy
    · exact h.rng x (.inr hx)
  · rw [List.mem_append] at hx
    rcases hx with (hx | hx) | hx
    · exact h.rch x (.inl hx)
    · simp at hx; subst hx; exact hry
    · exact h.rch x (.inr hx)
  · have ht := h.tot
    have hs : sumR (fun j => (rows.getD j []).length) n = sumR (fun j => ((rows.set i r).getD j []).length + (if i = j then 1 else 0)) n := by
      refine sumR_congr n fun j _ => ?_
      rw [getD_set rows i j r hil]
      by_cases e : i = j
      · subst e; rw [if_pos rfl, if_pos rfl, hrow]; simp
      · rw [if_neg e, if_neg e]; rfl
    rw [hs, sumR_add, sumR_one 1 i n hi] at ht
    simp only [List.length_append, List.length_singleton] at ht ⊢
    omega
  · rcases h.zero with h1 | h1
    · exact .inl (by rw [List.mem_append]; exact .inl h1)
    · exact .inr h1
theorem TInv.pop {i : Nat} (h : TInv l n rows (st ++ [(i : Int)]) out) (hrow : rows.getD i [] = []) : TInv l n rows st (out ++ [(i : Int)]) := by
  have mv : ∀ x : Int, (x ∈ st ++ [(i : Int)] ∨ x ∈ out) → (x ∈ st ∨ x ∈ out ++ [(i : Int)]) := fun x hx => by
    rcases hx with hx | hx
    · rw [List.mem_append] at hx
      rcases hx with hx | hx
      · exact .inl hx
      · exact .inr (by rw [List.mem_append]; exact .inr hx)
    · exact .inr (by rw [List.mem_append]; exact .inl hx)
  have mb : ∀ x : Int, (x ∈ st ∨ x ∈ out ++ [(i : Int)]) → (x ∈ st ++ [(i : Int)] ∨ x ∈ out) := fun x hx => by
    rcases hx with hx | hx
    · exact .inl (by rw [List.mem_append]; exact .inl hx)
    · rw [List.mem_append] at hx
      rcases hx with hx | hx
      · exact .inr hx
      · exact .inl (by rw [List.mem_append]; exact .inr hx)
  refine ⟨h.len, fun j hj => ?_, fun x hx => ?_, fun x hx => h.rng x (mb x hx), fun x hx => h.rch x (mb x hx), ?_, mv 0 h.zero⟩
  · obtain ⟨rest, f1, f2, f3⟩ := h.pre j hj
    exact ⟨rest, f1, fun z hz => mv z (f2 z hz), fun hne => mv _ (f3 hne)⟩
  · rw [List.mem_append] at hx
    rcases hx with hx | hx
    · exact h.done x hx
    · simp at hx; subst hx; simpa using hrow
  · have ht := h.tot
    simp only [List.length_append, List.length_singleton] at ht ⊢
    omega
/-- at the end all edges are gone just if all sources are reached -/
theorem TInv.fin (h : TInv l n rows [] out) (hr : ∀ e ∈ l, 0 ≤ e.1 ∧ e.1 < (n : Int)) : out.length = l.length + 1 ↔ conn l := by
  have ht := h.tot
  simp only [List.length_nil, Nat.add_zero] at ht
  have zero : (0 : Int) ∈ out := by rcases h.zero with h1 | h1; simp at h1; exact h1
  constructor
  · intro ho e he
    have hs := sumR_pos n (show sumR (fun i => (rows.getD i []).length) n = 0 by omega)
    obtain ⟨a, b⟩ := e
    obtain ⟨i, rfl⟩ : ∃ i : Nat, a = i := ⟨a.toNat, by have := hr _ he; simp only at this; omega⟩
    have hi : i < n := by have := hr _ he; simp only at this; omega
    obtain ⟨rest, f1, _, f3⟩ := h.pre i hi
    have h0 := List.eq_nil_of_length_eq_zero (hs i hi)
    rw [h0, List.nil_append] at f1
    have hne : rest ≠ [] := fun e => by
      have := tgt_mem.2 he
      rw [f1, e] at this; simp at this
    exact h.rch _ (f3 hne)
  · intro hc
    have vis : ∀ x, Rch l x → x ∈ out := fun x hx => by
      induction hx with
      | zero => exact zero
      | @step u v _ he ih =>
        have hu := h.rng u (.inr ih)
        obtain ⟨i, rfl⟩ : ∃ i : Nat, u = i := ⟨u.toNat, by omega⟩
        obtain ⟨rest, f1, f2, _⟩ := h.pre i (by omega)
        have hd := h.done _ ih
        rw [Int.toNat_natCast] at hd
        rw [hd, List.nil_append] at f1
        have := f2 v (by rw [← f1]; exact tgt_mem.2 he)
        rcases this with h1 | h1
        · simp at h1
        · exact h1
    have hz : sumR (fun i => (rows.getD i []).length) n = 0 := by
      rw [sumR_congr n (g := fun _ => 0) fun i hi => ?_, sumR_zero]
      obtain ⟨rest, f1, _, _⟩ := h.pre i hi
      by_cases hne : tgt l i = []
      · rw [hne] at f1
        rw [(List.append_eq_nil_iff.1 f1.symm).1]; rfl
      · obtain ⟨y, hy⟩ := List.exists_mem_of_ne_nil _ hne
        have hv := vis _ (hc _ (tgt_mem.1 hy))
        have hd := h.done _ hv
        simp only [Int.toNat_natCast] at hd
        rw [hd]; rfl
    omega
end
end Go.Proofs.YtkiljnggphlomaaDoor
