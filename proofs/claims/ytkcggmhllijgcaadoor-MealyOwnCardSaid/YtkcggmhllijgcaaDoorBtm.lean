/- The first word that tells two states of two machines apart, and the search in breadth that comes to it: plain mathematics. No conditions. -/
import Derived.Test.YtkcggmhllijgcaaDoorLok
namespace Go.Proofs.YtkcggmhllijgcaaDoor
def lexLt : List Int → List Int → Prop
  | x :: u, y :: v => x < y ∨ (x = y ∧ lexLt u v)
  | _, _ => False
def slt (u v : List Int) : Prop := u.length < v.length ∨ (u.length = v.length ∧ lexLt u v)
def sle (u v : List Int) : Prop := u = v ∨ slt u v
theorem lexLt_trans : ∀ {u v w : List Int}, u.length = v.length → lexLt u v → lexLt v w → lexLt u w
  | x :: u, y :: v, z :: w, hl, h1, h2 => by
    simp only [lexLt] at *
    rcases h1 with h1 | ⟨rfl, h1⟩
    · rcases h2 with h2 | ⟨rfl, h2⟩
      · left; omega
      · left; exact h1
    · rcases h2 with h2 | ⟨rfl, h2⟩
      · left; exact h2
      · right; exact ⟨rfl, lexLt_trans (by simpa using hl) h1 h2⟩
theorem lexLt_total : ∀ {u v : List Int}, u.length = v.length → lexLt u v ∨ u = v ∨ lexLt v u
  | [], [], _ => .inr (.inl rfl)
  | x :: u, y :: v, hl => by
    simp only [lexLt]
    rcases Int.lt_trichotomy x y with h | rfl | h
    · exact .inl (.inl h)
    · rcases lexLt_total (u := u) (v := v) (by simpa using hl) with h | rfl | h
      · exact .inl (.inr ⟨rfl, h⟩)
      · exact .inr (.inl rfl)
      · exact .inr (.inr (.inr ⟨rfl, h⟩))
    · exact .inr (.inr (.inl h))
theorem lexLt_irrefl : ∀ (u : List Int), ¬ lexLt u u
  | [] => by simp [lexLt]
  | x :: u => by simp only [lexLt]; rintro (h | ⟨_, h⟩); omega; exact lexLt_irrefl u h
theorem slt_trans {u v w : List Int} (h : slt u v) (k : slt v w) : slt u w := by
  unfold slt at *
  rcases h with h | ⟨h1, h2⟩
  · rcases k with k | ⟨k1, k2⟩
    · left; omega
    · left; omega
  · rcases k with k | ⟨k1, k2⟩
    · left; omega
    · right; exact ⟨by omega, lexLt_trans h1 h2 k2⟩
theorem slt_irrefl (u : List Int) : ¬ slt u u := by
  rintro (h | ⟨_, h⟩)
  · omega
  · exact lexLt_irrefl u h
theorem slt_total (u v : List Int) : slt u v ∨ u = v ∨ slt v u := by
  unfold slt
  rcases Nat.lt_trichotomy u.length v.length with h | h | h
  · exact .inl (.inl h)
  · rcases lexLt_total h with k | k | k
    · exact .inl (.inr ⟨h, k⟩)
    · exact .inr (.inl k)
    · exact .inr (.inr (.inr ⟨h.symm, k⟩))
  · exact .inr (.inr (.inl h))
theorem sle_refl (u : List Int) : sle u u := .inl rfl
theorem sle_trans {u v w : List Int} (h : sle u v) (k : sle v w) : sle u w := by
  rcases h with rfl | h
  · exact k
  · rcases k with rfl | k
    · exact .inr h
    · exact .inr (slt_trans h k)
theorem sle_antisymm {u v : List Int} (h : sle u v) (k : sle v u) : u = v := by
  rcases h with rfl | h
  · rfl
  · rcases k with rfl | k
    · rfl
    · exact absurd (slt_trans h k) (slt_irrefl u)
theorem sle_total (u v : List Int) : sle u v ∨ sle v u := by
  rcases slt_total u v with h | h | h
  · exact .inl (.inr h)
  · exact .inl (.inl h)
  · exact .inr (.inr h)
theorem not_slt {u v : List Int} : ¬ slt u v ↔ sle v u := by
  constructor
  · intro h
    rcases slt_total u v with k | k | k
    · exact absurd k h
    · exact .inl k.symm
    · exact .inr k
  · rintro (rfl | h) k
    · exact slt_irrefl _ k
    · exact slt_irrefl _ (slt_trans h k)
theorem sle_len {u v : List Int} (h : sle u v) : u.length ≤ v.length := by
  rcases h with rfl | h | ⟨h, _⟩ <;> omega
theorem lexLt_snoc : ∀ {u v : List Int} (x y : Int), u.length = v.length → lexLt u v → lexLt (u ++ [x]) (v ++ [y])
  | a :: u, b :: v, x, y, hl, h => by
    simp only [List.cons_append, lexLt] at *
    rcases h with h | ⟨rfl, h⟩
    · exact .inl h
    · exact .inr ⟨rfl, lexLt_snoc x y (by simpa using hl) h⟩
theorem lexLt_last : ∀ (u : List Int) {x y : Int}, x < y → lexLt (u ++ [x]) (u ++ [y])
  | [], _, _, h => .inl h
  | _a :: u, _, _, h => .inr ⟨rfl, lexLt_last u h⟩
theorem slt_snoc {u v : List Int} (x y : Int) (h : slt u v) : slt (u ++ [x]) (v ++ [y]) := by
  rcases h with h | ⟨h1, h2⟩
  · exact .inl (by simp; omega)
  · exact .inr ⟨by simp [h1], lexLt_snoc x y h1 h2⟩
theorem slt_last (u : List Int) {x y : Int} (h : x < y) : slt (u ++ [x]) (u ++ [y]) := .inr ⟨by simp, lexLt_last u h⟩
theorem sle_snoc {u v : List Int} (x : Int) (h : sle u v) : sle (u ++ [x]) (v ++ [x]) := by
  rcases h with rfl | h
  · exact sle_refl _
  · exact .inr (slt_snoc x x h)
theorem slt_more (u : List Int) (x : Int) : slt u (u ++ [x]) := .inl (by simp)
theorem sle_more (u v : List Int) : sle u (u ++ v) := by
  cases v with
  | nil => rw [List.append_nil]; exact sle_refl _
  | cons a v => exact .inr (.inl (by simp))
/-- the word tells the states apart -/
def Tears (a b : MachD) (i k : Nat) (w : List Int) : Prop := tells a i w ≠ tells b k w
def First (a b : MachD) (i k : Nat) (u : List Int) : Prop := word a u ∧ Tears a b i k u ∧ ∀ v, word a v → Tears a b i k v → sle u v
theorem First.uniq {a b : MachD} {i k : Nat} {u v : List Int} (h : First a b i k u) (h' : First a b i k v) : u = v := sle_antisymm (h.2.2 v h'.1 h'.2.1) (h'.2.2 u h.1 h.2.1)
structure Nd where
  p : Nat
  q : Nat
  w : List Int
def okAt (a b : MachD) (D : List Nd) (d : Nd) (y : Int) : Prop :=
  outAt a d.p y = outAt b d.q y ∧ ∃ e ∈ D, e.p = nextAt a d.p y ∧ e.q = nextAt b d.q y ∧ sle e.w (d.w ++ [y])
/-- what is known when h nodes are done, and x letters of the next one -/
structure BInv (a b : MachD) (i k : Nat) (D : List Nd) (h x : Nat) : Prop where
  start : ∃ d ∈ D, d.p = i ∧ d.q = k ∧ d.w = []
  wrd : ∀ d ∈ D, word a d.w ∧ goes a i d.w = d.p ∧ goes b k d.w = d.q ∧ tells a i d.w = tells b k d.w
  srt : D.Pairwise fun d e => slt d.w e.w
  pairs : (D.map fun d => (d.p, d.q)).Nodup
  don : ∀ n d, D[n]? = some d → ∀ y, letter a y → n < h ∨ (n = h ∧ y < x) → okAt a b D d y
  lim : ∀ dh, D[h]? = some dh → ∀ d ∈ D, slt d.w (dh.w ++ [(x : Int)])
  idx : ∀ (n : Nat) (d : Nd), D[n]? = some d → d.w.length ≤ n
section
variable {a b : MachD} {i k : Nat}
theorem BInv.zero (a b : MachD) (i k : Nat) : BInv a b i k [⟨i, k, []⟩] 0 0 where
  start := ⟨⟨i, k, []⟩, by simp, rfl, rfl, rfl⟩
  wrd := by intro d hd; simp at hd; subst hd; exact ⟨fun x hx => by simp at hx, rfl, rfl, rfl⟩
  srt := by simp
  pairs := by simp
  don := by
    rintro n d hn y hy (h | ⟨rfl, h⟩)
    · omega
    · have := hy.1; omega
  lim := by
    intro dh h d hd; simp at h hd; subst h hd; exact slt_more _ _
  idx := by
    intro n d hn
    have := List.mem_of_getElem? hn
    simp at this; subst this; simp
theorem okAt.more {D D' : List Nd} {d : Nd} {y : Int} (h : okAt a b D d y) (hs : ∀ e ∈ D, e ∈ D') : okAt a b D' d y := by
  obtain ⟨h1, e, he, h2⟩ := h
  exact ⟨h1, e, hs e he, h2⟩
/-- the pair was met -/
theorem BInv.met {D : List Nd} {h x : Nat} (H : BInv a b i k D h x) {dh : Nd} (hd : D[h]? = some dh) (ho : outAt a dh.p x = outAt b dh.q x) {e : Nd} (he : e ∈ D) (e1 : e.p = nextAt a dh.p x) (e2 : e.q = nextAt b dh.q x) : BInv a b i k D h (x + 1) where
  start := H.start
  wrd := H.wrd
  srt := H.srt
  pairs := H.pairs
  don := by
    intro n d hn y hy hh
    by_cases hc : n < h ∨ (n = h ∧ y < x)
    · exact H.don n d hn y hy hc
    · obtain ⟨rfl, rfl⟩ : n = h ∧ y = x := by omega
      obtain rfl : d = dh := by rw [hn] at hd; exact Option.some.inj hd
      exact ⟨ho, e, he, e1, e2, .inr (H.lim d hd e he)⟩
  lim := by
    intro d hd' e' he'
    obtain rfl : d = dh := by rw [hd'] at hd; exact Option.some.inj hd
    exact slt_trans (H.lim d hd' e' he') (slt_last _ (by omega))
  idx := H.idx
/-- the pair is new -/
theorem BInv.push {D : List Nd} {h x : Nat} (H : BInv a b i k D h x) {dh : Nd} (hd : D[h]? = some dh) (hx : letter a x) (ho : outAt a dh.p x = outAt b dh.q x) (hn : ∀ e ∈ D, ¬ (e.p = nextAt a dh.p x ∧ e.q = nextAt b dh.q x)) :
    BInv a b i k (D ++ [⟨nextAt a dh.p x, nextAt b dh.q x, dh.w ++ [(x : Int)]⟩]) h (x + 1) where
  start := by obtain ⟨d, h1, h2⟩ := H.start; exact ⟨d, by simp [h1], h2⟩
  wrd := by
    intro d hd'
    rcases List.mem_append.1 hd' with h1 | h1
    · exact H.wrd d h1
    · simp at h1; subst h1
      obtain ⟨k1, k2, k3, k4⟩ := H.wrd dh (List.mem_of_getElem? hd)
      refine ⟨?_, by rw [goes_snoc, k2], by rw [goes_snoc, k3], by rw [tells_snoc, tells_snoc, k2, k3, k4, ho]⟩
      intro y hy
      rcases List.mem_append.1 hy with h | h
      · exact k1 y h
      · simp at h; subst h; exact hx
  srt := by
    rw [List.pairwise_append]
    refine ⟨H.srt, by simp, ?_⟩
    intro d h1 e h2
    simp at h2; subst h2
    exact H.lim dh hd d h1
  pairs := by
    rw [List.map_append, List.nodup_append]
    refine ⟨H.pairs, by simp, ?_⟩
    intro p hp q hq e
    subst e
    simp only [List.mem_map] at hp
    obtain ⟨d, h1, rfl⟩ := hp
    simp at hq
    exact hn d h1 hq
  don := by
    intro n d hnd y hy hh
    have hlt := (List.getElem?_eq_some_iff.1 hd).1
    have hnl : n < D.length := by omega
    rw [List.getElem?_append_left hnl] at hnd
    by_cases hc : n < h ∨ (n = h ∧ y < x)
    · exact (H.don n d hnd y hy hc).more fun e he => by simp [he]
    · obtain ⟨rfl, rfl⟩ : n = h ∧ y = x := by omega
      obtain rfl : d = dh := by rw [hnd] at hd; exact Option.some.inj hd
      exact ⟨ho, ⟨nextAt a d.p x, nextAt b d.q x, d.w ++ [(x : Int)]⟩, List.mem_append.2 (.inr (List.mem_singleton.2 rfl)), rfl, rfl, sle_refl _⟩
  lim := by
    intro d hd' e' he'
    have hlt := (List.getElem?_eq_some_iff.1 hd).1
    rw [List.getElem?_append_left hlt] at hd'
    obtain rfl : d = dh := by rw [hd'] at hd; exact Option.some.inj hd
    rcases List.mem_append.1 he' with h1 | h1
    · exact slt_trans (H.lim d hd' e' h1) (slt_last _ (by omega))
    · simp at h1; subst h1; exact slt_last _ (by omega)
  idx := by
    intro n d hnd
    have hlt := (List.getElem?_eq_some_iff.1 hd).1
    by_cases hnl : n < D.length
    · rw [List.getElem?_append_left hnl] at hnd; exact H.idx n d hnd
    · have hl2 := (List.getElem?_eq_some_iff.1 hnd).1
      rw [List.getElem?_append_right (by omega)] at hnd
      simp at hl2
      obtain rfl : n = D.length := by omega
      simp at hnd; subst hnd
      have := H.idx h dh hd
      simp; omega
/-- a node is done -/
theorem BInv.done {D : List Nd} {h x : Nat} (H : BInv a b i k D h x) (hx : (ins a : Int) ≤ x) (hlt : h < D.length) : BInv a b i k D (h + 1) 0 where
  start := H.start
  wrd := H.wrd
  srt := H.srt
  pairs := H.pairs
  don := by
    intro n d hn y hy hh
    refine H.don n d hn y hy ?_
    have := hy.1; have := hy.2
    omega
  lim := by
    intro d hd e he
    have h0 := H.lim _ (List.getElem?_eq_getElem hlt) e he
    have h1 : slt D[h].w d.w := by
      obtain ⟨h2, rfl⟩ := List.getElem?_eq_some_iff.1 hd
      exact (List.pairwise_iff_getElem.1 H.srt) h (h + 1) hlt h2 (by omega)
    exact slt_trans h0 (slt_snoc _ _ h1)
  idx := H.idx
/-- nothing is left: no word tells them apart -/
theorem BInv.none_ {D : List Nd} {h x : Nat} (H : BInv a b i k D h x) (hl : D.length ≤ h) : XEqv a i b k := by
  have key : ∀ (w : List Int), word a w → ∀ d ∈ D, tells a d.p w = tells b d.q w := by
    intro w
    induction w with
    | nil => intro _ d _; rfl
    | cons y w ih =>
      intro hw d hd
      obtain ⟨n, hn, rfl⟩ := List.getElem_of_mem hd
      obtain ⟨h1, e, he, h2, h3, _⟩ := H.don n _ (List.getElem?_eq_getElem hn) y (hw y (by simp)) (.inl (by omega))
      simp only [tells]
      rw [h1, ← h2, ← h3, ih (fun x hx => hw x (by simp [hx])) e he]
  intro w hw
  obtain ⟨d, hd, rfl, rfl, _⟩ := H.start
  exact key w hw d hd
/-- a letter tells the node's states apart: the word is the first one -/
theorem BInv.found {D : List Nd} {h x : Nat} (H : BInv a b i k D h x) {dh : Nd} (hd : D[h]? = some dh) (hx : letter a x) (ho : outAt a dh.p x ≠ outAt b dh.q x) : First a b i k (dh.w ++ [(x : Int)]) := by
  obtain ⟨k1, k2, k3, k4⟩ := H.wrd dh (List.mem_of_getElem? hd)
  have hlt := (List.getElem?_eq_some_iff.1 hd).1
  refine ⟨?_, ?_, ?_⟩
  · intro y hy
    rcases List.mem_append.1 hy with h | h
    · exact k1 y h
    · simp at h; subst h; exact hx
  · unfold Tears; rw [tells_snoc, tells_snoc, k2, k3, k4]
    intro h; exact ho (by simpa using h)
  · -- a node that is not done has no less a word
    have late : ∀ n d y, D[n]? = some d → letter a y → ¬ (n < h ∨ (n = h ∧ y < x)) → sle (dh.w ++ [(x : Int)]) (d.w ++ [y]) := by
      intro n d y hn hy hc
      by_cases hnh : n = h
      · subst hnh
        obtain rfl : d = dh := by rw [hn] at hd; exact Option.some.inj hd
        by_cases h1 : (x : Int) < y
        · exact .inr (slt_last _ h1)
        · obtain rfl : y = x := by omega
          exact sle_refl _
      · obtain ⟨h2, rfl⟩ := List.getElem?_eq_some_iff.1 hn
        obtain ⟨_, rfl⟩ := List.getElem?_eq_some_iff.1 hd
        exact .inr (slt_snoc _ _ ((List.pairwise_iff_getElem.1 H.srt) h n hlt h2 (by omega)))
    have key : ∀ (n : Nat) (v : List Int), v.length = n → word a v → sle (dh.w ++ [(x : Int)]) v ∨ ∃ d ∈ D, d.p = goes a i v ∧ d.q = goes b k v ∧ sle d.w v ∧ tells a i v = tells b k v := by
      intro n
      induction n with
      | zero =>
        intro v hv _
        obtain rfl := List.eq_nil_of_length_eq_zero hv
        obtain ⟨d, h1, h2, h3, h4⟩ := H.start
        exact .inr ⟨d, h1, h2, h3, .inl h4, rfl⟩
      | succ n ih =>
        intro v hv hw
        obtain ⟨u, y, rfl⟩ : ∃ u y, v = u ++ [y] := by
          refine ⟨v.dropLast, v.getLast (by intro h; subst h; simp at hv), ?_⟩
          rw [List.dropLast_concat_getLast]
        have hu : word a u := fun z hz => hw z (by simp [hz])
        have hy := hw y (by simp)
        rcases ih u (by simpa using hv) hu with h1 | ⟨d, h1, h2, h3, h4, h5⟩
        · exact .inl (sle_trans h1 (sle_more _ _))
        · obtain ⟨m, hm, rfl⟩ := List.getElem_of_mem h1
          by_cases hc : m < h ∨ (m = h ∧ y < x)
          · obtain ⟨g1, e, he, g2, g3, g4⟩ := H.don m _ (List.getElem?_eq_getElem hm) y hy hc
            refine .inr ⟨e, he, ?_, ?_, sle_trans g4 (sle_snoc _ h4), ?_⟩
            · rw [goes_snoc, ← h2]; exact g2
            · rw [goes_snoc, ← h3]; exact g3
            · rw [tells_snoc, tells_snoc, h5, ← h2, ← h3, g1]
          · exact .inl (sle_trans (late m _ y (List.getElem?_eq_getElem hm) hy hc) (sle_snoc _ h4))
    intro v hw hT
    rcases key v.length v rfl hw with h1 | ⟨d, _, _, _, _, h5⟩
    · exact h1
    · exact absurd h5 hT
/-- as many pairs as there may be -/
theorem pairs_le : ∀ (n m : Nat) (l : List (Nat × Nat)), l.Nodup → (∀ p ∈ l, p.1 < n ∧ p.2 < m) → l.length ≤ n * m := by
  intro n m l hn hl
  have : (l.map fun p => ((p.1 * m + p.2 : Nat) : Int)).Nodup := by
    rw [List.nodup_iff_pairwise_ne] at *
    rw [List.pairwise_map]
    refine List.Pairwise.imp_of_mem ?_ hn
    intro p q hp hq hne e
    obtain ⟨h1, h2⟩ := hl p hp
    obtain ⟨h3, h4⟩ := hl q hq
    apply hne
    have e' : p.1 * m + p.2 = q.1 * m + q.2 := by exact_mod_cast e
    have hm : 0 < m := by omega
    have a1 : (p.1 * m + p.2) / m = p.1 := by rw [Nat.mul_comm, Nat.mul_add_div hm, Nat.div_eq_of_lt h2]; omega
    have a2 : (q.1 * m + q.2) / m = q.1 := by rw [Nat.mul_comm, Nat.mul_add_div hm, Nat.div_eq_of_lt h4]; omega
    have e1 : p.1 = q.1 := by rw [← a1, ← a2, e']
    have e2 : p.2 = q.2 := by rw [e1] at e'; omega
    exact Prod.ext e1 e2
  have h := nodup_le (n * m) this fun x hx => by
    simp only [List.mem_map] at hx
    obtain ⟨p, hp, rfl⟩ := hx
    obtain ⟨h1, h2⟩ := hl p hp
    refine ⟨by omega, ?_⟩
    have : p.1 * m + p.2 < n * m := by
      have h3 : (p.1 + 1) * m ≤ n * m := Nat.mul_le_mul_right m (by omega)
      rw [Nat.add_mul] at h3; omega
    exact_mod_cast this
  simpa using h
theorem BInv.len {D : List Nd} {h x : Nat} (H : BInv a b i k D h x) (ga : Good a) (gb : Good b) (hab : ins a = ins b) (hi : i < a.out.length) (hk : k < b.out.length) : D.length ≤ 36 := by
  have := pairs_le a.out.length b.out.length _ H.pairs fun p hp => by
    simp only [List.mem_map] at hp
    obtain ⟨d, hd, rfl⟩ := hp
    obtain ⟨k1, k2, k3, _⟩ := H.wrd d hd
    refine ⟨by rw [← k2]; exact goes_lt ga _ _ hi k1, by rw [← k3]; exact goes_lt gb _ _ hk fun x hx => by have := k1 x hx; exact ⟨this.1, by rw [← hab]; exact this.2⟩⟩
  have h1 := ga.le; have h2 := gb.le
  have h3 : a.out.length * b.out.length ≤ 6 * 6 := Nat.mul_le_mul h1 h2
  simp at this; omega
end
end Go.Proofs.YtkcggmhllijgcaaDoor
