/- The W-method: who passes the suite, with no more states than the least machine and so many extra, tells the same. Plain mathematics. No conditions. -/
import Derived.Test.YtkcggmhllijgcaaDoorSum
import Derived.Test.YtkcggmhllijgcaaDoorMoo
namespace Go.Proofs.YtkcggmhllijgcaaDoor
open Go.RowKit Go.Deep
theorem at0_get {z : List Int} {i : Nat} (h : i < z.length) : at0 z i = z[i] := by
  unfold at0; rw [List.getD_eq_getElem?_getD, List.getElem?_eq_getElem h]; rfl
section
variable {m l : MachD} {c : List Int} (g : Good m) (hc : ClassOf m c) (hl : LeastD m c l)
include g hc hl
/-- what holds of a least machine's first state, and goes on, holds of all -/
theorem least_closed {S : Nat → Prop} (h0 : S 0) (hs : ∀ k, k < l.out.length → S k → ∀ x : Nat, x < ins m → S (nextAt l k (x : Int))) : ∀ k, k < l.out.length → S k := by
  obtain ⟨K, k1, k2, rfl⟩ := hl
  obtain ⟨h1, h2, h3, h4, h5, h6⟩ := st_inv g hc K k2
  have rows := st_rows g hc K k2
  have lK : (st m c K).outs.length = K := h5
  have pre : ∀ k, k ≤ K → ∃ r, (st m c K).ord = (st m c k).ord ++ r := fun k hk => by
    obtain ⟨r, hr⟩ := st_prefix m c k (K - k)
    rw [show k + (K - k) = K by omega] at hr
    exact ⟨r, hr⟩
  have uniq : ∀ a b, a < (st m c K).ord.length → b < (st m c K).ord.length → at0 (st m c K).ord a = at0 (st m c K).ord b → a = b := fun a b ha hb e => by
    unfold at0 at e
    rw [List.getD_eq_getElem?_getD, List.getD_eq_getElem?_getD, List.getElem?_eq_getElem ha, List.getElem?_eq_getElem hb] at e
    simp at e
    exact (List.getElem_inj h2).1 e
  have main : ∀ k, k ≤ K → ∀ j, j < (st m c k).ord.length → S j := by
    intro k
    induction k with
    | zero =>
      intro _ j hj
      have : j = 0 := by simp [st] at hj; omega
      rw [this]; exact h0
    | succ k ih =>
      intro hk j hj
      have hkk := k2 k (by omega)
      obtain ⟨r, hr⟩ := pre (k + 1) hk
      obtain ⟨r', hr'⟩ := pre k (by omega)
      have ej : at0 (st m c K).ord j = at0 (st m c (k + 1)).ord j := by rw [hr]; exact at0_append hj
      have ek : at0 (st m c K).ord k = at0 (st m c k).ord k := by rw [hr']; exact at0_append hkk
      have lj : j < (st m c K).ord.length := by rw [hr, List.length_append]; omega
      have hy : at0 (st m c (k + 1)).ord j ∈ (scan (st m c k).ord (trg m c (at0 (st m c k).ord k).toNat)).1 := mem_at hj
      rcases mem_scan _ _ hy with hy | hy
      · obtain ⟨i, hi, e⟩ := List.getElem_of_mem hy
        have e2 : at0 (st m c K).ord i = at0 (st m c K).ord j := by
          rw [ej, ← e, hr']
          rw [at0_append hi]
          unfold at0; rw [List.getD_eq_getElem?_getD, List.getElem?_eq_getElem hi]; rfl
        have := uniq i j (by rw [hr', List.length_append]; omega) lj e2
        subst this
        exact ih (by omega) i hi
      · rw [← ek] at hy
        obtain ⟨x, hx, e⟩ := List.getElem_of_mem hy
        have hx' := hx
        rw [trg_len] at hx'
        have rk := h1 _ (mem_at (show k < (st m c K).ord.length by omega))
        have lx : x < ins m := by rw [g.rowN _ (by omega)] at hx'; exact hx'
        obtain ⟨i1, i2, i3⟩ := rows k (by omega)
        have ey : at0 (trg m c (at0 (st m c K).ord k).toNat) x = at0 (st m c K).ord j := by
          rw [ej, ← e]; exact at0_get hx
        have en : at0 (rowAt (st m c K).nexts k) x = ixOf (st m c K).ord (at0 (st m c K).ord j) := by
          rw [i2, ← ey]; exact at0_map _ _ _ hx
        have mj := mem_at lj
        have ea := at_ix mj
        have h7 := (ix_ge (zs := (st m c K).ord) (x := at0 (st m c K).ord j)).2 mj
        have h8 := ix_lt (zs := (st m c K).ord) (x := at0 (st m c K).ord j)
        have eq := uniq _ _ (by omega) lj ea
        have := hs k (by show k < (st m c K).outs.length; omega) (ih (by omega) k hkk) x lx
        have e3 : nextAt ⟨(st m c K).outs, (st m c K).nexts⟩ k (x : Int) = j := by
          show (at0 (rowAt (st m c K).nexts k) x).toNat = j
          rw [en]; exact eq
        rw [e3] at this
        exact this
  intro k hk
  exact main K (Nat.le_refl _) k (by have : k < (st m c K).outs.length := hk; omega)
end
theorem nodup_sub : ∀ (xs ys : List Nat), xs.Nodup → (∀ x ∈ xs, x ∈ ys) → xs.length ≤ ys.length
  | [], _, _, _ => Nat.zero_le _
  | x :: xs, ys, hn, hs => by
    have hx := hs x (by simp)
    rw [List.nodup_cons] at hn
    have h := nodup_sub xs (ys.erase x) hn.2 fun y hy => (List.mem_erase_of_ne (fun e => hn.1 (by rw [← e]; exact hy))).2 (hs y (by simp [hy]))
    rw [List.length_erase_of_mem hx] at h
    have := List.length_pos_of_mem hx
    simp only [List.length_cons]; omega
section
variable (E : Nat → Nat → Nat → Prop) (N : Nat)
variable (hr : ∀ n s, E n s s) (hs : ∀ n s t, E n s t → E n t s) (ht : ∀ n s t u, E n s t → E n t u → E n s u)
include hr hs ht
open Classical in
theorem leasts_ge {k n : Nat} (T : Nat → Nat) (hT : ∀ i, i < n → T i < N) (hd : ∀ i j, i < n → j < n → E k (T i) (T j) → i = j) : n ≤ leasts E N k := by
  have ex : ∀ i, i < n → ∃ r, (r < N ∧ E k r (T i)) ∧ ∀ j, j < r → ¬ (j < N ∧ E k j (T i)) := fun i hi => nat_least (fun r => r < N ∧ E k r (T i)) ⟨T i, hT i hi, hr k _⟩
  obtain ⟨L, hL⟩ := choose_lt (p := fun i r => (r < N ∧ E k r (T i)) ∧ ∀ j, j < r → ¬ (j < N ∧ E k j (T i))) ex
  unfold leasts
  rw [List.countP_eq_length_filter]
  have h := nodup_sub ((List.range n).map L) ((List.range N).filter fun s => decide (∀ t, t < s → ¬ E k t s)) ?_ ?_
  · simpa using h
  · rw [List.nodup_iff_pairwise_ne, List.pairwise_map]
    refine (List.nodup_range (n := n)).imp_of_mem ?_
    intro a b ha hb hab e
    have ha := List.mem_range.1 ha
    have hb := List.mem_range.1 hb
    have h1 := (hL a ha).1.2
    have h2 := (hL b hb).1.2
    rw [e] at h1
    exact hab (hd a b ha hb (ht _ _ _ _ (hs _ _ _ h1) h2))
  · intro x hx
    obtain ⟨i, hi, rfl⟩ := List.mem_map.1 hx
    have hi := List.mem_range.1 hi
    have h1 := hL i hi
    rw [List.mem_filter]
    refine ⟨List.mem_range.2 h1.1.1, decide_eq_true fun t hlt hE => ?_⟩
    exact h1.2 t hlt ⟨by have := h1.1.1; omega, ht _ _ _ _ hE h1.1.2⟩
end
def wd (n : Nat) (v : List Int) : Prop := ∀ x ∈ v, 0 ≤ x ∧ x < (n : Int)
/-- two states tell the same of all words of at most t letters, with one of W behind -/
def Agr (n : Nat) (W : List (List Int)) (a b : MachD) (t i k : Nat) : Prop := ∀ v, wd n v → v.length ≤ t → ∀ u ∈ W, tells a i (v ++ u) = tells b k (v ++ u)
namespace Agr
variable {n : Nat} {W : List (List Int)} {a b d : MachD} {t i k j : Nat}
theorem symm (h : Agr n W a b t i k) : Agr n W b a t k i := fun v hv hl u hu => (h v hv hl u hu).symm
theorem trans (h : Agr n W a b t i k) (h2 : Agr n W b d t k j) : Agr n W a d t i j := fun v hv hl u hu => (h v hv hl u hu).trans (h2 v hv hl u hu)
theorem less (h : Agr n W a b t i k) {t' : Nat} (ht : t' ≤ t) : Agr n W a b t' i k := fun v hv hl u hu => h v hv (by omega) u hu
theorem next (h : Agr n W a b (t + 1) i k) {x : Int} (hx : 0 ≤ x ∧ x < (n : Int)) : Agr n W a b t (nextAt a i x) (nextAt b k x) := fun v hv hl u hu => by
  have := h (x :: v) (fun y hy => (List.mem_cons.1 hy).elim (fun e => e ▸ hx) (hv y)) (by simp; omega) u hu
  simp only [List.cons_append, tells] at this
  injection this
theorem out (h : Agr n W a b (t + 1) i k) (hne : ∃ u, u ∈ W) {x : Int} (hx : 0 ≤ x ∧ x < (n : Int)) : outAt a i x = outAt b k x := by
  obtain ⟨u, hu⟩ := hne
  have := h [x] (fun y hy => by rw [List.mem_singleton.1 hy]; exact hx) (by simp) u hu
  simp only [List.cons_append, tells] at this
  injection this
end Agr
/-- where it is stable it stays so -/
theorem agr_all {o : MachD} (go : Good o) {W : List (List Int)} (hne : ∃ u, u ∈ W) {t : Nat} (hst : ∀ s r, s < o.out.length → r < o.out.length → Agr (ins o) W o o t s r → Agr (ins o) W o o (t + 1) s r) :
    ∀ j s r, s < o.out.length → r < o.out.length → Agr (ins o) W o o t s r → Agr (ins o) W o o (t + j) s r
  | 0, _, _, _, _, h => h
  | j + 1, s, r, hs, hr, h => by
    have h1 := hst s r hs hr h
    intro v hv hl u hu
    match v, hv, hl with
    | [], hv, _ => exact h [] hv (Nat.zero_le _) u hu
    | x :: v, hv, hl =>
      have hx := hv x (by simp)
      have := agr_all go hne hst j (nextAt o s x) (nextAt o r x) (nextAt_lt go hs hx) (nextAt_lt go hr hx) (h1.next hx) v (fun y hy => hv y (by simp [hy])) (by simp at hl; omega) u hu
      simp only [List.cons_append, tells]
      rw [h1.out hne hx, this]
theorem chow {l o : MachD} (gl : Good l) (go : Good o) (hi : ins l = ins o) {e : Nat} {reach W : List (List Int)} (h0 : [] ∈ reach) (hreach : ∀ i, i < l.out.length → ∃ r ∈ reach, word l r ∧ goes l 0 r = i)
    (hne : ∃ u, u ∈ W) (hsep : ∀ i k, i < l.out.length → k < l.out.length → i ≠ k → ∃ u ∈ W, tells l i u ≠ tells l k u) (hN : o.out.length ≤ l.out.length + e)
    (hp : ∀ r ∈ reach, ∀ v, word l v → v.length ≤ e + 1 → ∀ u ∈ W, tells l 0 (r ++ v ++ u) = tells o 0 (r ++ v ++ u)) : XEqv l 0 o 0 := by
  have gp := gl.pos
  have op := go.pos
  obtain ⟨R, hR⟩ := choose_lt (n := l.out.length) (p := fun i r => r ∈ reach ∧ word l r ∧ goes l 0 r = i ∧ (i = 0 → r = [])) (fun i hi => by
    by_cases h : i = 0
    · subst h; exact ⟨[], h0, fun x hx => by simp at hx, rfl, fun _ => rfl⟩
    · obtain ⟨r, h1, h2, h3⟩ := hreach i hi
      exact ⟨r, h1, h2, h3, fun e => absurd e h⟩)
  have wo : ∀ {v : List Int}, word l v → word o v := fun hv x hx => by
    have := hv x hx
    unfold letter at *
    rw [← hi]; exact this
  have hT : ∀ i, i < l.out.length → goes o 0 (R i) < o.out.length := fun i h => goes_lt go _ _ op (wo (hR i h).2.1)
  have hA : ∀ i, i < l.out.length → Agr (ins o) W l o (e + 1) i (goes o 0 (R i)) := fun i h v hv hl u hu => by
    have hv' : word l v := fun x hx => by
      have := hv x hx
      unfold letter
      rw [hi]; exact this
    have := hp (R i) (hR i h).1 v hv' hl u hu
    rw [List.append_assoc, tells_append l, tells_append o, (hR i h).2.2.1] at this
    exact (List.append_inj this (by rw [tells_length, tells_length])).2
  have hr : ∀ t s, Agr (ins o) W o o t s s := fun t s v _ _ u _ => rfl
  have hs : ∀ t s r, Agr (ins o) W o o t s r → Agr (ins o) W o o t r s := fun _ _ _ h => h.symm
  have ht : ∀ t s r q, Agr (ins o) W o o t s r → Agr (ins o) W o o t r q → Agr (ins o) W o o t s q := fun _ _ _ _ h h2 => h.trans h2
  have hd : ∀ t s r, Agr (ins o) W o o (t + 1) s r → Agr (ins o) W o o t s r := fun _ _ _ h => h.less (by omega)
  have base : l.out.length ≤ leasts (Agr (ins o) W o o) o.out.length 0 := by
    refine leasts_ge _ _ hr hs ht (fun i => goes o 0 (R i)) hT fun i j h1 h2 hE => ?_
    apply Classical.byContradiction
    intro hij
    obtain ⟨u, hu, hn⟩ := hsep i j h1 h2 hij
    apply hn
    have a1 := hA i h1 [] (fun x hx => by simp at hx) (Nat.zero_le _) u hu
    have a2 := hA j h2 [] (fun x hx => by simp at hx) (Nat.zero_le _) u hu
    have a3 := hE [] (fun x hx => by simp at hx) (Nat.zero_le _) u hu
    rw [List.nil_append] at a1 a2 a3
    rw [a1, a2, a3]
  have stab : ∃ t, t ≤ e ∧ ∀ s r, s < o.out.length → r < o.out.length → Agr (ins o) W o o t s r → Agr (ins o) W o o (t + 1) s r := by
    apply Classical.byContradiction
    intro hno
    have un : ∀ t, t ≤ e → ∃ s r, s < o.out.length ∧ r < o.out.length ∧ Agr (ins o) W o o t s r ∧ ¬ Agr (ins o) W o o (t + 1) s r := fun t hte => by
      apply Classical.byContradiction
      intro h
      exact hno ⟨t, hte, fun s r h1 h2 h3 => Classical.byContradiction fun h4 => h ⟨s, r, h1, h2, h3, h4⟩⟩
    have grow : ∀ t, t ≤ e + 1 → l.out.length + t ≤ leasts (Agr (ins o) W o o) o.out.length t := by
      intro t
      induction t with
      | zero => intro _; exact base
      | succ t ih =>
        intro hte
        have := leasts_up _ _ hr hs ht hd (un t (by omega))
        have := ih (by omega)
        omega
    have h1 := grow (e + 1) (Nat.le_refl _)
    have h2 : leasts (Agr (ins o) W o o) o.out.length (e + 1) ≤ o.out.length := by
      unfold leasts
      exact Nat.le_trans List.countP_le_length (by simp)
    omega
  obtain ⟨t, hte, hst⟩ := stab
  have full : ∀ s r, s < o.out.length → r < o.out.length → Agr (ins o) W o o e s r → ∀ j, Agr (ins o) W o o j s r := fun s r h1 h2 h j =>
    (agr_all go hne hst j s r h1 h2 (h.less hte)).less (by omega)
  have main : ∀ (w : List Int) (i k : Nat), i < l.out.length → k < o.out.length → (∀ j, Agr (ins o) W o o j k (goes o 0 (R i))) → word l w → tells l i w = tells o k w := by
    intro w
    induction w with
    | nil => intros; rfl
    | cons x w ih =>
      intro i k h1 h2 hF hw
      have hx := hw x (by simp)
      have hx2 : 0 ≤ x ∧ x < (ins o : Int) := by unfold letter at hx; rw [← hi]; exact hx
      have e1 : outAt l i x = outAt o k x := ((hA i h1).out hne hx2).trans (((hF 1).out hne hx2).symm)
      have i1 := nextAt_lt gl h1 hx
      have k1 := nextAt_lt go h2 (x := x) hx2
      have q1 := nextAt_lt go (hT i h1) (x := x) hx2
      have a1 := (hA i h1).next hx2
      have a2 := (hA _ i1).less (t' := e) (by omega)
      have a3 := full _ _ q1 (hT _ i1) (a1.symm.trans a2)
      have a4 : ∀ j, Agr (ins o) W o o j (nextAt o k x) (goes o 0 (R (nextAt l i x))) := fun j => ((hF (j + 1)).next hx2).trans (a3 j)
      simp only [tells]
      rw [e1, ih _ _ i1 k1 a4 (fun y hy => hw y (by simp [hy]))]
  intro w hw
  refine main w 0 0 gp op (fun j => ?_) hw
  rw [(hR 0 gp).2.2.2 rfl]
  exact hr _ _
end Go.Proofs.YtkcggmhllijgcaaDoor
