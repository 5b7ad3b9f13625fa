/- Right generators are right in their parts; counts that are capped; how long a tape of a counted generator is; the rank of a tape, as a relation. No program in sight. No conditions. -/
import Derived.Test.YtopehfmppfibhaaDoorRkm
namespace Go.Proofs.YtopehfmppfibhaaDoor
open Go.RowKit
def capN (n : Nat) : Nat := min n 1048577
theorem cap_le (n : Nat) : capN n ≤ 1048577 := by unfold capN; omega
theorem cap_self {n : Nat} (h : n ≤ 1048577) : capN n = n := by unfold capN; omega
theorem cap_pos {n : Nat} (h : 1 ≤ n) : 1 ≤ capN n := by unfold capN; omega
theorem cap_add (a b : Nat) : capN (capN a + capN b) = capN (a + b) := by unfold capN; omega
theorem cap_mul {a b : Nat} (ha : 1 ≤ a) (hb : 1 ≤ b) : capN (capN a * capN b) = capN (a * b) := by
  by_cases h1 : a ≤ 1048577
  · by_cases h2 : b ≤ 1048577
    · rw [cap_self h1, cap_self h2]
    · have e : capN b = 1048577 := by unfold capN; omega
      have k1 : 1 * 1048577 ≤ a * 1048577 := Nat.mul_le_mul_right _ ha
      have k2 : a * 1048577 ≤ a * b := Nat.mul_le_mul_left _ (by omega)
      rw [cap_self h1, e]
      unfold capN
      omega
  · have e : capN a = 1048577 := by unfold capN; omega
    have k1 : 1048577 * 1 ≤ 1048577 * capN b := Nat.mul_le_mul_left _ (cap_pos hb)
    have k2 : a * 1 ≤ a * b := Nat.mul_le_mul_left _ hb
    rw [e]
    generalize 1048577 * capN b = x at *
    unfold capN
    omega
mutual
/-- how many parts -/
def Ge.np : Ge → Nat
  | .mk _ _ _ s => 1 + Ges.np s
def Ges.np : List Ge → Nat
  | [] => 0
  | g :: r => g.np + Ges.np r
end
mutual
theorem Ge.parts_np : ∀ (g : Ge) (d : Nat), (g.parts d).2 = true → (g.parts d).1 = g.np ∧ g.np ≤ 30
  | .mk _ _ _ s, d, h => by
    rw [Ge.parts] at h ⊢
    simp only [Bool.and_eq_true, decide_eq_true_eq] at h
    have := Ges.parts_np s (d + 1) _ h.1
    rw [Ge.np]
    simp only at this ⊢
    omega
theorem Ges.parts_np : ∀ (l : List Ge) (d : Nat) (p : Nat × Bool), (Ges.parts l d p).2 = true → (Ges.parts l d p).1 = p.1 + Ges.np l
  | [], _, _, _ => by rw [Ges.parts, Ges.np]; rfl
  | x :: r, d, p, h => by
    rw [Ges.parts] at h ⊢
    split
    · rename_i hp
      rw [if_pos hp] at h
      have h2 := Ges.parts_np r d _ h
      rw [h2, Ges.np]
      have h3 : ∀ (l : List Ge) (q : Nat × Bool), (Ges.parts l d q).2 = true → q.2 = true := by
        intro l
        induction l with
        | nil => intro q h; rw [Ges.parts] at h; exact h
        | cons z t ih =>
          intro q h
          rw [Ges.parts] at h
          split at h
          · assumption
          · exact h
      have h4 := h3 r _ h
      simp only [Bool.and_eq_true] at h4
      have h5 := Ge.parts_np x d h4.1
      simp only
      omega
    · rename_i hp; rw [if_neg hp] at h; exact absurd h hp
end
mutual
theorem Ge.parts_of : ∀ (g : Ge) (d n : Nat), g.high n → d + n ≤ 6 → g.np ≤ 30 → g.parts d = (g.np, true)
  | .mk _ _ _ _, _, 0, h, _, _ => by rw [Ge.high] at h; exact h.elim
  | .mk k a b s, d, n + 1, h, hd, hp => by
    rw [Ge.high] at h
    rw [Ge.np] at hp ⊢
    have := Ges.parts_of s (d + 1) n 1 h (by omega) hp
    rw [Ge.parts, show decide (d < 6) = true by simp; omega, this]
    simp [hp]
theorem Ges.parts_of : ∀ (l : List Ge) (d n c : Nat), Ges.high l n → d + n ≤ 6 → c + Ges.np l ≤ 30 → Ges.parts l d (c, true) = (c + Ges.np l, true)
  | [], _, _, _, _, _, _ => by rw [Ges.parts, Ges.np]; rfl
  | x :: r, d, n, c, h, hd, hp => by
    rw [Ges.high] at h
    rw [Ges.np] at hp ⊢
    rw [Ges.parts, if_pos rfl, Ge.parts_of x d n h.1 hd (by omega)]
    simp only [Bool.true_and]
    rw [show decide (c + x.np ≤ 30) = true by simp; omega, Ges.parts_of r d n (c + x.np) h.2 hd (by omega), Nat.add_assoc]
end
mutual
theorem Ge.high_mono : ∀ (g : Ge) {n m : Nat}, n ≤ m → g.high n → g.high m
  | .mk _ _ _ _, 0, _, _, h => by rw [Ge.high] at h; exact h.elim
  | .mk _ _ _ s, n + 1, 0, hm, _ => by omega
  | .mk _ _ _ s, n + 1, m + 1, hm, h => by
    rw [Ge.high] at h ⊢
    exact Ges.high_mono s (by omega) h
theorem Ges.high_mono : ∀ (l : List Ge) {n m : Nat}, n ≤ m → Ges.high l n → Ges.high l m
  | [], _, _, _, _ => by rw [Ges.high]; trivial
  | x :: r, n, m, hm, h => by
    rw [Ges.high] at h ⊢
    exact ⟨Ge.high_mono x hm h.1, Ges.high_mono r hm h.2⟩
end
theorem np_mem : ∀ {l : List Ge} {y : Ge}, y ∈ l → y.np ≤ Ges.np l
  | [], _, h => by cases h
  | x :: r, y, h => by
    rw [Ges.np]
    rcases List.mem_cons.1 h with rfl | h
    · omega
    · have := np_mem h; omega
theorem np_pos (g : Ge) : 1 ≤ g.np := by
  obtain ⟨k, a, b, s⟩ := g
  rw [Ge.np]; omega
theorem np_len : ∀ (l : List Ge), l.length ≤ Ges.np l
  | [] => by simp
  | g :: r => by rw [List.length_cons, Ges.np]; have := np_len r; have := np_pos g; omega
/-- what is right is so in all its parts -/
structure GoodG (g : Ge) : Prop where
  high : g.high 6
  few : g.np ≤ 30
  right : g.err = 0
theorem goodG_chk {g : Ge} (h : GoodG g) : chkG g = 0 := by
  unfold chkG
  rw [Ge.parts_of g 0 6 h.high (by omega) h.few, if_pos rfl]
  exact h.right
theorem chk_goodG {g : Ge} (h : chkG g = 0) : GoodG g := by
  obtain ⟨h1, h2⟩ := chkG_good h
  exact ⟨Ge.parts_high g 0 6 rfl h1, (Ge.parts_np g 0 h1).2, h2⟩
theorem GoodG.part {k a b : Int} {s : List Ge} (h : GoodG (.mk k a b s)) : ∀ y ∈ s, GoodG y := by
  obtain ⟨h1, h2, h3⟩ := h
  intro y hy
  rw [Ge.high] at h1
  rw [Ge.np] at h2
  exact ⟨Ge.high_mono y (by omega) (Ges.high_mem h1 y hy), by have := np_mem hy; omega, (Ge.err_parts h3).2 y hy⟩
theorem GoodG.wide {k a b : Int} {s : List Ge} (h : GoodG (.mk k a b s)) : s.length ≤ 30 := by
  have h2 := h.few
  rw [Ge.np] at h2
  have := np_len s
  omega
theorem GoodG.ways {g : Ge} (h : GoodG g) : 1 ≤ g.ways := ways_pos g h.right
/-- a bound on choices that are alike -/
def lgH (n : Nat) : Nat := max 1 (3 * n.log2)
theorem lgH_pos (n : Nat) : 1 ≤ lgH n := by unfold lgH; omega
theorem log2_mono {a b : Nat} (h : a ≤ b) : a.log2 ≤ b.log2 := by
  by_cases ha : a = 0
  · subst ha; simp
  · rw [Nat.le_log2 (by omega)]
    exact Nat.le_trans (Nat.log2_self_le ha) h
theorem lgH_mono {a b : Nat} (h : a ≤ b) : lgH a ≤ lgH b := by
  have := log2_mono h
  unfold lgH; omega
theorem lgH_pow (w a : Nat) (hw : 1 ≤ w) (ha : a ≤ 5) : a * lgH w ≤ lgH (sumPow w a) := by
  by_cases h1 : w = 1
  · subst h1
    have : ∀ a, a < 6 → a * lgH 1 ≤ lgH (sumPow 1 a) := by decide
    exact this a (by omega)
  · by_cases h0 : a = 0
    · subst h0; rw [Nat.zero_mul]; omega
    · have hl : 1 ≤ w.log2 := (Nat.le_log2 (by omega)).2 (by omega)
      have e : lgH w = 3 * w.log2 := by unfold lgH; omega
      have k : a * w.log2 ≤ (sumPow w a).log2 := by
        have hp := sumPow_pos w a
        rw [Nat.le_log2 (by omega), Nat.mul_comm, Nat.pow_mul]
        exact Nat.le_trans (Nat.pow_le_pow_left (Nat.log2_self_le (by omega)) a) (pow_le_sum w a)
      rw [e, Nat.mul_left_comm]
      unfold lgH
      omega
theorem ans_lenS (f : Int → Int) : ∀ (l : List Ge) , (∀ y ∈ l, 1 ≤ y.ways) → (∀ y ∈ l, (y.ans f).length ≤ y.np * lgH y.ways) → (Ges.ans f l).length ≤ Ges.np l * lgH (Ges.prod l)
  | [], _, _ => by rw [Ges.ans]; simp
  | g :: r, hp, h => by
    have h1 := h g (by simp)
    have h2 := ans_lenS f r (fun y hy => hp y (by simp [hy])) fun y hy => h y (by simp [hy])
    have p1 := hp g (by simp)
    have p2 := prod_pos r fun y hy => hp y (by simp [hy])
    rw [Ges.ans, List.length_append, Ges.np, Ges.prod, Nat.add_mul]
    have m1 : lgH g.ways ≤ lgH (g.ways * Ges.prod r) := lgH_mono (Nat.le_mul_of_pos_right _ p2)
    have m2 : lgH (Ges.prod r) ≤ lgH (g.ways * Ges.prod r) := lgH_mono (Nat.le_mul_of_pos_left _ p1)
    have := Nat.mul_le_mul_left g.np m1
    have := Nat.mul_le_mul_left (Ges.np r) m2
    omega
theorem ans_len (f : Int → Int) (hf : Rule f) : ∀ (g : Ge), g.err = 0 → (g.ans f).length ≤ g.np * lgH g.ways := by
  refine Ge.ind fun k a b s ih => ?_
  intro he
  obtain ⟨hk, h2, h4, h5, hs⟩ := right_kind he
  have sub : ∀ y ∈ s, (y.ans f).length ≤ y.np * lgH y.ways := fun y hy => ih y hy (hs y hy)
  have wp : ∀ y ∈ s, 1 ≤ y.ways := fun y hy => ways_pos y (hs y hy)
  rw [Ge.np, Nat.add_mul, Nat.one_mul]
  have hL := lgH_pos (Ge.mk k a b s).ways
  rcases hk with rfl | rfl | rfl | rfl | rfl
  · rw [Ge.ans]; simp
  · rw [Ge.ans, if_pos rfl]
    show 1 ≤ _; omega
  · rw [Ge.ans, if_neg (by decide), if_pos rfl]
    have := ans_lenS f s wp sub
    have e : (Ge.mk 3 a b s).ways = Ges.prod s := by rw [Ge.ways, if_neg (by decide), if_pos rfl]
    rw [e]; omega
  · obtain ⟨a0, a5, sl⟩ := h4 rfl
    obtain ⟨m, rfl⟩ : ∃ m : Nat, a = m := ⟨a.toNat, by omega⟩
    match s, sl with
    | [y], _ =>
      have hy := sub y (by simp)
      have hw := wp y (by simp)
      have e : (Ge.mk 4 m b [y]).ways = sumPow y.ways m := by rw [Ge.ways, if_neg (by decide), if_neg (by decide), if_pos rfl, Ges.head]; rfl
      have hr := hf m (by omega)
      have hq := lgH_pow y.ways m hw (by omega)
      rw [Ge.ans, if_neg (by decide), if_neg (by decide), if_pos rfl, Ges.hans, e, Ges.np, Ges.np, Nat.add_zero]
      rw [e] at hL
      have hlen : ((List.replicate (f m).toNat (y.ans f)).flatten).length = (f m).toNat * (y.ans f).length := by simp
      rw [List.length_cons, hlen]
      have k1 : (f m).toNat * (y.ans f).length ≤ m * (y.np * lgH y.ways) := Nat.mul_le_mul (by omega) hy
      have k2 : m * (y.np * lgH y.ways) = y.np * (m * lgH y.ways) := Nat.mul_left_comm _ _ _
      have k3 := Nat.mul_le_mul_left y.np hq
      omega
  · have hl := h5 rfl
    have hr := hf ((s.length : Int) - 1) (by omega)
    have hx : (f ((s.length : Int) - 1)).toNat < s.length := by omega
    have hm : s[(f ((s.length : Int) - 1)).toNat] ∈ s := List.getElem_mem hx
    have e : (Ge.mk 5 a b s).ways = Ges.tot s := by rw [Ge.ways, if_neg (by decide), if_neg (by decide), if_neg (by decide), if_pos rfl]
    rw [Ge.ans, if_neg (by decide), if_neg (by decide), if_neg (by decide), if_pos rfl, nans_at f s _ hx, List.length_cons, e]
    rw [e] at hL
    have k1 := sub _ hm
    have k2 := lgH_mono (tot_mem hm)
    have k3 := Nat.mul_le_mul (np_mem hm) k2
    omega
/-- no tape of a generator that can be counted is longer -/
theorem ans_short {f : Int → Int} (hf : Rule f) {g : Ge} (h : GoodG g) (hw : g.ways ≤ 1048576) : (g.ans f).length < 4000 := by
  have h1 := ans_len f hf g h.right
  have h2 : lgH g.ways ≤ 60 := Nat.le_trans (lgH_mono hw) (by decide)
  have := Nat.mul_le_mul h.few h2
  omega
/-- so many tapes are ahead of this one -/
inductive Rk : List Ge → List Int → Nat → Prop
  | nil : Rk [] [] 0
  | both {a b : Int} {s rest : List Ge} {t : List Int} {r : Nat} (h : Rk (s ++ rest) t r) : Rk (.mk 3 a b s :: rest) t r
  | just {a b : Int} {s rest : List Ge} {t : List Int} {r : Nat} (h : Rk rest t r) : Rk (.mk 1 a b s :: rest) t r
  | pick {k a b : Int} {s rest : List Ge} {t : List Int} {r j : Nat} (h1 : k ≠ 1) (h3 : k ≠ 3) (hj : j < (Ge.mk k a b s).brs.length) (h : Rk ((Ge.mk k a b s).brs[j] ++ rest) t r) : Rk (.mk k a b s :: rest) ((j : Int) :: t) (Ges.prod rest * sumTo (Ge.mk k a b s).brs j + r)
theorem rk_rule (f : Int → Int) (hf : Rule f) (R : List Ge → Nat) (h0 : R [] = 0) (hb : ∀ (a b : Int) (s rest : List Ge), R (.mk 3 a b s :: rest) = R (s ++ rest)) (h1 : ∀ (a b : Int) (s rest : List Ge), R (.mk 1 a b s :: rest) = R rest)
    (hp : ∀ (k a b : Int) (s rest : List Ge) (m : Nat), GoodG (.mk k a b s) → (∀ y ∈ rest, GoodG y) → k ≠ 1 → k ≠ 3 → (hm : (Ge.mk k a b s).brs.length = m + 1) → sumTo (Ge.mk k a b s).brs (m + 1) = (Ge.mk k a b s).ways → (h : (f m).toNat < (Ge.mk k a b s).brs.length) → R (.mk k a b s :: rest) = Ges.prod rest * sumTo (Ge.mk k a b s).brs (f m).toNat + R ((Ge.mk k a b s).brs[(f m).toNat]'h ++ rest)) :
    ∀ (n : Nat) (td : List Ge), Ges.wt td ≤ n → (∀ y ∈ td, GoodG y) → Rk td (Ges.ans f td) (R td)
  | _, [], _, _ => by rw [Ges.ans, h0]; exact .nil
  | 0, g :: rest, h, _ => by rw [Ges.wt] at h; have := wt_pos g; omega
  | n + 1, .mk k a b s :: rest, h, hg => by
    have hG := hg (.mk k a b s) (by simp)
    have hr : ∀ y ∈ rest, GoodG y := fun y hy => hg y (by simp [hy])
    rw [Ges.wt] at h
    by_cases k3 : k = 3
    · subst k3
      have e : Ges.ans f (.mk 3 a b s :: rest) = Ges.ans f (s ++ rest) := by rw [Ges.ans, ans_app, Ge.ans, if_neg (by decide), if_pos rfl]
      rw [Ge.wt, if_neg (by decide)] at h
      rw [e, hb]
      refine .both (rk_rule f hf R h0 hb h1 hp n _ (by rw [wt_app]; omega) fun y hy => ?_)
      rcases List.mem_append.1 hy with hy | hy
      · exact hG.part y hy
      · exact hr y hy
    by_cases k1 : k = 1
    · subst k1
      have e : Ges.ans f (.mk 1 a b s :: rest) = Ges.ans f rest := by rw [Ges.ans, Ge.ans, if_neg (by decide), if_neg (by decide), if_neg (by decide), if_neg (by decide), List.nil_append]
      rw [Ge.wt, if_neg (by decide)] at h
      rw [e, h1]
      exact .just (rk_rule f hf R h0 hb h1 hp n _ (by omega) hr)
    · obtain ⟨m, q1, q2, q3, q4, q5⟩ := brs_spec hG.right hG.wide k1 k3
      obtain ⟨j, hj⟩ : ∃ j : Nat, f m = j := ⟨(f m).toNat, by have := hf m (by omega); omega⟩
      obtain ⟨q6, q7⟩ := q4 f hf j hj
      have hjl : j < (Ge.mk k a b s).brs.length := by omega
      have hw := brs_wt hG.right _ (List.getElem_mem hjl)
      have e : Ges.ans f (.mk k a b s :: rest) = (j : Int) :: Ges.ans f ((Ge.mk k a b s).brs[j] ++ rest) := by rw [Ges.ans, q7 hjl, ans_app]; rfl
      have hR := hp k a b s rest m hG hr k1 k3 q1 q3 (by rw [hj]; exact hjl)
      have ej : (f m).toNat = j := by omega
      simp only [ej] at hR
      rw [e, hR]
      refine .pick k1 k3 hjl (rk_rule f hf R h0 hb h1 hp n _ (by rw [wt_app]; omega) fun y hy => ?_)
      rcases List.mem_append.1 hy with hy | hy
      · exact hG.part y (q5 _ (List.getElem_mem hjl) y hy)
      · exact hr y hy
/-- none is ahead of the first one -/
theorem rk_first (td : List Ge) (hg : ∀ y ∈ td, GoodG y) : Rk td (Ges.ans (fun _ => 0) td) 0 :=
  rk_rule (fun _ => 0) (fun m hm => ⟨Int.le_refl _, hm⟩) (fun _ => 0) rfl (fun _ _ _ _ => rfl) (fun _ _ _ _ => rfl) (fun k a b s rest m _ _ _ _ _ _ _ => by
    have : sumTo (Ge.mk k a b s).brs (0 : Int).toNat = 0 := by rw [show (0 : Int).toNat = 0 from rfl, sumTo]
    rw [this, Nat.mul_zero]) _ td (Nat.le_refl _) hg
/-- all others are ahead of the last one -/
theorem rk_last (td : List Ge) (hg : ∀ y ∈ td, GoodG y) : Rk td (Ges.ans (fun m => m) td) (Ges.prod td - 1) :=
  rk_rule (fun m => m) (fun m hm => ⟨hm, Int.le_refl _⟩) (fun td => Ges.prod td - 1) (by rw [Ges.prod]) (fun a b s rest => by rw [Ges.prod, prod_app, Ge.ways, if_neg (by decide), if_pos rfl]) (fun a b s rest => by rw [Ges.prod, Ge.ways, if_neg (by decide), if_neg (by decide), if_neg (by decide), if_neg (by decide), Nat.one_mul]) (fun k a b s rest m hG hr k1 k3 hm hs h => by
    have em : ((m : Int)).toNat = m := by omega
    simp only [em] at h ⊢
    rw [sumTo_succ _ m h] at hs
    have p1 := prod_pos rest fun y hy => (hr y hy).ways
    have p2 : 1 ≤ Ges.prod (Ge.mk k a b s).brs[m] := by
      obtain ⟨m', q1, q2, q3, q4, q5⟩ := brs_spec hG.right hG.wide k1 k3
      exact prod_pos _ fun y hy => (hG.part y (q5 _ (List.getElem_mem h) y hy)).ways
    have p3 : 1 ≤ Ges.prod (Ge.mk k a b s).brs[m] * Ges.prod rest := Nat.mul_pos p2 p1
    rw [Ges.prod, prod_app, ← hs, Nat.add_mul, Nat.mul_comm (sumTo _ _)]
    omega) _ td (Nat.le_refl _) hg
end Go.Proofs.YtopehfmppfibhaaDoor
