/- How many questions a right generator asks at most, and that mending answers them all. No program in sight. No conditions. -/
import Derived.Test.YtopehfmppfibhaaDoorGmd
namespace Go.Proofs.YtopehfmppfibhaaDoor
open Go.RowKit
/-- so many questions at most, each answered within its range -/
def Ch.le {α : Type} : Ch α → Nat → Prop
  | .done _, _ => True
  | .ask _ _, 0 => False
  | .ask m k, n + 1 => 0 ≤ m ∧ m ≤ 1000 ∧ ∀ x, 0 ≤ x → x ≤ m → (k x).le n
theorem Ch.le_mono {α : Type} : ∀ (c : Ch α) {n n' : Nat}, n ≤ n' → c.le n → c.le n'
  | .done _, _, _, _, _ => by rw [Ch.le]; trivial
  | .ask _ _, 0, _, _, h => by rw [Ch.le] at h; exact h.elim
  | .ask m k, n + 1, 0, h, _ => by omega
  | .ask m k, n + 1, n' + 1, h, hc => by
    rw [Ch.le] at hc ⊢
    exact ⟨hc.1, hc.2.1, fun x h0 h1 => Ch.le_mono (k x) (by omega) (hc.2.2 x h0 h1)⟩
theorem Ch.le_bind {α β : Type} : ∀ (c : Ch α) (f : α → Ch β) {n m : Nat}, c.le n → (∀ x, (f x).le m) → (c.bind f).le (n + m)
  | .done x, f, n, m, _, hf => by rw [Ch.bind]; exact Ch.le_mono _ (by omega) (hf x)
  | .ask _ _, _, 0, _, h, _ => by rw [Ch.le] at h; exact h.elim
  | .ask q k, f, n + 1, m, h, hf => by
    rw [Ch.le] at h
    rw [Ch.bind, show n + 1 + m = (n + m) + 1 by omega, Ch.le]
    exact ⟨h.1, h.2.1, fun x h0 h1 => Ch.le_bind (k x) f (h.2.2 x h0 h1) hf⟩
theorem Ch.le_all {α : Type} {n : Nat} : ∀ (l : List (Ch α)), (∀ c ∈ l, c.le n) → (Ch.all l).le (l.length * n)
  | [], _ => by rw [Ch.all, Ch.le]; trivial
  | c :: r, h => by
    rw [Ch.all]
    have h1 := Ch.le_bind c (fun x => (Ch.all r).bind fun l => .done (x :: l)) (m := r.length * n) (h c (by simp)) fun x => by
      have := Ch.le_bind (Ch.all r) (fun l => Ch.done (x :: l)) (m := 0) (Ch.le_all r fun d hd => h d (by simp [hd])) fun l => by rw [Ch.le]; trivial
      exact this
    refine Ch.le_mono _ ?_ h1
    rw [List.length_cons, Nat.add_mul]; omega
mutual
/-- no deeper than so many levels -/
def Ge.high : Ge → Nat → Prop
  | .mk _ _ _ _, 0 => False
  | .mk _ _ _ s, n + 1 => Ges.high s n
def Ges.high : List Ge → Nat → Prop
  | [], _ => True
  | y :: r, n => y.high n ∧ Ges.high r n
end
theorem Ges.high_mem : ∀ {s : List Ge} {n : Nat}, Ges.high s n → ∀ y ∈ s, y.high n
  | [], _, _, _, h => by cases h
  | x :: r, n, hx, y, h => by
    rw [Ges.high] at hx
    rcases List.mem_cons.1 h with rfl | h
    · exact hx.1
    · exact Ges.high_mem hx.2 y h
mutual
theorem Ge.parts_high : ∀ (g : Ge) (d n : Nat), d + n = 6 → (g.parts d).2 = true → g.high n
  | .mk k a b s, d, 0, hd, h => by
    rw [gparts_deep k a b s d (by omega)] at h
    cases h
  | .mk k a b s, d, n + 1, hd, h => by
    rw [Ge.parts] at h
    simp only [Bool.and_eq_true] at h
    rw [Ge.high]
    exact Ges.parts_high s (d + 1) n _ (by omega) h.1
theorem Ges.parts_high : ∀ (l : List Ge) (d n : Nat) (p : Nat × Bool), d + n = 6 → (Ges.parts l d p).2 = true → Ges.high l n
  | [], _, _, _, _, _ => by rw [Ges.high]; trivial
  | x :: r, d, n, p, hd, h => by
    rw [Ges.parts] at h
    split at h
    · have h3 : ∀ (l : List Ge) (q : Nat × Bool), (Ges.parts l d q).2 = true → q.2 = true := by
        intro l
        induction l with
        | nil => intro q h; rw [Ges.parts] at h; exact h
        | cons z t ih =>
          intro q h
          rw [Ges.parts] at h
          split at h
          · assumption
          · exact h
      have h4 := h3 r _ h
      simp only [Bool.and_eq_true] at h4
      rw [Ges.high]
      exact ⟨Ge.parts_high x d n hd h4.1, Ges.parts_high r d n _ hd h⟩
    · rename_i hp; exact absurd h hp
end
theorem oneE_int {a b : Int} {m : Nat} (h1 : oneE 2 a b m = 0) : 0 ≤ b - a ∧ b - a ≤ 1000 ∧ wrap64 (b - a) = b - a := by
  unfold oneE at h1
  rw [if_pos (by omega)] at h1
  have h2 : ¬ (numB a = false ∨ (2 : Int) = 2 ∧ (numB b = false ∨ b < a ∨ 1000 < b - a)) := fun h => by rw [if_pos h] at h1; omega
  have ab : a ≤ b := by
    by_cases h : b < a
    · exact absurd (.inr ⟨rfl, .inr (.inl h)⟩) h2
    · omega
  have sp : b - a ≤ 1000 := by
    by_cases h : 1000 < b - a
    · exact absurd (.inr ⟨rfl, .inr (.inr h)⟩) h2
    · omega
  exact ⟨by omega, sp, by unfold wrap64; omega⟩
theorem made_le : ∀ (g : Ge) (n : Nat), g.high n → g.wide → g.err = 0 → g.made.le (31 ^ n) := by
  refine Ge.ind fun k a b s ih => ?_
  intro n hh hw he
  cases n with
  | zero => rw [Ge.high] at hh; exact hh.elim
  | succ n =>
    rw [Ge.high] at hh
    rw [Ge.wide] at hw
    obtain ⟨h1, h2⟩ := Ge.err_parts he
    have sub : ∀ y ∈ s, y.made.le (31 ^ n) := fun y hy => ih y hy n (Ges.high_mem hh y hy) (Ges.wide_mem hw.2 y hy) (h2 y hy)
    have subs : ∀ c ∈ Ges.mades s, c.le (31 ^ n) := fun c hc => by
      obtain ⟨i, hi, rfl⟩ := List.getElem_of_mem hc
      have hi' : i < s.length := by rw [mades_len] at hi; exact hi
      have e : (Ges.mades s)[i] = s[i].made := by
        have := mades_getD s i hi' (.done default)
        rwa [List.getD_eq_getElem?_getD, List.getElem?_eq_getElem hi] at this
      rw [e]; exact sub _ (List.getElem_mem hi')
    have p31 : 1 ≤ 31 ^ n := Nat.pow_pos (by omega)
    have e31 : 31 ^ (n + 1) = 31 * 31 ^ n := by rw [Nat.pow_succ, Nat.mul_comm]
    rw [Ge.made]
    by_cases k1 : k = 1
    · subst k1; simp only [madeM, if_true]; rw [Ch.le]; trivial
    by_cases k2 : k = 2
    · subst k2
      obtain ⟨q1, q2, q3⟩ := oneE_int h1
      simp only [madeM, show ¬ ((2 : Int) = 1) by decide, if_false, if_true]
      rw [show 31 ^ (n + 1) = (31 ^ (n + 1) - 1) + 1 by omega, Ch.le, q3]
      exact ⟨q1, q2, fun x _ _ => by rw [Ch.le]; trivial⟩
    by_cases k3 : k = 3
    · subst k3
      simp only [madeM, show ¬ ((3 : Int) = 1) by decide, show ¬ ((3 : Int) = 2) by decide, if_false, if_true]
      have := Ch.le_bind (Ch.all (Ges.mades s)) (fun l => Ch.done (Va.mk true 0 l)) (m := 0) (Ch.le_all _ subs) fun l => by rw [Ch.le]; trivial
      refine Ch.le_mono _ ?_ this
      rw [mades_len, Nat.add_zero, e31]
      exact Nat.mul_le_mul_right _ (by omega)
    by_cases k4 : k = 4
    · subst k4
      have h1' := h1
      unfold oneE at h1'
      rw [if_neg (by omega), if_pos rfl] at h1'
      have aa : 0 ≤ a ∧ a ≤ 5 := by split at h1' <;> omega
      have sl : s.length = 1 := by
        rw [if_neg (by omega)] at h1'
        split at h1' <;> omega
      simp only [madeM, show ¬ ((4 : Int) = 1) by decide, show ¬ ((4 : Int) = 2) by decide, show ¬ ((4 : Int) = 3) by decide, if_false, if_true]
      rw [show 31 ^ (n + 1) = (31 ^ (n + 1) - 1) + 1 by omega, Ch.le]
      refine ⟨aa.1, by omega, fun x x0 x5 => ?_⟩
      have hc : ((Ges.mades s).getD 0 (.done default)).le (31 ^ n) := by
        rw [mades_getD s 0 (by omega)]
        exact sub _ (List.getElem_mem _)
      have := Ch.le_bind (Ch.all (List.replicate x.toNat ((Ges.mades s).getD 0 (.done default)))) (fun l => Ch.done (Va.mk true 0 l)) (m := 0) (Ch.le_all _ fun c hc' => by rw [List.eq_of_mem_replicate hc']; exact hc) fun l => by rw [Ch.le]; trivial
      refine Ch.le_mono _ ?_ this
      rw [List.length_replicate, Nat.add_zero, e31]
      have : x.toNat * 31 ^ n ≤ 5 * 31 ^ n := Nat.mul_le_mul_right _ (by omega)
      omega
    by_cases k5 : k = 5
    · subst k5
      have h1' := h1
      unfold oneE at h1'
      rw [if_neg (by omega), if_neg (by omega), if_neg (by omega), if_pos rfl] at h1'
      have sl : s.length ≠ 0 := by split at h1' <;> omega
      simp only [madeM, show ¬ ((5 : Int) = 1) by decide, show ¬ ((5 : Int) = 2) by decide, show ¬ ((5 : Int) = 3) by decide, show ¬ ((5 : Int) = 4) by decide, if_false, if_true]
      rw [show 31 ^ (n + 1) = (31 ^ (n + 1) - 1) + 1 by omega, Ch.le, mades_len]
      refine ⟨by omega, by omega, fun x x0 x5 => ?_⟩
      have hx : x.toNat < s.length := by omega
      rw [mades_getD s x.toNat hx]
      exact Ch.le_mono _ (by omega) (sub _ (List.getElem_mem hx))
    · unfold oneE at h1
      rw [if_neg (by omega), if_neg k4, if_neg k3, if_neg k5] at h1
      omega
/-- mending, as far as a tape may be long -/
def mendG (t : List Int) (out : List Int) (m : Int) : Except Int (List Int × Int) := if out.length < 1000000000000 then mendF t out m else .error 0
theorem clamp_in (t : List Int) (n : Nat) {m : Int} (h : 0 ≤ m) : 0 ≤ clampT t n m ∧ clampT t n m ≤ m := by unfold clampT; split <;> omega
theorem mend_same {α : Type} (t : List Int) : ∀ (c : Ch α) (n : Nat) (out : List Int), c.le n → out.length + n ≤ 1000000000000 → c.run (mendG t) out = c.run (mendF t) out
  | .done _, _, _, _, _ => by rw [Ch.run, Ch.run]
  | .ask _ _, 0, _, h, _ => by rw [Ch.le] at h; exact h.elim
  | .ask m k, n + 1, out, h, hl => by
    rw [Ch.le] at h
    have hb := clamp_in t out.length h.1
    rw [Ch.run, Ch.run, mendG, if_pos (by omega)]
    simp only [mendF]
    exact mend_same t (k (clampT t out.length m)) n _ (h.2.2 _ hb.1 hb.2) (by simp; omega)
theorem mendG_run (g : Ge) (t : List Int) (h : chkG g = 0) : ∃ x, g.made.run (mendG t) [] = .ok (mendL g t, x) := by
  obtain ⟨h1, h2⟩ := chkG_good h
  rw [mend_same t g.made (31 ^ 6) [] (made_le g 6 (Ge.parts_high g 0 6 rfl h1) (Ge.parts_wide g 0 h1) h2) (by simp)]
  exact (mendL_spec g t).1
theorem mend_range {α : Type} (t : List Int) : ∀ (c : Ch α) (n : Nat) (out out' : List Int) (x : α), c.le n → c.run (mendF t) out = .ok (out', x) → (∀ z ∈ out, 0 ≤ z ∧ z ≤ 1000) → ∀ z ∈ out', 0 ≤ z ∧ z ≤ 1000
  | .done _, _, _, _, _, _, hr, h => by
    rw [Ch.run] at hr
    injection hr with hr
    injection hr with hr _
    rw [← hr]; exact h
  | .ask _ _, 0, _, _, _, h, _, _ => by rw [Ch.le] at h; exact h.elim
  | .ask m k, n + 1, out, out', x, hc, hr, h => by
    rw [Ch.le] at hc
    have hb := clamp_in t out.length hc.1
    rw [Ch.run] at hr
    simp only [mendF] at hr
    refine mend_range t (k (clampT t out.length m)) n _ out' x (hc.2.2 _ hb.1 hb.2) hr fun z hz => ?_
    rcases List.mem_append.1 hz with hz | hz
    · exact h z hz
    · simp at hz; subst hz; omega
theorem mendL_range (g : Ge) (t : List Int) (h : chkG g = 0) : ∀ z ∈ mendL g t, 0 ≤ z ∧ z ≤ 1000 := by
  obtain ⟨h1, h2⟩ := chkG_good h
  obtain ⟨x, hx⟩ := (mendL_spec g t).1
  exact mend_range t g.made (31 ^ 6) [] _ x (made_le g 6 (Ge.parts_high g 0 6 rfl h1) (Ge.parts_wide g 0 h1) h2) hx (by simp)
theorem run_len {α : Type} (t : List Int) : ∀ (c : Ch α) (n : Nat) (out out' : List Int) (x : α), c.le n → c.run (mendF t) out = .ok (out', x) → out'.length ≤ out.length + n
  | .done _, _, _, _, _, _, hr => by
    rw [Ch.run] at hr
    injection hr with hr
    injection hr with hr _
    rw [← hr]; omega
  | .ask _ _, 0, _, _, _, h, _ => by rw [Ch.le] at h; exact h.elim
  | .ask m k, n + 1, out, out', x, hc, hr => by
    rw [Ch.le] at hc
    have hb := clamp_in t out.length hc.1
    rw [Ch.run] at hr
    simp only [mendF] at hr
    have := run_len t (k (clampT t out.length m)) n _ out' x (hc.2.2 _ hb.1 hb.2) hr
    simp at this; omega
theorem mendL_len (g : Ge) (t : List Int) (h : chkG g = 0) : (mendL g t).length ≤ 1000000000 := by
  obtain ⟨h1, h2⟩ := chkG_good h
  obtain ⟨x, hx⟩ := (mendL_spec g t).1
  have := run_len t g.made (31 ^ 6) [] _ x (made_le g 6 (Ge.parts_high g 0 6 rfl h1) (Ge.parts_wide g 0 h1) h2) hx
  simp at this; omega
end Go.Proofs.YtopehfmppfibhaaDoor
