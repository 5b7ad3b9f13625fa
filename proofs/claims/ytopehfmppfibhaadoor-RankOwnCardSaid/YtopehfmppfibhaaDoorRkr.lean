/- A tape that replays has a rank; so rank.Rank answers of whatever tape. No conditions. -/
import Derived.Test.YtopehfmppfibhaaDoorRke
import Derived.Test.YtopehfmppfibhaaDoorRlx
namespace Go.Proofs.YtopehfmppfibhaaDoor
open Go.RowKit
def RkOf (t : List Int) (g : Ge) : Prop := ∀ (pos pos' : Nat) (z : Va) (rest : List Ge) (r : Nat), GoodG g → g.made.run (replayF t) pos = .ok (pos', z) → Rk rest (t.drop pos') r → ∃ R, Rk (g :: rest) (t.drop pos) R
theorem rk_list {t : List Int} : ∀ (td : List Ge), (∀ y ∈ td, RkOf t y) → (∀ y ∈ td, GoodG y) → ∀ (pos pos' : Nat) (l : List Va) (rest : List Ge) (r : Nat), (Ch.all (Ges.mades td)).run (replayF t) pos = .ok (pos', l) → Rk rest (t.drop pos') r → ∃ R, Rk (td ++ rest) (t.drop pos) R
  | [], _, _, pos, pos', l, rest, r, hr, hk => by
    rw [Ges.mades, Ch.all, Ch.run] at hr
    injection hr with hr
    injection hr with hr _
    subst hr
    exact ⟨r, by simpa using hk⟩
  | g :: td, hp, hg, pos, pos', l, rest, r, hr, hk => by
    rw [Ges.mades] at hr
    obtain ⟨s1, x, l', h1, h2⟩ := all_cons_ok hr
    obtain ⟨R, hR⟩ := rk_list td (fun y hy => hp y (by simp [hy])) (fun y hy => hg y (by simp [hy])) s1 pos' l' rest r h2 hk
    exact hp g (by simp) pos s1 x (td ++ rest) R (hg g (by simp)) h1 hR
theorem replay_ask {α : Type} {t : List Int} {m : Int} {k : Int → Ch α} {pos pos' : Nat} {y : α} (h : (Ch.ask m k).run (replayF t) pos = .ok (pos', y)) : ∃ j : Nat, (j : Int) ≤ m ∧ t.drop pos = (j : Int) :: t.drop (pos + 1) ∧ (k j).run (replayF t) (pos + 1) = .ok (pos', y) := by
  rw [Ch.run] at h
  unfold replayF at h
  by_cases h1 : pos < t.length
  · by_cases h2 : 0 ≤ at0 t pos ∧ at0 t pos ≤ m
    · rw [if_pos h1, if_pos h2] at h
      refine ⟨(at0 t pos).toNat, by omega, ?_, ?_⟩
      · rw [List.drop_eq_getElem_cons h1]
        congr 1
        rw [show ((at0 t pos).toNat : Int) = at0 t pos by omega]
        unfold at0
        rw [List.getD_eq_getElem?_getD, List.getElem?_eq_getElem h1]; rfl
      · rw [show ((at0 t pos).toNat : Int) = at0 t pos by omega]; exact h
    · rw [if_pos h1, if_neg h2] at h; cases h
  · rw [if_neg h1] at h; cases h
theorem mades_rep (g : Ge) : ∀ n, Ges.mades (List.replicate n g) = List.replicate n g.made
  | 0 => by simp [Ges.mades]
  | n + 1 => by rw [List.replicate_succ, Ges.mades, mades_rep g n, List.replicate_succ]
theorem rk_of (t : List Int) : ∀ g, RkOf t g := by
  refine Ge.ind fun k a b s ih => ?_
  intro pos pos' z rest r hg hr hk
  have he := hg.right
  obtain ⟨h1, _⟩ := Ge.err_parts he
  rw [Ge.made] at hr
  by_cases k1 : k = 1
  · subst k1
    simp only [madeM, if_true, Ch.run] at hr
    injection hr with hr
    injection hr with hr _
    subst hr
    exact ⟨r, .just hk⟩
  by_cases k3 : k = 3
  · subst k3
    simp only [madeM, show ¬ ((3 : Int) = 1) by decide, show ¬ ((3 : Int) = 2) by decide, if_false, if_true] at hr
    obtain ⟨l, hl⟩ := bind_done_ok hr
    obtain ⟨R, hR⟩ := rk_list s ih hg.part pos pos' l rest r hl hk
    exact ⟨R, .both hR⟩
  by_cases k2 : k = 2
  · subst k2
    obtain ⟨q1, q2, q3⟩ := oneE_int h1
    simp only [madeM, show ¬ ((2 : Int) = 1) by decide, if_false, if_true] at hr
    obtain ⟨j, hj, ht, hr⟩ := replay_ask hr
    rw [Ch.run] at hr
    injection hr with hr
    injection hr with hr _
    subst hr
    rw [q3] at hj
    have hb : (Ge.mk 2 a b s).brs = List.replicate (b - a + 1).toNat [] := by rw [Ge.brs, if_pos rfl]
    have hjl : j < (Ge.mk 2 a b s).brs.length := by rw [hb, List.length_replicate]; omega
    have hbj : (Ge.mk 2 a b s).brs[j] = [] := by simp [hb]
    have h0 : Rk ((Ge.mk 2 a b s).brs[j] ++ rest) (t.drop (pos + 1)) r := by rw [hbj]; exact hk
    exact ⟨_, by rw [ht]; exact .pick (by decide) (by decide) hjl h0⟩
  by_cases k4 : k = 4
  · subst k4
    have h1' := h1
    unfold oneE at h1'
    rw [if_neg (by omega), if_pos rfl] at h1'
    have aa : 0 ≤ a ∧ a ≤ 5 := by split at h1' <;> omega
    have sl : s.length = 1 := by
      rw [if_neg (by omega)] at h1'
      split at h1' <;> omega
    match s, sl with
    | [y], _ =>
    simp only [madeM, show ¬ ((4 : Int) = 1) by decide, show ¬ ((4 : Int) = 2) by decide, show ¬ ((4 : Int) = 3) by decide, if_false, if_true] at hr
    obtain ⟨j, hj, ht, hr⟩ := replay_ask hr
    obtain ⟨l, hl⟩ := bind_done_ok hr
    rw [Int.toNat_natCast, show (Ges.mades [y]).getD 0 (.done default) = y.made by simp [Ges.mades], ← mades_rep] at hl
    have hy : GoodG y := hg.part y (by simp)
    obtain ⟨R, hR⟩ := rk_list (List.replicate j y) (fun x hx => by rw [List.eq_of_mem_replicate hx]; exact ih y (by simp)) (fun x hx => by rw [List.eq_of_mem_replicate hx]; exact hy) (pos + 1) pos' l rest r hl hk
    have hb : (Ge.mk 4 a b [y]).brs = (List.range (a.toNat + 1)).map fun i => List.replicate i y := by rw [Ge.brs, if_neg (by decide), if_pos rfl]; rfl
    have hjl : j < (Ge.mk 4 a b [y]).brs.length := by rw [hb, List.length_map, List.length_range]; omega
    have hbj : (Ge.mk 4 a b [y]).brs[j] = List.replicate j y := by simp [hb]
    have h0 : Rk ((Ge.mk 4 a b [y]).brs[j] ++ rest) (t.drop (pos + 1)) R := by rw [hbj]; exact hR
    exact ⟨_, by rw [ht]; exact .pick (by decide) (by decide) hjl h0⟩
  by_cases k5 : k = 5
  · subst k5
    simp only [madeM, show ¬ ((5 : Int) = 1) by decide, show ¬ ((5 : Int) = 2) by decide, show ¬ ((5 : Int) = 3) by decide, show ¬ ((5 : Int) = 4) by decide, if_false, if_true] at hr
    obtain ⟨j, hj, ht, hr⟩ := replay_ask hr
    rw [mades_len] at hj
    have hjs : j < s.length := by omega
    rw [Int.toNat_natCast, mades_getD s j hjs] at hr
    obtain ⟨R, hR⟩ := ih s[j] (List.getElem_mem hjs) (pos + 1) pos' z rest r (hg.part _ (List.getElem_mem hjs)) hr hk
    have hb : (Ge.mk 5 a b s).brs = s.map fun y => [y] := by rw [Ge.brs, if_neg (by decide), if_neg (by decide), if_pos rfl]
    have hjl : j < (Ge.mk 5 a b s).brs.length := by rw [hb, List.length_map]; exact hjs
    have hbj : (Ge.mk 5 a b s).brs[j] = [s[j]] := by simp [hb]
    have h0 : Rk ((Ge.mk 5 a b s).brs[j] ++ rest) (t.drop (pos + 1)) R := by rw [hbj]; exact hR
    exact ⟨_, by rw [ht]; exact .pick (by decide) (by decide) hjl h0⟩
  · unfold oneE at h1
    rw [if_neg (by omega), if_neg k4, if_neg k3, if_neg k5] at h1
    omega
theorem rank_of {g : Ge} {t : List Int} {z : Va} (h : replR g t = .ok z) : ∃ R, Rk [g] t R := by
  obtain ⟨hc, hr, _, _⟩ := replR_ok h
  have := rk_of t g 0 t.length z [] 0 (chk_goodG hc) hr (by rw [List.drop_length]; exact .nil)
  simpa using this
/-- what is wrong with a rank that is asked for -/
def rankE (g : Ge) (t : List Int) : Int := if cntE g ≠ 0 then cntE g else match replR g t with
  | .error c => c
  | .ok _ => 0
end Go.Proofs.YtopehfmppfibhaaDoor
