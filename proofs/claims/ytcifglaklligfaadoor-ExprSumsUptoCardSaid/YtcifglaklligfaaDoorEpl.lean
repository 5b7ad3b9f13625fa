/- What an expression's number is, where it has one: within int64; And, Or of itself, Add of nought give it back; Add, And, Or may be grouped either way. No conditions. -/
import Derived.Test.YtcifglaklligfaaDoorEve
import Derived.Test.YtcifglaklligfaaDoorExn
namespace Go.Proofs.YtcifglaklligfaaDoor
open Go.RowKit Go.ChangeShapes
def Ok64 (n : Int) : Prop := -9223372036854775808 ≤ n ∧ n ≤ 9223372036854775807
theorem wrap_ok (n : Int) : Ok64 (wrap64 n) := by unfold Ok64 wrap64; omega
theorem wrap_id {n : Int} (h : Ok64 n) : wrap64 n = n := by unfold Ok64 at h; unfold wrap64; omega
theorem wrap_add_l (a b : Int) : wrap64 (wrap64 a + b) = wrap64 (a + b) := by unfold wrap64; omega
theorem wrap_add_r (a b : Int) : wrap64 (a + wrap64 b) = wrap64 (a + b) := by unfold wrap64; omega
theorem evalR_zero {x : Ex} {v : Va} (h : (evalR x v).2 = 0) : x.ev v = some (evalR x v).1 := by
  unfold evalR at h ⊢
  by_cases h1 : chkE x = 0
  · by_cases h2 : chkV v = 0
    · rw [if_neg (by simp [h1]), if_neg (by simp [h2])] at h ⊢
      cases hx : x.ev v with
      | none => rw [hx] at h; simp [evN] at h
      | some n => rfl
    · rw [if_neg (by simp [h1]), if_pos h2] at h; exact absurd h h2
  · rw [if_pos h1] at h; exact absurd h h1
theorem ev_two {k : Int} (hk : k = 5 ∨ k = 10 ∨ k = 11) (x y : Ex) (v : Va) : (Ex.mk k 0 [x, y]).ev v = twoM k (x.ev v) (y.ev v) := by
  rcases hk with rfl | rfl | rfl <;> simp [Ex.ev, Exs.ev, opM]
theorem and_same {x : Ex} {v : Va} (h : (evalR x v).2 = 0) (h' : (evalR (.mk 10 0 [x, x]) v).2 = 0) : (evalR (.mk 10 0 [x, x]) v).1 = (evalR x v).1 := by
  have e1 := evalR_zero h
  have e2 := evalR_zero h'
  rw [ev_two (by simp), e1] at e2
  generalize (evalR (.mk 10 0 [x, x]) v).1 = b at *
  generalize (evalR x v).1 = a at *
  simp only [twoM, twoN, finM] at e2
  by_cases ha : a = 0 <;> simp [ha] at e2 <;> omega
theorem or_same {x : Ex} {v : Va} (h : (evalR x v).2 = 0) (h' : (evalR (.mk 11 0 [x, x]) v).2 = 0) : (evalR (.mk 11 0 [x, x]) v).1 = (evalR x v).1 := by
  have e1 := evalR_zero h
  have e2 := evalR_zero h'
  rw [ev_two (by simp), e1] at e2
  generalize (evalR (.mk 11 0 [x, x]) v).1 = b at *
  generalize (evalR x v).1 = a at *
  simp only [twoM, twoN, finM] at e2
  by_cases ha : a = 0 <;> simp [ha] at e2 <;> omega
theorem add_nought {x : Ex} {v : Va} (h : (evalR x v).2 = 0) (h' : (evalR (.mk 5 0 [x, .mk 1 0 []]) v).2 = 0) (hok : Ok64 (evalR x v).1) : (evalR (.mk 5 0 [x, .mk 1 0 []]) v).1 = (evalR x v).1 := by
  have e1 := evalR_zero h
  have e2 := evalR_zero h'
  rw [ev_two (by simp), e1, show (Ex.mk 1 0 []).ev v = some 0 by simp [Ex.ev, opM]] at e2
  generalize (evalR (.mk 5 0 [x, .mk 1 0 []]) v).1 = b at *
  generalize (evalR x v).1 = a at *
  simp [twoM, twoN, finM] at e2
  rw [← e2, wrap_id hok]
theorem two_group {k : Int} (hk : k = 5 ∨ k = 10 ∨ k = 11) {x y z : Ex} {v : Va} (h : (evalR (.mk k 0 [.mk k 0 [x, y], z]) v).2 = 0) (h' : (evalR (.mk k 0 [x, .mk k 0 [y, z]]) v).2 = 0) :
    (evalR (.mk k 0 [.mk k 0 [x, y], z]) v).1 = (evalR (.mk k 0 [x, .mk k 0 [y, z]]) v).1 := by
  have e1 := evalR_zero h
  have e2 := evalR_zero h'
  rw [ev_two hk, ev_two hk] at e1 e2
  generalize (evalR (.mk k 0 [.mk k 0 [x, y], z]) v).1 = p at *
  generalize (evalR (.mk k 0 [x, .mk k 0 [y, z]]) v).1 = q at *
  clear h h'
  generalize x.ev v = a at *
  generalize y.ev v = b at *
  generalize z.ev v = c at *
  have key : ∀ r, r = twoM k (twoM k a b) c → r = some p → twoM k a (twoM k b c) = some q → some p = some q := by
    intro r _ _ h2
    rw [← e1, ← h2]
    rcases hk with rfl | rfl | rfl
    · cases a <;> cases b <;> cases c <;> simp [twoM, twoN, finM, wrap_add_l, wrap_add_r, Int.add_assoc]
    · cases a with
      | none => rfl
      | some a =>
        by_cases ha : a = 0
        · simp [twoM, ha]
        · have t1 : ∀ r, twoM 10 (some a) r = r := fun r => by cases r <;> simp [twoM, twoN, finM, ha]
          rw [t1, t1]
    · cases a with
      | none => rfl
      | some a =>
        by_cases ha : a = 0
        · have t1 : ∀ r, twoM 11 (some a) r = r := fun r => by cases r <;> simp [twoM, twoN, finM, ha]
          rw [t1, t1]
        · simp [twoM, ha]
  exact Option.some.inj (key _ rfl e1 e2)
mutual
/-- every number within int64, no list too long -/
def Va.fit : Va → Prop
  | .mk _ n s => Ok64 n ∧ s.length ≤ 9223372036854775807 ∧ Vas.fit s
def Vas.fit : List Va → Prop
  | [] => True
  | y :: r => y.fit ∧ Vas.fit r
end
mutual
theorem VaIn.fit {F : Nat → Prop} {w : World} : ∀ (x : Va) {a b c : Value}, VaIn F w x a b c → x.fit
  | .mk k n s, a, b, c, h => by
    rw [VaIn] at h
    obtain ⟨_, _, h3, A, cp, _, h6, h7⟩ := h
    rw [Va.fit]
    refine ⟨?_, ?_, ?_⟩
    · simp only [Lit.wf, IntKind.min, IntKind.max, IntKind.signed, IntKind.bits, Bool.and_eq_true, decide_eq_true_eq, if_true] at h3
      unfold Ok64; omega
    · have := h6.2; have := h6.1; unfold maxLen at *; omega
    · match s, h7 with
      | [], _ => rw [Vas.fit]; trivial
      | y :: r, h7 =>
        obtain ⟨bl, off, _, _, hx⟩ := h7 (by simp)
        exact VasIn.fit (y :: r) hx
theorem VasIn.fit {F : Nat → Prop} {w : World} : ∀ (s : List Va) {bl o : Nat}, VasIn F w s bl o → Vas.fit s
  | [], _, _, _ => by rw [Vas.fit]; trivial
  | x :: r, bl, o, h => by
    rw [VasIn] at h
    obtain ⟨⟨a, b, c, _, _, _, h4⟩, h5⟩ := h
    rw [Vas.fit]
    exact ⟨VaIn.fit x h4, VasIn.fit r h5⟩
end
mutual
theorem Va.nums_ok : ∀ (x : Va), x.fit → ∀ n ∈ x.nums, Ok64 n
  | .mk k n s, h, m, hm => by
    rw [Va.fit] at h
    rw [Va.nums] at hm
    rcases List.mem_append.1 hm with hm | hm
    · cases k
      · simp at hm; subst hm; exact h.1
      · simp at hm
    · exact Vas.nums_ok s h.2.2 m hm
theorem Vas.nums_ok : ∀ (s : List Va), Vas.fit s → ∀ n ∈ Vas.nums s, Ok64 n
  | [], _, m, hm => by rw [Vas.nums] at hm; cases hm
  | y :: r, h, m, hm => by
    rw [Vas.fit] at h
    rw [Vas.nums] at hm
    rcases List.mem_append.1 hm with hm | hm
    · exact Va.nums_ok y h.1 m hm
    · exact Vas.nums_ok r h.2 m hm
end
theorem ok_zero : Ok64 0 := by unfold Ok64; omega
theorem fold_sum_ok : ∀ (l : List Int) (a : Int), Ok64 a → Ok64 (l.foldl (fun a k => wrap64 (a + k)) a)
  | [], a, h => h
  | k :: r, a, _ => fold_sum_ok r _ (wrap_ok _)
theorem fold_top_ok : ∀ (l : List Int) (p : Bool × Int), (∀ n ∈ l, Ok64 n) → Ok64 p.2 → Ok64 (l.foldl (fun p k => if !p.1 || decide (p.2 < k) then (true, k) else p) p).2
  | [], p, _, h => h
  | k :: r, p, hl, h => by
    refine fold_top_ok r _ (fun n hn => hl n (by simp [hn])) ?_
    simp only []
    split
    · exact hl k (by simp)
    · exact h
theorem truth_ok (b : Bool) : Ok64 (truthI b) := by cases b <;> (unfold Ok64 truthI; simp)
theorem rem_ok {a b : Int} (hb : b ≠ 0) (h : Ok64 b) : Ok64 (a.tmod b) := by
  have h1 := Int.natAbs_tmod a b
  have h2 : a.natAbs % b.natAbs < b.natAbs := Nat.mod_lt _ (by omega)
  unfold Ok64 at *
  omega
theorem ev_ok (v : Va) (hv : v.fit) : ∀ x : Ex, x.wf → ∀ n, x.ev v = some n → Ok64 n := by
  refine Ex.ind fun k m s ih hx n h => ?_
  rw [Ex.wf, Exs.wf_iff] at hx
  have sub : ∀ i a, (Exs.ev v s).getD i none = some a → Ok64 a := fun i a ha => by
    by_cases hi : i < s.length
    · rw [Exs.ev_getD v s i hi] at ha
      exact ih _ (List.getElem_mem hi) (hx.2 _ (List.getElem_mem hi)) a ha
    · have hl : ∀ s : List Ex, (Exs.ev v s).length = s.length := fun s => by induction s with
        | nil => rfl
        | cons y r ihr => simp [Exs.ev, ihr]
      rw [List.getD_eq_getElem?_getD, List.getElem?_eq_none (by rw [hl]; omega)] at ha
      cases ha
  rw [Ex.ev] at h
  unfold opM at h
  split at h
  · injection h with h; subst h
    have h3 := hx.1
    simp only [Lit.wf, IntKind.min, IntKind.max, IntKind.signed, IntKind.bits, Bool.and_eq_true, decide_eq_true_eq, if_true] at h3
    unfold Ok64; omega
  split at h
  · injection h with h; subst h; exact fold_sum_ok _ _ ok_zero
  split at h
  · injection h with h; subst h; exact fold_top_ok _ _ (Va.nums_ok v hv) ok_zero
  split at h
  · injection h with h; subst h
    obtain ⟨k', n', s'⟩ := v
    rw [Va.fit] at hv
    show Ok64 (s'.length : Int)
    have := hv.2.1
    unfold Ok64; omega
  generalize h0 : (Exs.ev v s).getD 0 none = r0 at *
  generalize h1 : (Exs.ev v s).getD 1 none = r1 at *
  split at h
  · cases r0 with
    | none => cases h
    | some a => injection h with h; subst h; exact truth_ok _
  · cases r0 with
    | none => cases h
    | some a =>
      have oa := sub 0 a h0
      rw [twoM] at h
      split at h
      · injection h with h; subst h; exact oa
      · cases r1 with
        | none => cases h
        | some b =>
          have ob := sub 1 b h1
          rw [twoN, finM] at h
          split at h
          · injection h with h; subst h; exact ob
          split at h
          · injection h with h; subst h; exact wrap_ok _
          split at h
          · injection h with h; subst h; exact truth_ok _
          split at h
          · injection h with h; subst h; exact truth_ok _
          split at h
          · cases h
          · rename_i hb
            injection h with h; subst h; exact rem_ok hb ob
theorem lit_seven : evalR (.mk 1 7 []) (.mk false 0 []) = (7, 0) := by decide
end Go.Proofs.YtcifglaklligfaaDoor
